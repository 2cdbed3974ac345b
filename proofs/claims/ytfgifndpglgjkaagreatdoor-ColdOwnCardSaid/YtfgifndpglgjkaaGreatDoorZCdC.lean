/- Cold stripes: names. -/
import Derived.Test.YtfgifndpglgjkaaGreatDoorZScG
import Derived.Test.YtfgifndpglgjkaaGreatDoorZCdI
import Derived.Test.YtfgifndpglgjkaaGreatDoorZCodecSpec
import Derived.Test.YtfgifndpglgjkaaGreatDoorZRange
import Derived.Test.YtfgifndpglgjkaaGreatDoorZRows2
import Derived.Lib.AppendIntMem
import Derived.Deep.DeepCutAuto
import Derived.Test.YtfgifndpglgjkaaGreatDoorZQRsc
import Derived.Lib.LazyBuf
set_option linter.unusedVariables false
set_option linter.unusedSimpArgs false
section
set_option maxRecDepth 100000
set_option linter.unusedVariables false
set_option linter.unusedSimpArgs false
namespace Go.Proofs.YtfgifndpglgjkaaGreatDoor
open Go.RowKit
attribute [local go_sem] bstr_size

/-- The package's variables that are read. -/
structure Cst (w : World) : Prop where
  laid : Laid w
  tab : Lib.TabIs Tryz.prog w "internal/strconv.uint64pow10" .u64 Lib.pow10Tab
theorem gPow_ : Tryz.prog.globalNamed "internal/strconv.uint64pow10" = some 0 := by kernel_rfl
theorem Cst.below {w w' : World} (h : Cst w) (hb : Below w.heap.size w w') : Cst w' := by
  refine ⟨h.laid.below hb, ?_⟩
  have h1 := h.tab
  unfold Lib.TabIs at h1 ⊢
  rw [var?_below hb gPow_ ?_]
  · exact h1
  · rcases Nat.lt_or_ge 0 w.heap.size with h2 | h2
    · exact h2
    · exfalso
      simp [World.var?, gPow_, Array.getElem?_eq_none h2] at h1
theorem itoa_any (k : Nat) (hk : k ≤ 1000000000) (w : World) (h : Cst w) :
    Calls Tryz.prog 30 #[.int .i64 k] w fun e w' => e = .returned (.string (bstr (Lib.decDigits k))) ∧ Below w.heap.size w w' := by
  refine (Tryz.strconv_Itoa k (by omega) (by omega) w h.tab).mono ?_
  rintro e w' ⟨rfl, q, os, rfl⟩
  rw [Lib.itoa_nonneg]
  exact ⟨rfl, Lib.below_grow _ _ (Nat.le_refl _) _ _⟩
theorem dec_last {n : Nat} : ∃ r, Lib.decDigits n = r ++ [UInt8.ofNat (48 + n % 10)] ∧ (10 ≤ n → r = Lib.decDigits (n / 10)) ∧ (n < 10 → r = []) := by
  by_cases h : n < 10
  · refine ⟨[], ?_, fun h' => by omega, fun _ => rfl⟩
    rw [Lib.decDigits, dif_pos h, show n % 10 = n by omega]; rfl
  · refine ⟨Lib.decDigits (n / 10), ?_, fun _ => rfl, fun h' => by omega⟩
    conv => lhs; rw [Lib.decDigits, dif_neg h]
theorem bstr_join (a b : List UInt8) : bstr a ++ bstr b = bstr (a ++ b) := by
  apply ByteArray.ext
  simp [bstr]
def dpre (n : Nat) : List UInt8 := if n < 10 then [] else Lib.decDigits (n / 10)
theorem dec_pre (n : Nat) : Lib.decDigits n = dpre n ++ [UInt8.ofNat (48 + n % 10)] := by
  obtain ⟨r, h1, h2, h3⟩ := dec_last (n := n)
  unfold dpre
  by_cases h : n < 10
  · rw [h1, h3 h, if_pos h]
  · rw [h1, h2 (by omega), if_neg h]
theorem ddec_step {N n : Nat} {rest : List UInt8} (hn : 10 ≤ n) (h : Lib.decDigits N = dpre n ++ rest) : Lib.decDigits N = dpre (n / 10) ++ (UInt8.ofNat (48 + n / 10 % 10) :: rest) := by
  rw [h, show dpre n = Lib.decDigits (n / 10) by unfold dpre; rw [if_neg (by omega)], dec_pre (n / 10)]
  simp
theorem dec_len (n : Nat) : (Lib.decDigits n).length ≤ n + 1 := by
  induction n using Nat.strongRecOn with
  | ind n ih =>
    rw [dec_pre]
    unfold dpre
    by_cases h : n < 10
    · rw [if_pos h]; simp
    · rw [if_neg h]
      have := ih (n / 10) (by omega)
      simp
      omega
set_option maxHeartbeats 1000000 in
theorem rdecimal_any (N : Nat) (hN : N ≤ 1000000000) (w : World) :
    Calls Tryz.prog 69 #[.int .i64 N] w fun e w' => e = .returned (.string (bstr (Lib.decDigits N))) ∧ Below w.heap.size w w' := by
  have HD : Hid (Lib.decDigits N = dpre N ++ (UInt8.ofNat (48 + N % 10) :: [])) := Lib.hid (dec_pre N)
  obtain ⟨d, hd⟩ : ∃ d, d = N % 10 := ⟨_, rfl⟩
  obtain ⟨z, hz⟩ : ∃ z, z = 48 + d := ⟨_, rfl⟩
  rw [← hd, ← hz] at HD
  have e1 : (N : Int) % 10 = (d : Int) := by omega
  have e1' : Int.tmod (N : Int) 10 = (d : Int) := by rw [Int.tmod_eq_emod_of_nonneg (by omega)]; omega
  have e2 : (48 : Int) + (d : Int) = (z : Int) := by omega
  have hlt : z < 256 := by omega
  have hw1 : IntKind.u8.wrap (z : Int) = (z : Int) := by rw [IntKind.wrap_u8]; omega
  have v1 := conv_bytes (Bs.oneN w z hlt)
  have hb1 := below_alloc1 w (.cells #[.int .u8 (z : Int)] 5)
  have HB1 := Lib.hid hb1
  clear hb1 hd hz
  go_enter Tryz.func69, Tryz.ntmps69
  go_wp2_with fail
  go_loopw [0, 3] (fun nv sv wr => ∃ n : Nat, ∃ rest : List UInt8, n ≤ 1000000000 ∧ nv = .int .i64 n ∧ sv = .string (bstr rest) ∧ Hid (Lib.decDigits N = dpre n ++ rest) ∧ Hid (Below w.heap.size w wr)) (fun nv _ _ => (intOf nv).toNat)
  case atStart => exact ⟨N, [UInt8.ofNat z], hN, rfl, rfl, HD, HB1⟩
  case round =>
    obtain ⟨n, rest, hn, rfl, rfl, HR, HB⟩ := hrel
    by_cases h10 : n < 10
    · have t1 : decide ((10 : Int) ≤ (n : Int)) = false := decide_eq_false (by omega)
      have t2 : decide (10 ≤ n) = false := decide_eq_false (by omega)
      have HR2 : Hid (bstr rest = bstr (Lib.decDigits N)) := Lib.hid (by rw [HR.out]; unfold dpre; rw [if_pos h10]; rfl)
      go_wp2
      go_ret
      exact ⟨by rw [← HR2.out]; rfl, HB.out⟩
    · have t1 : decide ((10 : Int) ≤ (n : Int)) = true := decide_eq_true (by omega)
      have t2 : decide (10 ≤ n) = true := decide_eq_true (by omega)
      have HR2 := Lib.hid (ddec_step (by omega) HR.out)
      have hrl : 1 + rest.length ≤ 9223372036854775807 := by
        have h1 := congrArg List.length HR.out
        rw [List.length_append] at h1
        have h2 := dec_len N
        omega
      have hrl' : decide (9223372036854775807 < 1 + rest.length) = false := decide_eq_false (by omega)
      obtain ⟨q, hq⟩ : ∃ q, q = n / 10 := ⟨_, rfl⟩
      obtain ⟨d, hd⟩ : ∃ d, d = q % 10 := ⟨_, rfl⟩
      obtain ⟨z, hz⟩ : ∃ z, z = 48 + d := ⟨_, rfl⟩
      have f0 : (n : Int) / 10 = ((q : Nat) : Int) := by omega
      have f0' : Int.tdiv (n : Int) 10 = ((q : Nat) : Int) := by rw [Int.tdiv_eq_ediv_of_nonneg (by omega)]; omega
      have f1 : (q : Int) % 10 = (d : Int) := by omega
      have f1' : Int.tmod (q : Int) 10 = (d : Int) := by rw [Int.tmod_eq_emod_of_nonneg (by omega)]; omega
      have f2 : (48 : Int) + (d : Int) = (z : Int) := by omega
      have hlt2 : z < 256 := by omega
      have hw2 : IntKind.u8.wrap (z : Int) = (z : Int) := by rw [IntKind.wrap_u8]; omega
      have v2 := conv_bytes (Bs.oneN wr z hlt2)
      have HB2 : Hid (Below w.heap.size w (wr.alloc (.cells #[.int .u8 (z : Int)] 5))) := Lib.hid (HB.out.alloc HB.out.size _)
      have HJ := Lib.hid (bstr_join [UInt8.ofNat z] rest)
      rw [← hq, ← hd, ← hz] at HR2
      have HQ := Lib.hid hq
      clear hq hd hz v1 e1 e1' e2 hlt hw1
      go_wp2
      go_roundw
      case rel => exact ⟨q, UInt8.ofNat z :: rest, by have := HQ.out; omega, by go_num, by rw [HJ.out]; rfl, HR2, HB2⟩
      case measure => simp [intOf]; have := HQ.out; omega
theorem dec_three {k : Nat} (h : k < 1000) : 1 ≤ (Lib.decDigits k).length ∧ (Lib.decDigits k).length ≤ 3 := by
  have h1 : ∀ n, 1 ≤ (Lib.decDigits n).length := fun n => by obtain ⟨r, h, _, _⟩ := dec_last (n := n); rw [h, List.length_append]; simp
  have h2 : ∀ n, n < 10 → (Lib.decDigits n).length ≤ 1 := fun n hn => by obtain ⟨r, h, _, h3⟩ := dec_last (n := n); rw [h, h3 hn]; simp
  have h3 : ∀ n, n < 100 → (Lib.decDigits n).length ≤ 2 := fun n hn => by
    by_cases hc : n < 10
    · have := h2 n hc; omega
    · obtain ⟨r, h, h4, _⟩ := dec_last (n := n)
      have := h2 (n / 10) (by omega)
      rw [h, h4 (by omega), List.length_append]
      simp; omega
  refine ⟨h1 k, ?_⟩
  by_cases hc : k < 10
  · have := h2 k hc; omega
  · obtain ⟨r, h, h4, _⟩ := dec_last (n := k)
    have := h3 (k / 10) (by omega)
    rw [h, h4 (by omega), List.length_append]
    simp; omega
/-- Three digits of a number. -/
def Cd.d3 (k : Nat) : List UInt8 := List.replicate (3 - (Lib.decDigits k).length) 48 ++ Lib.decDigits k
/-- The last three digits of a number, without a sign. -/
def Cd.three (i : Int) : Nat := (Int.tmod i 1000).natAbs
theorem tmod_1000 (i : Int) : Int.tmod i 1000 = if 0 ≤ i then i % 1000 else -((-i) % 1000) := by
  by_cases h : 0 ≤ i
  · rw [if_pos h, Int.tmod_eq_emod_of_nonneg h]
  · rw [if_neg h]
    have := Int.neg_tmod (a := -i) (b := 1000)
    rw [Int.neg_neg] at this
    rw [this, Int.tmod_eq_emod_of_nonneg (by omega)]
theorem three_lt (i : Int) : Cd.three i < 1000 := by
  unfold Cd.three
  rw [tmod_1000]
  split <;> omega
def Cd.name (s : Nat) (i : Int) : List UInt8 := [115, 45] ++ hx 16 s ++ [45] ++ Cd.d3 (Cd.three i)
set_option maxHeartbeats 1000000 in
theorem name_any (s : Nat) (i : Int) (hs : U64 s) (hi : Cd.I64 i) (w : World) (hc : Cst w) :
    Calls Tryz.prog 11 #[.int .u64 s, .int .i64 i] w fun e w' => e = .returned (.string (bstr (Cd.name s i))) ∧ Below w.heap.size w w' := by
  have HF := Lib.hid (fmt_any s hs w hc.laid)
  have HC := Lib.hid hc
  have hxp := hxf_pos s
  obtain ⟨hxl, hxe⟩ := hx_of 15 s (by have := hs.lt; omega)
  have HXE := Lib.hid hxe
  obtain ⟨k, hk⟩ : ∃ k, k = Cd.three i := ⟨_, rfl⟩
  have hk3 := three_lt i
  obtain ⟨hd1, hd3⟩ := dec_three (k := Cd.three i) hk3
  have HN : Hid (Cd.name s i = [115, 45] ++ hx 16 s ++ [45] ++ (List.replicate (3 - (Lib.decDigits k).length) 48 ++ Lib.decDigits k)) := Lib.hid (by rw [hk]; rfl)
  rw [← hk] at hk3 hd1 hd3
  clear hxe hc hs
  obtain ⟨t, ht⟩ : ∃ t, t = Int.tmod i 1000 := ⟨_, rfl⟩
  have hkt : k = t.natAbs := by rw [hk, ht]; rfl
  have htb : -1000 < t ∧ t < 1000 := by rw [ht, tmod_1000]; split <;> omega
  have HT := Lib.hid ht
  clear hk ht
  have HR1 : Hid (∀ W, Calls Tryz.prog 31 #[.string ⟨#[48]⟩, .int .i64 (16 - (hxf s).length : Int)] W fun e w' => e = .returned (.string (bstr (List.replicate (16 - (hxf s).length) 48))) ∧ W = w') := Lib.hid fun W => by
    have h := repeat_any (16 - (hxf s).length) (by omega) W
    rw [show ((16 - (hxf s).length : Nat) : Int) = 16 - ((hxf s).length : Int) by omega] at h
    exact h
  have HR2 : Hid (∀ W, Calls Tryz.prog 31 #[.string ⟨#[48]⟩, .int .i64 (3 - (Lib.decDigits k).length : Int)] W fun e w' => e = .returned (.string (bstr (List.replicate (3 - (Lib.decDigits k).length) 48))) ∧ W = w') := Lib.hid fun W => by
    have h := repeat_any (3 - (Lib.decDigits k).length) (by omega) W
    rw [show ((3 - (Lib.decDigits k).length : Nat) : Int) = 3 - ((Lib.decDigits k).length : Int) by omega] at h
    exact h
  have hz : IntKind.i64.wrap (16 - ((hxf s).length : Int)) = 16 - ((hxf s).length : Int) := by rw [IntKind.wrap_i64]; omega
  have hz2 : IntKind.i64.wrap (3 - ((Lib.decDigits k).length : Int)) = 3 - ((Lib.decDigits k).length : Int) := by rw [IntKind.wrap_i64]; omega
  have HTT : Hid (∀ W : World, True) := Lib.hid fun _ => trivial
  generalize hxf s = x at *
  go_enter Tryz.func11, Tryz.ntmps11
  go_wp2_with fail
  refine HF.out.mono ?_
  rintro e w1 ⟨rfl, hb1⟩
  have HB1 := Lib.hid hb1
  clear hb1 HF
  have htt := HT.out.symm
  have HFIN : Hid (Ending.returned (.string ((⟨#[115, 45]⟩ : ByteArray) ++ bstr (List.replicate (16 - x.length) 48) ++ bstr x ++ (⟨#[45]⟩ : ByteArray) ++ bstr (List.replicate (3 - (Lib.decDigits k).length) 48) ++ bstr (Lib.decDigits k))) = Ending.returned (.string (bstr ([115, 45] ++ hx 16 s ++ [45] ++ (List.replicate (3 - (Lib.decDigits k).length) 48 ++ Lib.decDigits k))))) := Lib.hid (by
    rw [show hx 16 s = List.replicate (16 - x.length) 48 ++ x from HXE.out, show (⟨#[115, 45]⟩ : ByteArray) = bstr [115, 45] from rfl, show (⟨#[45]⟩ : ByteArray) = bstr [45] from rfl]
    simp only [bstr_join, List.append_assoc])
  by_cases ht0 : t < 0
  · have t1 : decide (t < 0) = true := decide_eq_true ht0
    have en : -t = (k : Int) := by omega
    have en0 : 0 - t = (k : Int) := by omega
    have ew : IntKind.i64.wrap (k : Int) = (k : Int) := by rw [IntKind.wrap_i64]; omega
    clear hkt
    go_wp2_with fail
    refine (itoa_any k (by omega) w1 (HC.out.below HB1.out)).mono ?_
    rintro e w2 ⟨rfl, hb2⟩
    have HB2 := Lib.hid (HB1.out.trans (hb2.mono HB1.out.size))
    clear hb2
    go_wp2_with fail
    refine (HR1.out w2).mono ?_
    rintro e w2 ⟨rfl, rfl⟩
    go_wp2_with fail
    refine (HR2.out w2).mono ?_
    rintro e w2 ⟨rfl, rfl⟩
    go_wp2
    go_ret
    exact ⟨by rw [HN.out]; exact HFIN.out, HB2.out⟩
  · have t1 : decide (t < 0) = false := decide_eq_false ht0
    obtain rfl : t = (k : Int) := by omega
    have t2 : decide ((k : Int) < 0) = false := decide_eq_false (by omega)
    clear hkt htb ht0 t1
    go_wp2_with fail
    refine (itoa_any k (by omega) w1 (HC.out.below HB1.out)).mono ?_
    rintro e w2 ⟨rfl, hb2⟩
    have HB2 := Lib.hid (HB1.out.trans (hb2.mono HB1.out.size))
    clear hb2
    go_wp2_with fail
    refine (HR1.out w2).mono ?_
    rintro e w2 ⟨rfl, rfl⟩
    go_wp2_with fail
    refine (HR2.out w2).mono ?_
    rintro e w2 ⟨rfl, rfl⟩
    go_wp2
    go_ret
    exact ⟨by rw [HN.out]; exact HFIN.out, HB2.out⟩
end Go.Proofs.YtfgifndpglgjkaaGreatDoor
end

section
set_option maxRecDepth 100000
set_option linter.unusedVariables false
set_option linter.unusedSimpArgs false
namespace Go.Proofs.YtfgifndpglgjkaaGreatDoor
open Go.RowKit
attribute [local go_sem] bstr_size

def strLen : Value → Nat
  | .string b => b.size
  | _ => 0
set_option maxHeartbeats 1000000 in
theorem rthree_any (i : Int) (hi : Cd.I64 i) (w : World) :
    Calls Tryz.prog 33 #[.int .i64 i] w fun e w' => e = .returned (.string (bstr (Cd.d3 (Cd.three i)))) ∧ Below w.heap.size w w' := by
  obtain ⟨k, hk⟩ : ∃ k, k = Cd.three i := ⟨_, rfl⟩
  have hk3 := three_lt i
  obtain ⟨hd1, hd3⟩ := dec_three (k := Cd.three i) hk3
  rw [← hk] at hk3 hd1 hd3
  have HN : Hid (Cd.d3 (Cd.three i) = List.replicate (3 - (Lib.decDigits k).length) 48 ++ Lib.decDigits k) := Lib.hid (by rw [hk]; rfl)
  obtain ⟨t, ht⟩ : ∃ t, t = Int.tmod i 1000 := ⟨_, rfl⟩
  have hkt : k = t.natAbs := by rw [hk, ht]; rfl
  have htb : -1000 < t ∧ t < 1000 := by rw [ht, tmod_1000]; split <;> omega
  have htt := ht.symm
  clear hk ht
  go_enter Tryz.func33, Tryz.ntmps33
  by_cases ht0 : t < 0
  · have t1 : decide (t < 0) = true := decide_eq_true ht0
    have en : -t = (k : Int) := by omega
    have en0 : 0 - t = (k : Int) := by omega
    have ew : IntKind.i64.wrap (k : Int) = (k : Int) := by rw [IntKind.wrap_i64]; omega
    clear hkt
    go_wp2_with fail
    refine (rdecimal_any k (by omega) _).mono ?_
    rintro e w2 ⟨rfl, hb2⟩
    have HB2 := Lib.hid hb2
    clear hb2
    generalize Lib.decDigits k = d at *
    go_wp2_with fail
    go_loopw [3] (fun sv wr => ∃ j : Nat, j + d.length ≤ 3 ∧ sv = .string (bstr (List.replicate j 48 ++ d)) ∧ wr = w2) (fun sv _ => 3 - strLen sv)
    case atStart => exact ⟨0, by omega, rfl, rfl⟩
    case round =>
      obtain ⟨j, hj, rfl, rfl⟩ := hrel
      have hl : (List.replicate j (48 : UInt8) ++ d).length = j + d.length := by simp
      have HS : Hid (bstr [48] ++ bstr (List.replicate j 48 ++ d) = bstr (List.replicate (j + 1) 48 ++ d)) := Lib.hid (by rw [bstr_join, List.replicate_succ]; rfl)
      have HZ : Hid (strLen (.string (bstr (List.replicate j 48 ++ d))) = j + d.length ∧ strLen (.string (bstr (List.replicate (j + 1) 48 ++ d))) = j + 1 + d.length) := Lib.hid (by
        unfold strLen
        simp only [bstr_size, List.length_append, List.length_replicate]
        exact ⟨trivial, trivial⟩)
      have e48 : (⟨#[48]⟩ : ByteArray) = bstr [48] := rfl
      have HL : Hid (3 - (j + d.length) = 0 → List.replicate j (48 : UInt8) ++ d = List.replicate (3 - d.length) 48 ++ d) := Lib.hid (fun h => by rw [show 3 - d.length = j by omega])
      generalize hx : List.replicate j (48 : UInt8) ++ d = x at *
      by_cases h3 : j + d.length < 3
      · have t1 : decide ((x.length : Int) < 3) = true := decide_eq_true (by omega)
        have t2 : decide (x.length < 3) = true := decide_eq_true (by omega)
        have hs1 : 1 + x.length ≤ 9223372036854775807 := by omega
        clear hl hx
        go_wp2
        go_roundw
        case rel => exact ⟨j + 1, by omega, by first | rw [← HS.out] | (rw [e48, HS.out]), trivial⟩
        case measure => first | (rw [e48, HS.out, HZ.out.1, HZ.out.2]; omega) | (simp only [e48, HS.out, HZ.out.1, HZ.out.2]; omega) | fail "M"
      · have t1 : decide ((x.length : Int) < 3) = false := decide_eq_false (by omega)
        have t2 : decide (x.length < 3) = false := decide_eq_false (by omega)
        have HE := Lib.hid (HL.out (by omega))
        clear hl hx
        go_wp2
        go_ret
        exact ⟨by rw [HN.out, ← HE.out]; rfl, HB2.out⟩
  · have t1 : decide (t < 0) = false := decide_eq_false ht0
    obtain rfl : t = (k : Int) := by omega
    have t2 : decide ((k : Int) < 0) = false := decide_eq_false (by omega)
    clear hkt htb ht0 t1
    go_wp2_with fail
    refine (rdecimal_any k (by omega) _).mono ?_
    rintro e w2 ⟨rfl, hb2⟩
    have HB2 := Lib.hid hb2
    clear hb2
    generalize Lib.decDigits k = d at *
    go_wp2_with fail
    go_loopw [3] (fun sv wr => ∃ j : Nat, j + d.length ≤ 3 ∧ sv = .string (bstr (List.replicate j 48 ++ d)) ∧ wr = w2) (fun sv _ => 3 - strLen sv)
    case atStart => exact ⟨0, by omega, rfl, rfl⟩
    case round =>
      obtain ⟨j, hj, rfl, rfl⟩ := hrel
      have hl : (List.replicate j (48 : UInt8) ++ d).length = j + d.length := by simp
      have HS : Hid (bstr [48] ++ bstr (List.replicate j 48 ++ d) = bstr (List.replicate (j + 1) 48 ++ d)) := Lib.hid (by rw [bstr_join, List.replicate_succ]; rfl)
      have HZ : Hid (strLen (.string (bstr (List.replicate j 48 ++ d))) = j + d.length ∧ strLen (.string (bstr (List.replicate (j + 1) 48 ++ d))) = j + 1 + d.length) := Lib.hid (by
        unfold strLen
        simp only [bstr_size, List.length_append, List.length_replicate]
        exact ⟨trivial, trivial⟩)
      have e48 : (⟨#[48]⟩ : ByteArray) = bstr [48] := rfl
      have HL : Hid (3 - (j + d.length) = 0 → List.replicate j (48 : UInt8) ++ d = List.replicate (3 - d.length) 48 ++ d) := Lib.hid (fun h => by rw [show 3 - d.length = j by omega])
      generalize hx : List.replicate j (48 : UInt8) ++ d = x at *
      by_cases h3 : j + d.length < 3
      · have t1 : decide ((x.length : Int) < 3) = true := decide_eq_true (by omega)
        have t2 : decide (x.length < 3) = true := decide_eq_true (by omega)
        have hs1 : 1 + x.length ≤ 9223372036854775807 := by omega
        clear hl hx
        go_wp2
        go_roundw
        case rel => exact ⟨j + 1, by omega, by first | rw [← HS.out] | (rw [e48, HS.out]), trivial⟩
        case measure => first | (rw [e48, HS.out, HZ.out.1, HZ.out.2]; omega) | (simp only [e48, HS.out, HZ.out.1, HZ.out.2]; omega) | fail "M"
      · have t1 : decide ((x.length : Int) < 3) = false := decide_eq_false (by omega)
        have t2 : decide (x.length < 3) = false := decide_eq_false (by omega)
        have HE := Lib.hid (HL.out (by omega))
        clear hl hx
        go_wp2
        go_ret
        exact ⟨by rw [HN.out, ← HE.out]; rfl, HB2.out⟩
theorem rname_any (s : Nat) (i : Int) (hs : U64 s) (hi : Cd.I64 i) (w : World) :
    Calls Tryz.prog 12 #[.int .u64 s, .int .i64 i] w fun e w' => e = .returned (.string (bstr (Cd.name s i))) ∧ Below w.heap.size w w' := by
  have HH := Lib.hid (rhex_any s hs w)
  have HT := Lib.hid (fun W => rthree_any i hi W)
  have h16 : (hx 16 s).length = 16 := hx_len 16 s
  have hd : (Cd.d3 (Cd.three i)).length ≤ 6 := by
    have := dec_three (three_lt i)
    unfold Cd.d3
    rw [List.length_append, List.length_replicate]
    omega
  have HF : Hid (Ending.returned (.string ((⟨#[115, 45]⟩ : ByteArray) ++ bstr (hx 16 s) ++ (⟨#[45]⟩ : ByteArray) ++ bstr (Cd.d3 (Cd.three i)))) = Ending.returned (.string (bstr (Cd.name s i)))) := Lib.hid (by
    rw [show (⟨#[115, 45]⟩ : ByteArray) = bstr [115, 45] from rfl, show (⟨#[45]⟩ : ByteArray) = bstr [45] from rfl]
    unfold Cd.name
    simp only [bstr_join, List.append_assoc])
  generalize Cd.d3 (Cd.three i) = d at *
  generalize hx 16 s = x at *
  go_enter Tryz.func12, Tryz.ntmps12
  go_wp2_with fail
  refine HH.out.mono ?_
  rintro e w1 ⟨rfl, hb1⟩
  have HB1 := Lib.hid hb1
  clear hb1
  go_wp2_with fail
  refine (HT.out w1).mono ?_
  rintro e w2 ⟨rfl, hb2⟩
  have HB2 := Lib.hid (HB1.out.trans (hb2.mono HB1.out.size))
  clear hb2
  go_wp2
  go_ret
  exact ⟨HF.out, HB2.out⟩
end Go.Proofs.YtfgifndpglgjkaaGreatDoor
end

section
set_option maxRecDepth 100000
set_option linter.unusedVariables false
set_option linter.unusedSimpArgs false
namespace Go.Proofs.YtfgifndpglgjkaaGreatDoor
open Go.RowKit

structure Cd.Full where
  bucket : List UInt8
  key : List UInt8
  version : Nat
  p : Cd.Ptr
  nodes : List Int
/-- Numbers that may be. -/
structure Cd.Full.Ok (q : Cd.Full) : Prop where
  v : U64 q.version
  s : U64 q.p.stripe
  k : Cd.I64 q.p.K
  m : Cd.I64 q.p.M
  z : Cd.I64 q.p.size
def Cd.pv (q : Cd.Full) (an : Option Addr) (nn cn : Nat) : Value := .agg #[.string (bstr q.bucket), .string (bstr q.key), .int .u64 q.version, .int .u64 q.p.stripe, .int .i64 q.p.K, .int .i64 q.p.M, .int .i64 q.p.size, .int .u32 (n32 q.p.sum), .slice an nn cn]
def Cd.pcells (q : Cd.Full) (an : Option Addr) (nn cn : Nat) : Array Value := #[.string (bstr q.bucket), .string (bstr q.key), .int .u64 q.version, .int .u64 q.p.stripe, .int .i64 q.p.K, .int .i64 q.p.M, .int .i64 q.p.size, .int .u32 (n32 q.p.sum), .slice an nn cn]
/-- A pointer in a box. -/
structure Cd.PAt (w : World) (b : Nat) (q : Cd.Full) (an : Option Addr) (nn cn : Nat) : Prop where
  c0 : w.cell? ⟨b, 0, none⟩ = some (.string (bstr q.bucket))
  c1 : w.cell? ⟨b, 1, none⟩ = some (.string (bstr q.key))
  c2 : w.cell? ⟨b, 2, none⟩ = some (.int .u64 q.version)
  c3 : w.cell? ⟨b, 3, none⟩ = some (.int .u64 q.p.stripe)
  c4 : w.cell? ⟨b, 4, none⟩ = some (.int .i64 q.p.K)
  c5 : w.cell? ⟨b, 5, none⟩ = some (.int .i64 q.p.M)
  c6 : w.cell? ⟨b, 6, none⟩ = some (.int .i64 q.p.size)
  c7 : w.cell? ⟨b, 7, none⟩ = some (.int .u32 (n32 q.p.sum))
  c8 : w.cell? ⟨b, 8, none⟩ = some (.slice an nn cn)
theorem Cd.PAt.below {w w' : World} {b : Nat} {q : Cd.Full} {an : Option Addr} {nn cn : Nat} (h : Cd.PAt w b q an nn cn) (k : Below w.heap.size w w') : Cd.PAt w' b q an nn cn :=
  ⟨cell_later k h.c0, cell_later k h.c1, cell_later k h.c2, cell_later k h.c3, cell_later k h.c4, cell_later k h.c5, cell_later k h.c6, cell_later k h.c7, cell_later k h.c8⟩
theorem Cd.PAt.new (w : World) (q : Cd.Full) (an : Option Addr) (nn cn : Nat) : Cd.PAt (w.alloc (.cells (Cd.pcells q an nn cn) 31)) w.heap.size q an nn cn := by
  have h := heap_alloc_new w (.cells (Cd.pcells q an nn cn) 31)
  exact ⟨(cell_of_row _ _ 0 _ _ _ h).trans rfl, (cell_of_row _ _ 1 _ _ _ h).trans rfl, (cell_of_row _ _ 2 _ _ _ h).trans rfl, (cell_of_row _ _ 3 _ _ _ h).trans rfl, (cell_of_row _ _ 4 _ _ _ h).trans rfl, (cell_of_row _ _ 5 _ _ _ h).trans rfl, (cell_of_row _ _ 6 _ _ _ h).trans rfl, (cell_of_row _ _ 7 _ _ _ h).trans rfl, (cell_of_row _ _ 8 _ _ _ h).trans rfl⟩
theorem Cd.PAt.belowAt {w w' : World} {b B : Nat} {q : Cd.Full} {an : Option Addr} {nn cn : Nat} (h : Cd.PAt w b q an nn cn) (k : Below B w w') (hb : b < B) : Cd.PAt w' b q an nn cn := by
  have e : ∀ j, w'.cell? ⟨b, j, none⟩ = w.cell? ⟨b, j, none⟩ := fun j => World.cell?_of_block (k.block b hb)
  exact ⟨(e 0).trans h.c0, (e 1).trans h.c1, (e 2).trans h.c2, (e 3).trans h.c3, (e 4).trans h.c4, (e 5).trans h.c5, (e 6).trans h.c6, (e 7).trans h.c7, (e 8).trans h.c8⟩
theorem u64_wrap (z : Int) : IntKind.u64.wrap z = ((Cd.u z : Nat) : Int) := by rw [IntKind.wrap_u64]; unfold Cd.u; omega
theorem u_u64 (z : Int) : U64 (Cd.u z) := ⟨by have := Cd.u_lt z; omega⟩
theorem four_n8 (c : UInt32) : (Codec.four c).map n8 = [n8 c.toUInt8, n8 (c >>> 8).toUInt8, n8 (c >>> 16).toUInt8, n8 (c >>> 24).toUInt8] := rfl
def Cd.fourV (c : UInt32) : Array Value := #[.int .u8 (n8 c.toUInt8), .int .u8 (n8 (c >>> 8).toUInt8), .int .u8 (n8 (c >>> 16).toUInt8), .int .u8 (n8 (c >>> 24).toUInt8)]
theorem cfour_any (c : UInt32) (w : World) : Calls Tryz.prog 35 #[.int .u32 (n32 c)] w fun e w' => e = .returned (.agg (Cd.fourV c)) ∧ Below w.heap.size w w' := by
  have hc := c.toNat_lt
  have e0 : IntKind.u8.wrap (n32 c) = n8 c.toUInt8 := by rw [IntKind.wrap_u8]; unfold n32 n8; rw [UInt32.toNat_toUInt8]; omega
  have q1 : n32 c / 256 = n32 (c >>> 8) := by unfold n32; rw [UInt32.toNat_shiftRight]; simp [Nat.shiftRight_eq_div_pow]
  have q2 : n32 c / 65536 = n32 (c >>> 16) := by unfold n32; rw [UInt32.toNat_shiftRight]; simp [Nat.shiftRight_eq_div_pow]
  have q3 : n32 c / 16777216 = n32 (c >>> 24) := by unfold n32; rw [UInt32.toNat_shiftRight]; simp [Nat.shiftRight_eq_div_pow]
  have q1' : n32 c / 2 ^ 8 = n32 (c >>> 8) := q1
  have q2' : n32 c / 2 ^ 16 = n32 (c >>> 16) := q2
  have q3' : n32 c / 2 ^ 24 = n32 (c >>> 24) := q3
  have e1 : ∀ x : UInt32, IntKind.u8.wrap (n32 x) = n8 x.toUInt8 := fun x => by rw [IntKind.wrap_u8]; unfold n32 n8; rw [UInt32.toNat_toUInt8]; omega
  have hb := below_alloc1 w (.cells #[.int .u8 0, .int .u8 0, .int .u8 0, .int .u8 0] 74)
  have HB := Lib.hid hb
  clear hb
  go_enter Tryz.func35, Tryz.ntmps35
  go_wp2
  have hr := heap_alloc_new w (.cells (Cd.fourV c) 74)
  have hb := below_alloc1 w (.cells (Cd.fourV c) 74)
  unfold Cd.fourV at hr hb
  generalize w.alloc (.cells #[.int .u8 (n8 c.toUInt8), .int .u8 (n8 (c >>> 8).toUInt8), .int .u8 (n8 (c >>> 16).toUInt8), .int .u8 (n8 (c >>> 24).toUInt8)] 74) = w1 at *
  have g0 := (cell_of_row _ _ 0 _ _ _ hr).trans rfl
  have g1 := (cell_of_row _ _ 1 _ _ _ hr).trans rfl
  have g2 := (cell_of_row _ _ 2 _ _ _ hr).trans rfl
  have g3 := (cell_of_row _ _ 3 _ _ _ hr).trans rfl
  exact bodyPost_ret (v := .agg (Cd.fourV c)) (by simp [results, Tryz.results35, go_sem, g0, g1, g2, g3, Cd.fourV]) rfl ⟨rfl, hb⟩
def Cd.nums (zs : List Int) : List UInt8 := zs.flatMap fun z => Codec.enc (Cd.u z)
theorem fourV_bs (w : World) (c : UInt32) : Bs (w.alloc (.cells (Cd.fourV c) 74)) (some ⟨w.heap.size, 0, none⟩) 4 4 (Codec.four c) := by
  refine ⟨rfl, Nat.le_refl _, by simp [maxLen], ?_⟩
  intro j v hv
  refine ⟨w.heap.size, 0, rfl, ?_⟩
  rw [cell_of_row _ _ _ (Cd.fourV c) _ _ (heap_alloc_new w _), Nat.zero_add]
  simpa [vs, Codec.four, Cd.fourV] using hv
theorem enc_le (v : Nat) (h : v < 18446744073709551616) : (Codec.enc v).length ≤ 10 := Codec.enc_len10 h
set_option maxHeartbeats 4000000 in
theorem file_any (q : Cd.Full) (an : Option Addr) (nn cn : Nat) (i : Int) (as_ : Option Addr) (ns cs : Nat) (s : List UInt8) (w : World) (hs : Bs w as_ ns cs s) (hq : q.Ok) (hi : Cd.I64 i) (hn : ns ≤ 100000000) :
    Calls Tryz.prog 13 #[Cd.pv q an nn cn, .int .i64 i, .slice as_ ns cs] w (RetB w w.heap.size (Cd.file q.p i s)) := by
  have hb0 := below_alloc1 w (.cells (Cd.pcells q an nn cn) 31)
  have hp0 := Cd.PAt.new w q an nn cn
  have HS : Hid (∀ W, Below w.heap.size w W → Bs W as_ ns cs s) := Lib.hid fun W k => hs.below k
  have HSN := Lib.hid hs.1
  have HQ := Lib.hid hq
  have HFI : Hid (Cd.file q.p i s = Codec.frame ((Codec.enc q.p.stripe ++ (Codec.enc (Cd.u i) ++ (Codec.enc (Cd.u q.p.K) ++ (Codec.enc (Cd.u q.p.M) ++ (Codec.enc (Cd.u q.p.size) ++ Codec.four q.p.sum))))) ++ (Codec.enc s.length ++ s))) := Lib.hid rfl
  have L0 := enc_le q.p.stripe hq.s.lt
  have L1 := enc_le (Cd.u i) (Cd.u_lt i)
  have L2 := enc_le (Cd.u q.p.K) (Cd.u_lt _)
  have L3 := enc_le (Cd.u q.p.M) (Cd.u_lt _)
  have L4 := enc_le (Cd.u q.p.size) (Cd.u_lt _)
  have U1 := u64_wrap i
  have U2 := u64_wrap q.p.K
  have U3 := u64_wrap q.p.M
  have U4 := u64_wrap q.p.size
  clear hs hq
  unfold Cd.pv
  go_enter Tryz.func13, Tryz.ntmps13
  go_upto_region 1 with fail
  unfold Cd.pcells at hb0 hp0
  generalize w.alloc (.cells #[.string (bstr q.bucket), .string (bstr q.key), .int .u64 q.version, .int .u64 q.p.stripe, .int .i64 q.p.K, .int .i64 q.p.M, .int .i64 q.p.size, .int .u32 (n32 q.p.sum), .slice an nn cn] 31) = w1 at *
  have HB1 := Lib.hid hb0
  have HP1 := Lib.hid hp0
  have c3 := hp0.c3
  clear hb0 hp0
  go_wp2_with fail
  refine (number_any none 0 0 [] q.p.stripe w1 (Bs.nil w1) HQ.out.s ⟨by omega⟩).mono ?_
  rintro e w2 ⟨a2, n2, k2, rfl, ho2, hb2⟩
  have HB2 := Lib.hid (HB1.out.trans (hb2.mono HB1.out.size))
  have HP2 := Lib.hid (HP1.out.below hb2)
  have HO2 := Lib.hid (ho2.mono HB1.out.size)
  have c4 := HP2.out.c4
  have c5 := HP2.out.c5
  have c6 := HP2.out.c6
  clear ho2 hb2 c3
  go_upto_region 3 with fail
  have hb3 := below_alloc1 w2 (.cells #[.int .i64 i, .int .i64 q.p.K, .int .i64 q.p.M, .int .i64 q.p.size] 3)
  have hr3 := heap_alloc_new w2 (.cells #[.int .i64 i, .int .i64 q.p.K, .int .i64 q.p.M, .int .i64 q.p.size] 3)
  generalize w2.alloc (.cells #[.int .i64 i, .int .i64 q.p.K, .int .i64 q.p.M, .int .i64 q.p.size] 3) = w3 at *
  have HB3 := Lib.hid (HB2.out.trans (hb3.mono HB2.out.size))
  have HP3 := Lib.hid (HP2.out.below hb3)
  have HO3 : Hid (Own w3 w.heap.size a2 n2 k2 (Codec.enc q.p.stripe)) := Lib.hid (HO2.out.below hb3)
  have HR3 : Hid (∀ W, Below w3.heap.size w3 W → W.cell? ⟨w2.heap.size, 0, none⟩ = some (.int .i64 i) ∧ W.cell? ⟨w2.heap.size, 1, none⟩ = some (.int .i64 q.p.K) ∧ W.cell? ⟨w2.heap.size, 2, none⟩ = some (.int .i64 q.p.M) ∧ W.cell? ⟨w2.heap.size, 3, none⟩ = some (.int .i64 q.p.size)) := Lib.hid fun W k =>
    ⟨cell_later k ((cell_of_row _ _ 0 _ _ _ hr3).trans rfl), cell_later k ((cell_of_row _ _ 1 _ _ _ hr3).trans rfl), cell_later k ((cell_of_row _ _ 2 _ _ _ hr3).trans rfl), cell_later k ((cell_of_row _ _ 3 _ _ _ hr3).trans rfl)⟩
  have HW3 : Hid (Below w3.heap.size w3 w3) := Lib.hid (Below.refl _ _)
  have hn2 : n2 ≤ 10 := by have := HO3.out.bs.1; omega
  clear hb3 hr3 c4 c5 c6 HO2 HP2 HB2
  refine wp_loop_rounds 5 ?_
  rw [rounds_succ]
  obtain ⟨r0, r1, r2, r3⟩ := HR3.out w3 HW3.out
  go_wp2_with fail
  refine (number_any a2 n2 k2 (Codec.enc q.p.stripe) (Cd.u (i)) w3 HO3.out.bs (u_u64 _) ⟨by omega⟩).mono ?_
  rintro e w4 ⟨a4, n4, k4, rfl, ho4, hb4⟩
  have HB4 := Lib.hid (HB3.out.trans (hb4.mono HB3.out.size))
  have HW4 := Lib.hid (HW3.out.trans (hb4.mono HW3.out.size))
  have HO4 := Lib.hid (ho4.mono HB3.out.size)
  have hn4 : n4 ≤ 20 := by
    have h1 := ho4.bs.1
    have h2 := HO3.out.bs.1
    rw [List.length_append] at h1
    omega
  clear ho4 hb4 r0 r1 r2 r3
  go_wp2_with fail
  rw [rounds_succ]
  obtain ⟨r0, r1, r2, r3⟩ := HR3.out w4 HW4.out
  go_wp2_with fail
  refine (number_any a4 n4 k4 ((Codec.enc q.p.stripe) ++ Codec.enc (Cd.u (i))) (Cd.u (q.p.K)) w4 HO4.out.bs (u_u64 _) ⟨by omega⟩).mono ?_
  rintro e w5 ⟨a5, n5, k5, rfl, ho5, hb5⟩
  have HB5 := Lib.hid (HB4.out.trans (hb5.mono HB4.out.size))
  have HW5 := Lib.hid (HW4.out.trans (hb5.mono HW4.out.size))
  have HO5 := Lib.hid (ho5.mono HB4.out.size)
  have hn5 : n5 ≤ 30 := by
    have h1 := ho5.bs.1
    have h2 := HO4.out.bs.1
    rw [List.length_append] at h1
    omega
  clear ho5 hb5 r0 r1 r2 r3
  go_wp2_with fail
  rw [rounds_succ]
  obtain ⟨r0, r1, r2, r3⟩ := HR3.out w5 HW5.out
  go_wp2_with fail
  refine (number_any a5 n5 k5 (((Codec.enc q.p.stripe) ++ Codec.enc (Cd.u (i))) ++ Codec.enc (Cd.u (q.p.K))) (Cd.u (q.p.M)) w5 HO5.out.bs (u_u64 _) ⟨by omega⟩).mono ?_
  rintro e w6 ⟨a6, n6, k6, rfl, ho6, hb6⟩
  have HB6 := Lib.hid (HB5.out.trans (hb6.mono HB5.out.size))
  have HW6 := Lib.hid (HW5.out.trans (hb6.mono HW5.out.size))
  have HO6 := Lib.hid (ho6.mono HB5.out.size)
  have hn6 : n6 ≤ 40 := by
    have h1 := ho6.bs.1
    have h2 := HO5.out.bs.1
    rw [List.length_append] at h1
    omega
  clear ho6 hb6 r0 r1 r2 r3
  go_wp2_with fail
  rw [rounds_succ]
  obtain ⟨r0, r1, r2, r3⟩ := HR3.out w6 HW6.out
  go_wp2_with fail
  refine (number_any a6 n6 k6 ((((Codec.enc q.p.stripe) ++ Codec.enc (Cd.u (i))) ++ Codec.enc (Cd.u (q.p.K))) ++ Codec.enc (Cd.u (q.p.M))) (Cd.u (q.p.size)) w6 HO6.out.bs (u_u64 _) ⟨by omega⟩).mono ?_
  rintro e w7 ⟨a7, n7, k7, rfl, ho7, hb7⟩
  have HB7 := Lib.hid (HB6.out.trans (hb7.mono HB6.out.size))
  have HW7 := Lib.hid (HW6.out.trans (hb7.mono HW6.out.size))
  have HO7 := Lib.hid (ho7.mono HB6.out.size)
  have hn7 : n7 ≤ 50 := by
    have h1 := ho7.bs.1
    have h2 := HO6.out.bs.1
    rw [List.length_append] at h1
    omega
  clear ho7 hb7 r0 r1 r2 r3
  go_wp2_with fail
  rw [rounds_succ]
  go_upto_region 7 with fail
  have HP7 := Lib.hid (HP3.out.below HW7.out)
  have c7 := HP7.out.c7
  go_wp2_with fail
  refine (cfour_any q.p.sum w7).mono ?_
  rintro e w8 ⟨rfl, hb8⟩
  dsimp only [Cd.fourV]
  go_upto_region 8 with fail
  have hF := fourV_bs w8 q.p.sum
  have hb9 := hb8.trans ((below_alloc1 w8 (.cells (Cd.fourV q.p.sum) 74)).mono hb8.size)
  unfold Cd.fourV at hF hb9
  generalize w8.alloc (.cells #[.int .u8 (n8 q.p.sum.toUInt8), .int .u8 (n8 (q.p.sum >>> 8).toUInt8), .int .u8 (n8 (q.p.sum >>> 16).toUInt8), .int .u8 (n8 (q.p.sum >>> 24).toUInt8)] 74) = w9 at *
  generalize w8.heap.size = g8 at *
  have HB9 := Lib.hid (HB7.out.trans (hb9.mono HB7.out.size))
  have HO9 := Lib.hid (HO7.out.below hb9)
  have HF9 := Lib.hid hF
  clear hb8 hb9 hF c7
  go_wp2_with (at_builtin; refine app_own rfl _ _ rfl w.heap.size rfl HO9.out rfl HF9.out (by omega) HB9.out.size ?_; intro a10 k10 w10 h10 hb10 _)
  have HB10 := Lib.hid (HB9.out.trans hb10)
  have hb11 := below_alloc1 w10 (.cells #[.slice as_ ns cs] 25)
  have HBS := Lib.hid (Bss.one (HS.out w10 HB10.out))
  have HO11 := Lib.hid (h10.below hb11)
  have HB11 := Lib.hid (HB10.out.trans (hb11.mono HB10.out.size))
  have hln := HSN.out
  have htot : tot [s] = s.length := by simp [tot]
  clear h10 hb10 hb11
  generalize w10.alloc (.cells #[.slice as_ ns cs] 25) = w11 at *
  refine (bytes_any a10 (some ⟨w10.heap.size, 0, none⟩) (n7 + 4) k10 1 1 _ [s] w11 HO11.out.bs HBS.out ⟨by rw [htot]; omega⟩).mono ?_
  rintro e w12 ⟨a12, n12, k12, rfl, ho12, hb12⟩
  have HB12 := Lib.hid (HB11.out.trans (hb12.mono HB11.out.size))
  have HO12 := Lib.hid ho12
  have hn12 : n12 ≤ ns + 100 := by
    have h1 := ho12.bs.1
    have h2 := HO11.out.bs.1
    have h3 := enc_le s.length (by omega)
    simp only [Codec.bytes, List.flatten_cons, List.flatten_nil, List.append_nil, List.length_append] at h1 h2
    omega
  clear ho12 hb12
  go_wp2_with fail
  refine (frame_any a12 n12 k12 _ w12 HO12.out.bs ⟨by omega⟩).mono ?_
  rintro e w13 ⟨a13, n13, k13, rfl, ho13, hb13⟩
  have HB13 := Lib.hid (HB12.out.trans (hb13.mono HB12.out.size))
  have HO13 := Lib.hid (ho13.mono HB12.out.size)
  clear ho13 hb13
  go_wp2
  go_ret
  refine ⟨a13, n13, k13, rfl, ?_, HB13.out⟩
  have h := HO13.out
  simp only [Codec.bytes, List.flatten_cons, List.flatten_nil, List.append_nil, List.append_assoc] at h
  rw [HFI.out]
  simpa only [List.append_assoc] using h
set_option maxHeartbeats 4000000 in
theorem rfile_any (q : Cd.Full) (an : Option Addr) (nn cn : Nat) (i : Int) (as_ : Option Addr) (ns cs : Nat) (s : List UInt8) (w : World) (hs : Bs w as_ ns cs s) (hq : q.Ok) (hi : Cd.I64 i) (hn : ns ≤ 100000000) :
    Calls Tryz.prog 14 #[Cd.pv q an nn cn, .int .i64 i, .slice as_ ns cs] w (RetB w w.heap.size (Cd.file q.p i s)) := by
  have hb0 := below_alloc1 w (.cells (Cd.pcells q an nn cn) 31)
  have hp0 := Cd.PAt.new w q an nn cn
  have HS : Hid (∀ W, Below w.heap.size w W → Bs W as_ ns cs s) := Lib.hid fun W k => hs.below k
  have HSN := Lib.hid hs.1
  have HSR : Hid (0 < ns → ∀ y, as_ = some y → y.block < w.heap.size) := Lib.hid fun h0 y hy => by
    obtain ⟨b, off, e, hc⟩ := hs.2.2.2.byte (i := 0) (by rw [hs.1]; exact h0)
    rw [hy] at e
    cases e
    exact World.block_lt_of_cell? _ _ hc
  have HQ := Lib.hid hq
  have HFI : Hid (Cd.file q.p i s = Codec.frame ((Codec.enc q.p.stripe ++ (Codec.enc (Cd.u i) ++ (Codec.enc (Cd.u q.p.K) ++ (Codec.enc (Cd.u q.p.M) ++ (Codec.enc (Cd.u q.p.size) ++ Codec.four q.p.sum))))) ++ (Codec.enc s.length ++ s))) := Lib.hid rfl
  have L0 := enc_le q.p.stripe hq.s.lt
  have L1 := enc_le (Cd.u i) (Cd.u_lt i)
  have L2 := enc_le (Cd.u q.p.K) (Cd.u_lt _)
  have L3 := enc_le (Cd.u q.p.M) (Cd.u_lt _)
  have L4 := enc_le (Cd.u q.p.size) (Cd.u_lt _)
  have U1 := u64_wrap i
  have U2 := u64_wrap q.p.K
  have U3 := u64_wrap q.p.M
  have U4 := u64_wrap q.p.size
  clear hs hq
  unfold Cd.pv
  go_enter Tryz.func14, Tryz.ntmps14
  go_upto_region 1 with fail
  unfold Cd.pcells at hb0 hp0
  generalize w.alloc (.cells #[.string (bstr q.bucket), .string (bstr q.key), .int .u64 q.version, .int .u64 q.p.stripe, .int .i64 q.p.K, .int .i64 q.p.M, .int .i64 q.p.size, .int .u32 (n32 q.p.sum), .slice an nn cn] 31) = w1 at *
  have HBW := Lib.hid hb0
  have HB1 : Hid (Below w1.heap.size w1 w1) := Lib.hid (Below.refl _ _)
  have HP1 := Lib.hid hp0
  have c3 := hp0.c3
  clear hb0 hp0
  go_wp2_with fail
  refine (refnumber_any w1.heap.size none 0 0 [] q.p.stripe w1 (Nat.le_refl _) (Own.nil _ _).app HQ.out.s ⟨by omega⟩).mono ?_
  rintro e w2 ⟨a2, n2, k2, rfl, ho2, hb2, _⟩
  have HB2 := Lib.hid (HB1.out.trans hb2)
  have HP2 := Lib.hid (HP1.out.below HB2.out)
  have HO2 := Lib.hid ho2
  have hn2 : n2 ≤ 10 := by
    have h1 := ho2.bs.1
    simp only [List.length_append, List.length_nil] at h1
    omega
  clear ho2 hb2
  have c4 := HP2.out.c4
  have c5 := HP2.out.c5
  have c6 := HP2.out.c6
  have c7 := HP2.out.c7
  clear c7
  clear c4 c5 c6
  go_wp2_with fail
  refine (refnumber_any w1.heap.size a2 n2 k2 _ (Cd.u (i)) w2 HB2.out.size HO2.out.app (u_u64 _) ⟨by omega⟩).mono ?_
  rintro e w3 ⟨a3, n3, k3, rfl, ho3, hb3, _⟩
  have HB3 := Lib.hid (HB2.out.trans hb3)
  have HP3 := Lib.hid (HP1.out.below HB3.out)
  have HO3 := Lib.hid ho3
  have hn3 : n3 ≤ 20 := by
    have h1 := ho3.bs.1
    have h2 := HO2.out.bs.1
    simp only [List.length_append, List.length_nil] at h2
    simp only [List.length_append, List.length_nil] at h1
    omega
  clear ho3 hb3
  have c4 := HP3.out.c4
  have c5 := HP3.out.c5
  have c6 := HP3.out.c6
  have c7 := HP3.out.c7
  clear c7
  clear c5 c6
  go_wp2_with fail
  refine (refnumber_any w1.heap.size a3 n3 k3 _ (Cd.u (q.p.K)) w3 HB3.out.size HO3.out.app (u_u64 _) ⟨by omega⟩).mono ?_
  rintro e w4 ⟨a4, n4, k4, rfl, ho4, hb4, _⟩
  have HB4 := Lib.hid (HB3.out.trans hb4)
  have HP4 := Lib.hid (HP1.out.below HB4.out)
  have HO4 := Lib.hid ho4
  have hn4 : n4 ≤ 30 := by
    have h1 := ho4.bs.1
    have h2 := HO3.out.bs.1
    simp only [List.length_append, List.length_nil] at h2
    simp only [List.length_append, List.length_nil] at h1
    omega
  clear ho4 hb4
  have c4 := HP4.out.c4
  have c5 := HP4.out.c5
  have c6 := HP4.out.c6
  have c7 := HP4.out.c7
  clear c7
  clear c4 c6
  go_wp2_with fail
  refine (refnumber_any w1.heap.size a4 n4 k4 _ (Cd.u (q.p.M)) w4 HB4.out.size HO4.out.app (u_u64 _) ⟨by omega⟩).mono ?_
  rintro e w5 ⟨a5, n5, k5, rfl, ho5, hb5, _⟩
  have HB5 := Lib.hid (HB4.out.trans hb5)
  have HP5 := Lib.hid (HP1.out.below HB5.out)
  have HO5 := Lib.hid ho5
  have hn5 : n5 ≤ 40 := by
    have h1 := ho5.bs.1
    have h2 := HO4.out.bs.1
    simp only [List.length_append, List.length_nil] at h2
    simp only [List.length_append, List.length_nil] at h1
    omega
  clear ho5 hb5
  have c4 := HP5.out.c4
  have c5 := HP5.out.c5
  have c6 := HP5.out.c6
  have c7 := HP5.out.c7
  clear c7
  clear c4 c5
  go_wp2_with fail
  refine (refnumber_any w1.heap.size a5 n5 k5 _ (Cd.u (q.p.size)) w5 HB5.out.size HO5.out.app (u_u64 _) ⟨by omega⟩).mono ?_
  rintro e w6 ⟨a6, n6, k6, rfl, ho6, hb6, _⟩
  have HB6 := Lib.hid (HB5.out.trans hb6)
  have HP6 := Lib.hid (HP1.out.below HB6.out)
  have HO6 := Lib.hid ho6
  have hn6 : n6 ≤ 50 := by
    have h1 := ho6.bs.1
    have h2 := HO5.out.bs.1
    simp only [List.length_append, List.length_nil] at h2
    simp only [List.length_append, List.length_nil] at h1
    omega
  clear ho6 hb6
  have c4 := HP6.out.c4
  have c5 := HP6.out.c5
  have c6 := HP6.out.c6
  have c7 := HP6.out.c7
  clear c4 c5 c6
  go_wp2_with fail
  refine (four_any w1.heap.size a6 n6 k6 _ q.p.sum w6 HB6.out.size HO6.out (by omega)).mono ?_
  rintro e w7 ⟨a7, n7, k7, rfl, ho7, hb7, _⟩
  have HB7 := Lib.hid (HB6.out.trans hb7)
  have HO7 := Lib.hid ho7
  have hn7 : n7 ≤ 60 := by
    have h1 := ho7.bs.1
    have h2 := HO6.out.bs.1
    have h4 : (Codec.four q.p.sum).length = 4 := rfl
    simp only [List.length_append, List.length_nil] at h1 h2
    omega
  clear ho7 hb7 c7
  go_wp2_with fail
  refine (refbytes_any w1.heap.size a7 as_ n7 k7 ns cs _ s w7 HB7.out.size HO7.out.app (HS.out w7 (HBW.out.trans (HB7.out.mono HBW.out.size))) (fun h0 y z hy hz e => by have h1 := HSR.out h0 y hy; have h2 := (HO7.out.new z hz).1; have h3 := HBW.out.size; omega) ⟨by omega⟩).mono ?_
  rintro e w8 ⟨a8, n8, k8, rfl, ho8, hb8⟩
  have HB8 := Lib.hid (HB7.out.trans hb8)
  have HO8 := Lib.hid ho8
  have hn8 : n8 ≤ ns + 100 := by
    have h1 := ho8.bs.1
    have h2 := HO7.out.bs.1
    have h3 := enc_le ns (by omega)
    have h5 := HSN.out
    simp only [List.length_append, List.length_nil] at h1 h2
    omega
  clear ho8 hb8
  go_wp2_with fail
  refine (refframe_any w1.heap.size none a8 0 0 n8 k8 [] _ w8 HB8.out.size (Own.nil _ _).app HO8.out.bs (fun _ y z _ hz => by cases hz) ⟨by omega⟩).mono ?_
  rintro e w9 ⟨a9, n9, k9, rfl, ho9, hb9⟩
  have HB9 := Lib.hid (HB8.out.trans hb9)
  have HO9 := Lib.hid ho9
  have HSE : Hid (Codec.enc ns = Codec.enc s.length) := Lib.hid (by rw [HSN.out])
  clear ho9 hb9
  go_wp2
  go_ret
  refine ⟨a9, n9, k9, rfl, ?_, HBW.out.trans (HB9.out.mono HBW.out.size)⟩
  have h := HO9.out.mono HBW.out.size
  rw [HSE.out] at h
  simp only [List.append_assoc, List.nil_append] at h
  rw [HFI.out]
  simpa only [List.append_assoc] using h
end Go.Proofs.YtfgifndpglgjkaaGreatDoor
end

section
set_option maxRecDepth 100000
set_option linter.unusedVariables false
set_option linter.unusedSimpArgs false
namespace Go.Proofs.YtfgifndpglgjkaaGreatDoor
open Go.RowKit
attribute [local go_sem] bstr_size

theorem bequal_any (a a' : Option Addr) (n c n' c' : Nat) (l l' : List UInt8) (w : World) (h : Bs w a n c l) (h' : Bs w a' n' c' l') :
    Calls Tryz.prog 79 #[.slice a n c, .slice a' n' c'] w fun e w' => e = .returned (.bool (decide (l = l'))) ∧ w = w' := by
  have v1 := conv_bytes h
  have v2 := conv_bytes h'
  have he : ((bstr l).toList == (bstr l').toList) = decide (l = l') := bstr_beq l l'
  clear h h'
  go_enter Tryz.func79, Tryz.ntmps79
  go_wp2
  go_ret
  exact ⟨by first | rfl | (rw [← he]; rfl), rfl⟩
theorem prefix_take {l p : List UInt8} : (p <+: l) ↔ l.take p.length = p := by
  constructor
  · rintro ⟨t, rfl⟩; exact List.take_left
  · intro h
    have h1 := List.take_append_drop p.length l
    rw [h] at h1
    exact ⟨_, h1⟩
theorem hasp_any (a a' : Option Addr) (n c n' c' : Nat) (l l' : List UInt8) (w : World) (h : Bs w a n c l) (h' : Bs w a' n' c' l') :
    Calls Tryz.prog 47 #[.slice a n c, .slice a' n' c'] w fun e w' => e = .returned (.bool (decide (l' <+: l))) ∧ w = w' := by
  have hle := h.le.1
  have hle' := h'.le.1
  by_cases hn : n' ≤ n
  · have t1 : decide ((n' : Int) ≤ (n : Int)) = true := decide_eq_true (by omega)
    have t2 : decide (n' ≤ n) = true := decide_eq_true hn
    have hc : n ≤ c := h.2.1
    have HEQ := Lib.hid (bequal_any a a' n' c n' c' (l.take n') l' w (h.take hn) h')
    have hs := fun W => slice_h a n c (hi := (n' : Int)) (hi' := n') rfl (Nat.le_trans hn hc) W
    have HD : Hid (decide (l.take n' = l') = decide (l' <+: l)) := Lib.hid (by
      have e : (l' <+: l) ↔ l.take n' = l' := by rw [prefix_take, h'.1]
      exact decide_eq_decide.2 e.symm)
    clear h h'
    go_enter Tryz.func47, Tryz.ntmps47
    go_wp2_with fail
    refine HEQ.out.mono ?_
    rintro e w1 ⟨rfl, rfl⟩
    rw [HD.out]
    go_wp2
    go_ret
    exact ⟨rfl, rfl⟩
  · have t1 : decide ((n' : Int) ≤ (n : Int)) = false := decide_eq_false (by omega)
    have t2 : decide (n' ≤ n) = false := decide_eq_false hn
    have HD : Hid (decide (l' <+: l) = false) := Lib.hid (decide_eq_false fun hp => by
      have h1 := hp.length_le
      rw [h.1, h'.1] at h1
      omega)
    clear h h'
    go_enter Tryz.func47, Tryz.ntmps47
    go_wp2
    go_ret
    exact ⟨by rw [HD.out]; rfl, rfl⟩
/-- A pointer whose numbers may be a code's. -/
structure Cd.Fit (q : Cd.Full) (K M N : Nat) : Prop where
  ok : q.Ok
  k : q.p.K = (K : Int)
  m : q.p.M = (M : Int)
  n : q.p.size = (N : Int)
  k1 : 1 ≤ K
  km : K + M ≤ 255
  nb : N ≤ 20000000
theorem length_any (q : Cd.Full) (an : Option Addr) (nn cn : Nat) (K M N : Nat) (w : World) (hf : Cd.Fit q K M N) :
    Calls Tryz.prog 49 #[Cd.pv q an nn cn] w fun e w' => e = .returned (.int .i64 (Rs.wd K N)) ∧ Below w.heap.size w w' := by
  have hb0 := below_alloc1 w (.cells (Cd.pcells q an nn cn) 31)
  have hp0 := Cd.PAt.new w q an nn cn
  have h1 := hf.k1
  have h2 := hf.km
  have h3 := hf.nb
  have hK := hf.k
  have hN := hf.n
  have c4 := hp0.c4
  have c6 := hp0.c6
  rw [hK] at c4
  rw [hN] at c6
  obtain ⟨D, hD⟩ : ∃ D, D = (N + K - 1) / K := ⟨_, rfl⟩
  have HW : Hid (Rs.wd K N = max 1 D) := Lib.hid (by rw [hD]; rfl)
  have d1 : Int.tdiv ((N : Int) + (K : Int) - 1) (K : Int) = (D : Int) := by
    rw [show (N : Int) + (K : Int) - 1 = ((N + K - 1 : Nat) : Int) by omega, hD]; rfl
  have d1' : ((N : Int) + (K : Int) - 1) / (K : Int) = (D : Int) := by
    rw [show (N : Int) + (K : Int) - 1 = ((N + K - 1 : Nat) : Int) by omega, hD]; rfl
  have d5 : ((K : Int) == 0) = false := by rw [beq_eq_false_iff_ne]; omega
  have d6 : ¬ (K : Int) = 0 := by omega
  have hDb : D ≤ 30000000 := by rw [hD]; exact Nat.le_trans (Nat.div_le_self _ _) (by omega)
  have dm : ∀ W, (Builtin.max_ #[3, 3] 3 #[.int .i64 1, .int .i64 (D : Int)]).run Tryz.prog W = .ok (.int .i64 ((max 1 D : Nat) : Int)) W := fun W => by
    by_cases h : (1 : Int) < (D : Int)
    · have e : max 1 D = D := by omega
      simp [Builtin.max_, Builtin.max2, e]
      omega
    · have e : max 1 D = 1 := by omega
      simp [Builtin.max_, Builtin.max2, e]
      omega
  have HB := Lib.hid hb0
  clear hD hp0 hb0 hf hK hN
  unfold Cd.pv
  go_enter Tryz.func49, Tryz.ntmps49
  go_upto_region 1 with fail
  unfold Cd.pcells at HB c4 c6
  generalize w.alloc (.cells #[.string (bstr q.bucket), .string (bstr q.key), .int .u64 q.version, .int .u64 q.p.stripe, .int .i64 q.p.K, .int .i64 q.p.M, .int .i64 q.p.size, .int .u32 (n32 q.p.sum), .slice an nn cn] 31) = w1 at *
  have ew : IntKind.i64.wrap (D : Int) = (D : Int) := by rw [IntKind.wrap_i64]; omega
  go_wp2
  go_ret
  exact ⟨by rw [HW.out]; rfl, HB.out⟩
end Go.Proofs.YtfgifndpglgjkaaGreatDoor
end

section
set_option maxRecDepth 100000
set_option linter.unusedVariables false
set_option linter.unusedSimpArgs false
namespace Go.Proofs.YtfgifndpglgjkaaGreatDoor
open Go.RowKit

def RetF (w : World) (r : List UInt8 × Nat) (e : Ending) (w' : World) : Prop := ∃ a n c, e = .returned (.tuple #[.slice a n c, .int .i64 r.2]) ∧ Own w' w.heap.size a n c r.1 ∧ Below w.heap.size w w'
theorem rdFrame_len {l : List UInt8} (h : (Codec.rdFrame l).2.2 = 0) : (Codec.rdFrame l).1.length ≤ 67108864 ∧ (Codec.decFrame l).2.2 = 0 := by
  have h1 : (Codec.decFrame l).2.2 = 0 := by
    unfold Codec.rdFrame at h
    by_cases h0 : (Codec.decFrame l).2.2 = 0
    · exact h0
    · rw [if_neg h0] at h
      exact absurd h h0
  refine ⟨?_, h1⟩
  obtain ⟨n, k, _, hn, _, _, he, _, _⟩ := Codec.decFrame_ok h1
  unfold Codec.rdFrame
  rw [if_pos h1, he]
  simp
  omega
theorem rdBytes_le {b : List UInt8} {most : Int} (h : (Codec.rdBytes b most).2.2 = 0) : (Codec.rdBytes b most).2.1 ≤ b.length := by
  unfold Codec.rdBytes at h ⊢
  by_cases h1 : (Codec.dec b).2.2 ≠ 0
  · rw [if_pos h1] at h; exact absurd h h1
  · have hd : Codec.dec b = ((Codec.dec b).1, (Codec.dec b).2.1, 0) := by rw [← show (Codec.dec b).2.2 = 0 by omega]
    have hb := Codec.dec_back hd
    rw [if_neg h1]
    split
    · simp
    · split
      · simp
      · dsimp only; omega
theorem rd_eq {p : Cd.Ptr} {W m er : Nat} {i : Int} {b x : List UInt8} (h : Codec.rdFrame b = (x, m, er)) :
    Cd.rd p W i b = if er ≠ 0 then ([], er) else if m ≠ b.length ∨ ¬ Cd.head p i <+: x then ([], 14) else
      if (Codec.rdBytes (x.drop (Cd.head p i).length) 67108864).2.2 ≠ 0 ∨ (Cd.head p i).length + (Codec.rdBytes (x.drop (Cd.head p i).length) 67108864).2.1 ≠ x.length ∨ (Codec.rdBytes (x.drop (Cd.head p i).length) 67108864).1.length ≠ W then ([], 14) else ((Codec.rdBytes (x.drop (Cd.head p i).length) 67108864).1, 0) := by
  unfold Cd.rd
  rw [h]
theorem head_read {p : Cd.Ptr} {i : Int} (hp : p.stripe < 18446744073709551616) : Codec.rdFrame (Cd.file p i []) = (Cd.head p i ++ [0], (Cd.file p i []).length, 0) := by
  have hb := Cd.body_len p i [] hp (by simp)
  have h1 := (Codec.decFrame_frame (x := Cd.head p i ++ Cd.lp []) (by simp only [List.length_nil] at hb; omega) []).2
  rw [List.append_nil] at h1
  have e : Cd.lp [] = [0] := by
    unfold Cd.lp
    rw [List.length_nil, Codec.enc_small (by omega)]
    rfl
  unfold Cd.file
  rw [e] at h1 ⊢
  exact h1
set_option maxHeartbeats 8000000 in
theorem readfile_any (q : Cd.Full) (an : Option Addr) (nn cn : Nat) (K M N : Nat) (i : Int) (ab : Option Addr) (nb cb : Nat) (b : List UInt8) (w : World) (hbs : Bs w ab nb cb b) (hf : Cd.Fit q K M N) (hi : Cd.I64 i) (hn : nb ≤ 100000000) :
    Calls Tryz.prog 18 #[Cd.pv q an nn cn, .int .i64 i, .slice ab nb cb] w (RetF w (Cd.rd q.p (Rs.wd K N) i b)) := by
  have hb0 := below_alloc1 w (.cells (Cd.pcells q an nn cn) 31)
  have hp0 := Cd.PAt.new w q an nn cn
  obtain ⟨x, m, er, hr⟩ : ∃ x m er, Codec.rdFrame b = (x, m, er) := ⟨_, _, _, rfl⟩
  have HRD := Lib.hid (rd_eq (p := q.p) (W := Rs.wd K N) (i := i) hr)
  have HHR := Lib.hid (head_read (p := q.p) (i := i) hf.ok.s.lt)
  have HHL := Lib.hid (Cd.head_len q.p i hf.ok.s.lt)
  have HFL : Hid ((Cd.file q.p i []).length ≤ 1000) := Lib.hid (by
    have h1 := Cd.body_len q.p i [] hf.ok.s.lt (by simp)
    have h2 := Codec.enc_len10 (v := (Cd.head q.p i ++ Cd.lp []).length) (by simp only [List.length_nil] at h1; omega)
    have h3 : (Codec.four (Codec.sum (Cd.head q.p i ++ Cd.lp []))).length = 4 := rfl
    unfold Cd.file Codec.frame
    rw [List.length_append, List.length_append, h3]
    simp only [List.length_nil] at h1
    omega)
  have HF := Lib.hid hf
  have HBL := Lib.hid hbs.1
  have hk1 := hf.k1
  have hkm := hf.km
  have hNb := hf.nb
  have HRF : Hid (∀ W, Below w.heap.size w W → Calls Tryz.prog 46 #[.slice ab nb cb] W (RetR W (x, m, er))) := Lib.hid fun W k => by
    have h := readframe_any ab nb cb b W (hbs.below k) ⟨by omega⟩
    rw [hr] at h
    exact h
  have HFI : Hid (∀ W, Calls Tryz.prog 13 #[.agg #[.string (bstr q.bucket), .string (bstr q.key), .int .u64 q.version, .int .u64 q.p.stripe, .int .i64 q.p.K, .int .i64 q.p.M, .int .i64 q.p.size, .int .u32 (n32 q.p.sum), .slice an nn cn], .int .i64 i, .slice none 0 0] W (RetB W W.heap.size (Cd.file q.p i []))) := Lib.hid fun W => file_any q an nn cn i none 0 0 [] W (Bs.nil W) hf.ok hi (by omega)
  have HLN : Hid (∀ W, Calls Tryz.prog 49 #[.agg #[.string (bstr q.bucket), .string (bstr q.key), .int .u64 q.version, .int .u64 q.p.stripe, .int .i64 q.p.K, .int .i64 q.p.M, .int .i64 q.p.size, .int .u32 (n32 q.p.sum), .slice an nn cn]] W fun e w' => e = .returned (.int .i64 (Rs.wd K N)) ∧ Below W.heap.size W w') := Lib.hid fun W => length_any q an nn cn K M N W hf
  have HPC : Hid (∀ W, Cd.PAt W w.heap.size q an nn cn → W.cell? ⟨w.heap.size, 4, none⟩ = some (.int .i64 (K : Int)) ∧ W.cell? ⟨w.heap.size, 5, none⟩ = some (.int .i64 (M : Int)) ∧ W.cell? ⟨w.heap.size, 6, none⟩ = some (.int .i64 (N : Int))) := Lib.hid fun W h => ⟨by rw [h.c4, hf.k], by rw [h.c5, hf.m], by rw [h.c6, hf.n]⟩
  have HXB : Hid (er = 0 → x.length ≤ 67108864) := Lib.hid fun e => by
    have h := rdFrame_len (l := b) (by rw [hr]; exact e)
    rw [hr] at h
    exact h.1
  clear hbs hr hf
  have HWD : Hid (Rs.wd K N ≤ 30000000) := Lib.hid (by
    have h1 := Nat.div_le_self (N + K - 1) K
    unfold Rs.wd
    omega)
  generalize Rs.wd K N = W0 at *
  generalize hhd : Cd.head q.p i = hd at *
  generalize Cd.file q.p i [] = fl at *
  generalize Cd.rd q.p W0 i b = R at *
  clear hhd
  unfold Cd.pv
  go_enter Tryz.func18, Tryz.ntmps18
  go_upto_region 1 with fail
  unfold Cd.pcells at hb0 hp0
  generalize w.alloc (.cells #[.string (bstr q.bucket), .string (bstr q.key), .int .u64 q.version, .int .u64 q.p.stripe, .int .i64 q.p.K, .int .i64 q.p.M, .int .i64 q.p.size, .int .u32 (n32 q.p.sum), .slice an nn cn] 31) = w1 at *
  have HB1 := Lib.hid hb0
  have HP1 := Lib.hid hp0
  clear hb0 hp0
  go_wp2_with fail
  refine (HRF.out w1 HB1.out).mono ?_
  rintro e w2 ⟨ax, nx, cx, rfl, hx, hb2⟩
  dsimp only at hx
  have HX2 := Lib.hid hx
  have HB2 := Lib.hid (HB1.out.trans (hb2.mono HB1.out.size))
  have HP2 := Lib.hid (HP1.out.below hb2)
  clear hx hb2
  by_cases her : er = 0
  case neg =>
    have ter : ((er : Int) != 0) = true := by rw [bne_iff_ne]; omega
    have HR := Lib.hid (HRD.out.trans (if_pos her))
    clear her
    go_wp2
    go_ret2
    exact ⟨none, 0, 0, by rw [HR.out]; rfl, by rw [HR.out]; exact World.ownsRow_nil _ _ _ _, HB2.out⟩
  subst her
  have HXB2 := Lib.hid (HXB.out rfl)
  have HRD2 := Lib.hid (HRD.out.trans (if_neg (by simp)))
  clear HRD
  have c0 := HP2.out.c0
  have c1 := HP2.out.c1
  have c2 := HP2.out.c2
  have c3 := HP2.out.c3
  have c4 := HP2.out.c4
  have c5 := HP2.out.c5
  have c6 := HP2.out.c6
  have c7 := HP2.out.c7
  have c8 := HP2.out.c8
  go_wp2_with fail
  refine (HFI.out w2).mono ?_
  rintro e w3 ⟨a3, n3, k3, rfl, ho3, hb3⟩
  have HB3 := Lib.hid (HB2.out.trans (hb3.mono HB2.out.size))
  have HP3 := Lib.hid (HP2.out.below hb3)
  have HX3 := Lib.hid (HX2.out.below hb3)
  have HRE : Hid (Calls Tryz.prog 46 #[.slice a3 n3 k3] w3 (RetR w3 (hd ++ [0], fl.length, 0))) := Lib.hid (by
    have h := readframe_any a3 n3 k3 fl w3 ho3.bs ⟨by have h1 := ho3.bs.1; have h2 := HFL.out; omega⟩
    rw [HHR.out] at h
    exact h)
  clear ho3 hb3 c0 c1 c2 c3 c4 c5 c6 c7 c8
  go_wp2_with fail
  refine HRE.out.mono ?_
  rintro e w4 ⟨a4, n4, k4, rfl, hx4, hb4⟩
  dsimp only at hx4
  have HB4 := Lib.hid (HB3.out.trans (hb4.mono HB3.out.size))
  have HP4 := Lib.hid (HP3.out.below hb4)
  have HX4 := Lib.hid (HX3.out.below hb4)
  obtain ⟨h, hh⟩ : ∃ h, h = hd.length := ⟨_, rfl⟩
  have hn4 : n4 = h + 1 := by have := hx4.1; simp only [List.length_append, List.length_singleton] at this; omega
  subst hn4
  have HE4 : Hid (Bs w4 a4 h k4 hd) := Lib.hid (by
    have h1 := hx4.take (k := h) (by omega)
    rwa [hh, List.take_left, ← hh] at h1)
  have hkh : h + 1 ≤ k4 := hx4.2.1
  have sl1 := fun W => slice_h a4 (h + 1) k4 (hi := (h : Int)) (hi' := h) rfl (by omega) W
  have eh : ((h + 1 : Nat) : Int) - 1 = (h : Int) := by omega
  have eh' : (h : Int) + 1 - 1 = (h : Int) := by omega
  have HH := Lib.hid hh
  have hhb : h ≤ 54 := by have := HHL.out; omega
  obtain ⟨d4, d5, d6⟩ := HPC.out w4 HP4.out
  have HNW := Lib.hid (new_any K M w4 hk1 hkm)
  clear hx4 hb4 hh HRE
  go_wp2_with fail
  refine HNW.out.mono ?_
  rintro e w5 ⟨⟨bc, rfl, _⟩, hb5⟩
  have HB5 := Lib.hid (HB4.out.trans (hb5.mono HB4.out.size))
  have HP5 := Lib.hid (HP4.out.below hb5)
  have HX5 := Lib.hid (HX4.out.below hb5)
  have HE5 := Lib.hid (HE4.out.below hb5)
  clear hb5 HNW d4 d5 d6 sl1 eh eh' hkh
  obtain ⟨d4, d5, d6⟩ := HPC.out w5 HP5.out
  have tN : decide ((N : Int) < 0) = false := decide_eq_false (by omega)
  by_cases hm : m = nb
  case neg =>
    have tm : ((m : Int) != (nb : Int)) = true := by rw [bne_iff_ne]; omega
    have HR := Lib.hid (HRD2.out.trans (if_pos (.inl (by rw [HBL.out]; exact hm))))
    clear hm
    go_wp2
    go_ret2
    exact ⟨none, 0, 0, by rw [HR.out]; rfl, by rw [HR.out]; exact World.ownsRow_nil _ _ _ _, HB5.out⟩
  subst hm
  have tm : ((m : Int) != (m : Int)) = false := by simp
  have HHP := Lib.hid (hasp_any ax a4 nx cx h k4 x hd w5 HX5.out HE5.out)
  go_wp2_with fail
  refine HHP.out.mono ?_
  rintro e w5 ⟨rfl, rfl⟩
  cases hpx : decide (hd <+: x) with
  | false =>
    have HR := Lib.hid (HRD2.out.trans (if_pos (.inr (of_decide_eq_false hpx))))
    clear hpx
    go_wp2
    go_ret2
    exact ⟨none, 0, 0, by rw [HR.out]; rfl, by rw [HR.out]; exact World.ownsRow_nil _ _ _ _, HB5.out⟩
  | true =>
    have hpx' := of_decide_eq_true hpx
    have HRD3 := Lib.hid (HRD2.out.trans (if_neg (by rintro (h1 | h1); exact h1 (by rw [HBL.out]); exact h1 hpx')))
    have hxl : h ≤ nx := by
      have h1 := hpx'.length_le
      have h2 := HX5.out.1
      have h3 := HH.out
      omega
    have hnx : nx ≤ cx := HX5.out.2.1
    clear hpx hpx'
    obtain ⟨y, t, es, hy⟩ : ∃ y t es, Codec.rdBytes (x.drop hd.length) 67108864 = (y, t, es) := ⟨_, _, _, rfl⟩
    have HRD4 := Lib.hid HRD3.out
    have HTB : Hid (es = 0 → t ≤ 67108864) := Lib.hid fun e => by
      have h1 := rdBytes_le (b := x.drop hd.length) (most := 67108864) (by rw [hy]; exact e)
      have h2 := HXB2.out
      rw [hy, List.length_drop] at h1
      simp only at h1
      omega
    rw [hy] at HRD4
    simp only at HRD4
    have HRB : Hid (Calls Tryz.prog 48 #[.slice (subA ax cx h) (nx - h) (cx - h), .int .i64 67108864] w5 (RetRO w5 (y, t, es))) := Lib.hid (by
      have hd5 := HX5.out.drop hxl
      have h1 := readbytes_own (subA ax cx h) (nx - h) (cx - h) (x.drop h) 67108864 w5 hd5 ⟨by have h2 := HX5.out.1; have h3 := HXB2.out; omega⟩ (by omega) (by omega)
      rw [HH.out, hy] at h1
      rw [HH.out]
      exact h1)
    clear hy HRD3 HRD2
    have sl2 := fun W => slice_l ax nx cx (lo := (h : Int)) (lo' := h) rfl hxl W
    go_wp2_with fail
    refine HRB.out.mono ?_
    rintro e w6 ⟨a6, n6, k6, rfl, hy6, hb6⟩
    dsimp only at hy6
    have HB6 := Lib.hid (HB5.out.trans (hb6.mono HB5.out.size))
    have HP6 := Lib.hid (HP5.out.below hb6)
    have HY6 := Lib.hid hy6
    have HXN := Lib.hid HX5.out.1
    clear hy6 hb6 sl2 d4 d5 d6
    by_cases hes : es = 0
    case neg =>
      have te : ((es : Int) != 0) = true := by rw [bne_iff_ne]; omega
      have HR := Lib.hid (HRD4.out.trans (if_pos (.inl hes)))
      clear hes
      go_wp2
      go_ret2
      exact ⟨none, 0, 0, by rw [HR.out]; rfl, by rw [HR.out]; exact World.ownsRow_nil _ _ _ _, HB6.out⟩
    subst hes
    have htb := HTB.out rfl
    by_cases hq : h + t = nx
    case neg =>
      have te : (((h : Int) + (t : Int)) != (nx : Int)) = true := by rw [bne_iff_ne]; omega
      have HR := Lib.hid (HRD4.out.trans (if_pos (.inr (.inl (by rw [HXN.out, ← HH.out]; exact hq)))))
      clear hq
      go_wp2
      go_ret2
      exact ⟨none, 0, 0, by rw [HR.out]; rfl, by rw [HR.out]; exact World.ownsRow_nil _ _ _ _, HB6.out⟩
    have te : (((h : Int) + (t : Int)) != (nx : Int)) = false := by rw [bne_eq_false_iff_eq]; omega
    have c0 := HP6.out.c0
    have c1 := HP6.out.c1
    have c2 := HP6.out.c2
    have c3 := HP6.out.c3
    have c4 := HP6.out.c4
    have c5 := HP6.out.c5
    have c6 := HP6.out.c6
    have c7 := HP6.out.c7
    have c8 := HP6.out.c8
    have HQ := Lib.hid hq
    clear hq
    go_wp2_with fail
    refine (HLN.out w6).mono ?_
    rintro e w7 ⟨rfl, hb7⟩
    have HB7 := Lib.hid (HB6.out.trans (hb7.mono HB6.out.size))
    have HY7 := Lib.hid (HY6.out.below hb7)
    clear hb7 c0 c1 c2 c3 c4 c5 c6 c7 c8
    by_cases hw : n6 = W0
    case neg =>
      have tw : ((n6 : Int) != (W0 : Int)) = true := by rw [bne_iff_ne]; omega
      have HR := Lib.hid (HRD4.out.trans (if_pos (.inr (.inr (by rw [HY6.out.bs.1]; exact hw)))))
      clear hw
      go_wp2
      go_ret2
      exact ⟨none, 0, 0, by rw [HR.out]; rfl, by rw [HR.out]; exact World.ownsRow_nil _ _ _ _, HB7.out⟩
    subst hw
    have tw : ((n6 : Int) != (n6 : Int)) = false := by simp
    have HR := Lib.hid (HRD4.out.trans (if_neg (by
      rintro (h1 | h1 | h1)
      · exact h1 rfl
      · exact h1 (by rw [HXN.out, ← HH.out]; exact HQ.out)
      · exact h1 HY6.out.bs.1)))
    go_wp2
    go_ret2
    exact ⟨_, _, _, by rw [HR.out]; rfl, by rw [HR.out]; exact own_mono HY7.out HB5.out.size, HB7.out⟩
end Go.Proofs.YtfgifndpglgjkaaGreatDoor
end

section
set_option maxRecDepth 100000
set_option linter.unusedVariables false
set_option linter.unusedSimpArgs false
namespace Go.Proofs.YtfgifndpglgjkaaGreatDoor
open Go.RowKit

theorem infoI : (Tryz.prog.info? 3).map (fun i => (i.zero, i.size, i.bytes)) = some (some (.int .i64 0), 1, 8) := by kernel_rfl
theorem zv_one (l : List Int) : ∀ u ∈ zv l, u.oneCell' = true := fun u hu => by
  obtain ⟨z, _, rfl⟩ := List.mem_map.1 hu
  rfl
def AccI (w : World) (B : Nat) (a : Option Addr) (n c : Nat) (l : List Int) : Prop := l.length = n ∧ w.ownsRow B 3 1 (.slice a n c) n (zv l) ∧ ∀ z ∈ l, I64 z
theorem AccI.is {w : World} {B n c : Nat} {a : Option Addr} {l : List Int} (h : AccI w B a n c l) : Is w a n c l := by
  obtain ⟨h1, h2, h4⟩ := h
  have h3 := own_cap h2
  exact ⟨h1, h3.2.1, h3.2.2, Row.of_own h2, h4⟩
theorem AccI.below {w w' : World} {B n c : Nat} {a : Option Addr} {l : List Int} (h : AccI w B a n c l) (hb : Below w.heap.size w w') : AccI w' B a n c l := ⟨h.1, own_below h.2.1 hb, h.2.2⟩
theorem AccI.mono {w : World} {B B' n c : Nat} {a : Option Addr} {l : List Int} (h : AccI w B a n c l) (hB : B' ≤ B) : AccI w B' a n c l := ⟨h.1, own_mono h.2.1 hB, h.2.2⟩
theorem AccI.nil (w : World) (B : Nat) : AccI w B none 0 0 [] := ⟨rfl, World.ownsRow_nil w B _ _, fun z hz => (by cases hz)⟩
set_option maxHeartbeats 1000000 in
theorem clonei_any (a : Option Addr) (n c : Nat) (l : List Int) (w : World) (h : Is w a n c l) (hn : n ≤ 1000000000) :
    Calls Tryz.prog 26 #[.slice a n c] w fun e w' => ∃ a' c', e = .returned (.slice a' n c') ∧ AccI w' w.heap.size a' n c' l ∧ Below w.heap.size w w' := by
  have hq := fun (w : World) => Lib.run_eql_slice_nil (P := Tryz.prog) w 26 3 a n c 0 0 Tryz.underlying26
  have hle := h.le
  cases a with
  | none =>
    go_enter Tryz.func26, Tryz.ntmps26
    go_wp2
    go_ret
    have hn0 : n = 0 := by
      rcases Nat.eq_zero_or_pos n with h' | h'
      · exact h'
      · obtain ⟨_, _, h1, _⟩ := h.get h'; cases h1
    subst hn0
    have hl : l = [] := List.eq_nil_of_length_eq_zero h.1
    subst hl
    exact ⟨none, 0, rfl, AccI.nil _ _, Below.refl _ _⟩
  | some ad =>
    obtain ⟨i0, hi0, hz0, hz1, hz2⟩ := info_parts infoI
    have hrow : Row (w.alloc (.cells #[] 3)) (some ad) (zv l) := h.2.2.2.1.below (below_alloc1 w _)
    have hlit : (w.alloc (.cells #[] 3)).ownsRow w.heap.size 3 1 (.slice (some ⟨w.heap.size, 0, none⟩) 0 0) 0 [] :=
      ⟨rfl, .inr ⟨w.heap.size, 0, #[], rfl, Nat.le_refl _, heap_alloc_new w _, Nat.le_refl _, by simp [maxLen], rfl, rfl⟩⟩
    have HROW := Lib.hid hrow
    have HLIT := Lib.hid hlit
    have HCL : Hid ((zv l).length = n) := Lib.hid (by simp [zv, h.1])
    have HI := Lib.hid (And.intro hi0 (And.intro hz0 (And.intro hz1 hz2)))
    clear hrow hlit hi0 hz0 hz1 hz2
    go_enter Tryz.func26, Tryz.ntmps26
    go_wp2_with (at_builtin; refine wpList_app_own rfl _ _ 26 rfl w.heap.size 3 i0 (.int .i64 0) 1 8 Tryz.underlying26 HI.out.1 HI.out.2.1 HI.out.2.2.1 HI.out.2.2.2 rfl (by decide) (some ⟨w.heap.size, 0, none⟩) 0 0 [] rfl HLIT.out (some ad) n c (zv l) rfl HROW.out (by rw [HCL.out]; simp) (zv_one l) (by omega) (by simp only [maxLen]; omega) (le_alloc (Nat.le_refl _)) ?_; intro a5 c5 w5 h5 hev5)
    go_ret
    simp only [Nat.zero_add, List.nil_append] at h5
    exact ⟨a5, c5, by simp, ⟨h.1, h5, h.2.2.2.2⟩, (below_alloc1 w _).trans ((hev5.below (B := w.heap.size) (le_alloc (Nat.le_refl _)) (fun x hx => by cases hx; exact Nat.le_refl _)))⟩

def Cd.node (z : Int) : Bool := decide (0 ≤ z) && decide (z < 16)
theorem cnode_any (z : Int) (w : World) : Calls Tryz.prog 23 #[.int .i64 z] w fun e w' => e = .returned (.bool (!Cd.node z)) ∧ w = w' := by
  have HN : Hid (Calls Tryz.prog 24 #[.int .i64 z] w fun e w' => e = .returned (.bool (Cd.node z)) ∧ w = w') := Lib.hid (by
    unfold Cd.node
    go_enter Tryz.func24, Tryz.ntmps24
    by_cases h : 0 ≤ z
    · have t : decide ((0 : Int) ≤ z) = true := decide_eq_true h
      go_wp2
      go_ret
      exact ⟨by first | rfl | (rw [t]; rfl) | simp [t], rfl⟩
    · have t : decide ((0 : Int) ≤ z) = false := decide_eq_false h
      go_wp2
      go_ret
      exact ⟨by first | rfl | (rw [t]; rfl) | simp [t], rfl⟩)
  generalize Cd.node z = bn at *
  go_enter Tryz.func23, Tryz.ntmps23
  go_wp2_with fail
  refine HN.out.mono ?_
  rintro e w' ⟨rfl, rfl⟩
  go_wp2
  go_ret
  exact ⟨rfl, rfl⟩
set_option maxHeartbeats 1000000 in
theorem idxn_any (a : Option Addr) (n c : Nat) (l : List Int) (w : World) (h : Is w a n c l) (hn : n ≤ 1000000000) :
    Calls Tryz.prog 57 #[.slice a n c, .func (.func 23) #[] #[]] w fun e w' => ∃ r : Int, e = .returned (.int .i64 r) ∧ decide (0 ≤ r) = (!l.all Cd.node) ∧ ∃ q, w' = w.drewN q := by
  have HL := Lib.hid h
  have HN := Lib.hid h.1
  have hle := h.le.1
  clear h
  go_enter Tryz.func57, Tryz.ntmps57
  go_wp2
  go_loopw [8] (fun i wr => ∃ k q : Nat, k ≤ n ∧ i = .int .i64 k ∧ wr = w.drewN q ∧ Hid (∀ j, j < k → Cd.node (nth l j) = true)) (fun i _ => n - (intOf i).toNat)
  case atStart => exact ⟨0, 0, by omega, rfl, rfl, Lib.hid (fun j hj => by omega)⟩
  case round =>
    obtain ⟨k, q, hk, rfl, rfl, hall⟩ := hrel
    by_cases hlt : k < n
    · obtain ⟨b, off, rfl, hc⟩ := (HL.out.below (below_drewN (Below.refl _ _) q)).get hlt
      have HCN := Lib.hid (fun W => cnode_any (nth l k) W)
      have HX : Hid (Cd.node (nth l k) = true ∨ Cd.node (nth l k) = false) := Lib.hid (by cases Cd.node (nth l k) <;> simp)
      have HAL : Hid (Cd.node (nth l k) = true → ∀ j, j < k + 1 → Cd.node (nth l j) = true) := Lib.hid fun h1 j hj => by
        by_cases e : j = k
        · rw [e]; exact h1
        · exact hall.out j (by omega)
      have HBAD : Hid (Cd.node (nth l k) = false → l.all Cd.node = false) := Lib.hid fun h1 => by
        rw [List.all_eq_false]
        exact ⟨nth l k, by rw [nth_eq _ (by rw [HN.out]; exact hlt)]; exact List.getElem_mem _, by rw [h1]; simp⟩
      generalize nth l k = z at *
      go_wp2_with fail
      refine (HCN.out _).mono ?_
      rintro e w' ⟨rfl, rfl⟩
      rcases HX.out with hx | hx
      · rw [hx]
        have HA := Lib.hid (HAL.out hx)
        clear hx HAL
        go_wp2
        go_roundw
        case rel => exact ⟨k + 1, q, by omega, by go_num, rfl, HA⟩
        case measure => simp [intOf]; omega
      · rw [hx]
        have HB := Lib.hid (HBAD.out hx)
        clear hx
        go_wp2
        go_ret
        exact ⟨k, rfl, by rw [HB.out]; exact decide_eq_true (by omega), q, rfl⟩
    · obtain rfl : k = n := by omega
      have HA : Hid (l.all Cd.node = true) := Lib.hid (by
        rw [List.all_eq_true]
        intro x hx
        obtain ⟨j, hj, rfl⟩ := List.mem_iff_getElem.1 hx
        have := hall.out j (by rw [← HN.out]; exact hj)
        rwa [nth_eq _ hj] at this)
      go_wp2
      go_ret
      exact ⟨-1, rfl, by rw [HA.out]; rfl, q, rfl⟩
theorem contn_any (a : Option Addr) (n c : Nat) (l : List Int) (w : World) (h : Is w a n c l) (hn : n ≤ 1000000000) :
    Calls Tryz.prog 22 #[.slice a n c, .func (.func 23) #[] #[]] w fun e w' => e = .returned (.bool (!l.all Cd.node)) ∧ Below w.heap.size w w' := by
  have HI := Lib.hid (idxn_any a n c l w h hn)
  generalize (!l.all Cd.node) = bb at *
  clear h
  go_enter Tryz.func22, Tryz.ntmps22
  go_wp2_with fail
  refine HI.out.mono ?_
  rintro e w' ⟨r, rfl, hr, q, rfl⟩
  go_wp2
  go_ret
  exact ⟨by first | rfl | rw [hr], below_drewN (Below.refl _ _) q⟩
end Go.Proofs.YtfgifndpglgjkaaGreatDoor
end
