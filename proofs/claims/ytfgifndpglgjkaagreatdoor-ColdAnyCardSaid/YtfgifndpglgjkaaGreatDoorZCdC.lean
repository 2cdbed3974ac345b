/- Cold stripes: names. -/
import Derived.Test.YtfgifndpglgjkaaGreatDoorZScG
import Derived.Test.YtfgifndpglgjkaaGreatDoorZCdI
import Derived.Test.YtfgifndpglgjkaaGreatDoorZQRsL
import Derived.Test.YtfgifndpglgjkaaGreatDoorZRange
import Derived.Test.YtfgifndpglgjkaaGreatDoorZRows2
import Derived.Lib.AppendIntMem
import Derived.Deep.DeepCutAuto
set_option linter.unusedVariables false
set_option linter.unusedSimpArgs false
section
set_option maxRecDepth 100000
set_option linter.unusedVariables false
set_option linter.unusedSimpArgs false
namespace Go.Proofs.YtfgifndpglgjkaaGreatDoor
open Go.RowKit
attribute [local go_sem] bstr_size

/-- The package's variables that are read. -/
structure Cst (w : World) : Prop where
  laid : Laid w
  tab : Lib.TabIs Tryz.prog w "internal/strconv.uint64pow10" .u64 Lib.pow10Tab
theorem gPow_ : Tryz.prog.globalNamed "internal/strconv.uint64pow10" = some 0 := by kernel_rfl
theorem Cst.below {w w' : World} (h : Cst w) (hb : Below w.heap.size w w') : Cst w' := by
  refine ⟨h.laid.below hb, ?_⟩
  have h1 := h.tab
  unfold Lib.TabIs at h1 ⊢
  rw [var?_below hb gPow_ ?_]
  · exact h1
  · rcases Nat.lt_or_ge 0 w.heap.size with h2 | h2
    · exact h2
    · exfalso
      simp [World.var?, gPow_, Array.getElem?_eq_none h2] at h1
theorem itoa_any (k : Nat) (hk : k ≤ 1000000000) (w : World) (h : Cst w) :
    Calls Tryz.prog 30 #[.int .i64 k] w fun e w' => e = .returned (.string (bstr (Lib.decDigits k))) ∧ Below w.heap.size w w' := by
  refine (Tryz.strconv_Itoa k (by omega) (by omega) w h.tab).mono ?_
  rintro e w' ⟨rfl, q, os, rfl⟩
  rw [Lib.itoa_nonneg]
  exact ⟨rfl, Lib.below_grow _ _ (Nat.le_refl _) _ _⟩
theorem dec_last {n : Nat} : ∃ r, Lib.decDigits n = r ++ [UInt8.ofNat (48 + n % 10)] ∧ (10 ≤ n → r = Lib.decDigits (n / 10)) ∧ (n < 10 → r = []) := by
  by_cases h : n < 10
  · refine ⟨[], ?_, fun h' => by omega, fun _ => rfl⟩
    rw [Lib.decDigits, dif_pos h, show n % 10 = n by omega]; rfl
  · refine ⟨Lib.decDigits (n / 10), ?_, fun _ => rfl, fun h' => by omega⟩
    conv => lhs; rw [Lib.decDigits, dif_neg h]
theorem bstr_join (a b : List UInt8) : bstr a ++ bstr b = bstr (a ++ b) := by
  apply ByteArray.ext
  simp [bstr]
def dpre (n : Nat) : List UInt8 := if n < 10 then [] else Lib.decDigits (n / 10)
theorem dec_pre (n : Nat) : Lib.decDigits n = dpre n ++ [UInt8.ofNat (48 + n % 10)] := by
  obtain ⟨r, h1, h2, h3⟩ := dec_last (n := n)
  unfold dpre
  by_cases h : n < 10
  · rw [h1, h3 h, if_pos h]
  · rw [h1, h2 (by omega), if_neg h]
theorem ddec_step {N n : Nat} {rest : List UInt8} (hn : 10 ≤ n) (h : Lib.decDigits N = dpre n ++ rest) : Lib.decDigits N = dpre (n / 10) ++ (UInt8.ofNat (48 + n / 10 % 10) :: rest) := by
  rw [h, show dpre n = Lib.decDigits (n / 10) by unfold dpre; rw [if_neg (by omega)], dec_pre (n / 10)]
  simp
theorem dec_len (n : Nat) : (Lib.decDigits n).length ≤ n + 1 := by
  induction n using Nat.strongRecOn with
  | ind n ih =>
    rw [dec_pre]
    unfold dpre
    by_cases h : n < 10
    · rw [if_pos h]; simp
    · rw [if_neg h]
      have := ih (n / 10) (by omega)
      simp
      omega
set_option maxHeartbeats 1000000 in
theorem rdecimal_any (N : Nat) (hN : N ≤ 1000000000) (w : World) :
    Calls Tryz.prog 69 #[.int .i64 N] w fun e w' => e = .returned (.string (bstr (Lib.decDigits N))) ∧ Below w.heap.size w w' := by
  have HD : Hid (Lib.decDigits N = dpre N ++ (UInt8.ofNat (48 + N % 10) :: [])) := Lib.hid (dec_pre N)
  obtain ⟨d, hd⟩ : ∃ d, d = N % 10 := ⟨_, rfl⟩
  obtain ⟨z, hz⟩ : ∃ z, z = 48 + d := ⟨_, rfl⟩
  rw [← hd, ← hz] at HD
  have e1 : (N : Int) % 10 = (d : Int) := by omega
  have e1' : Int.tmod (N : Int) 10 = (d : Int) := by rw [Int.tmod_eq_emod_of_nonneg (by omega)]; omega
  have e2 : (48 : Int) + (d : Int) = (z : Int) := by omega
  have hlt : z < 256 := by omega
  have hw1 : IntKind.u8.wrap (z : Int) = (z : Int) := by rw [IntKind.wrap_u8]; omega
  have v1 := conv_bytes (Bs.oneN w z hlt)
  have hb1 := below_alloc1 w (.cells #[.int .u8 (z : Int)] 5)
  have HB1 := Lib.hid hb1
  clear hb1 hd hz
  go_enter Tryz.func69, Tryz.ntmps69
  go_wp2_with fail
  go_loopw [0, 3] (fun nv sv wr => ∃ n : Nat, ∃ rest : List UInt8, n ≤ 1000000000 ∧ nv = .int .i64 n ∧ sv = .string (bstr rest) ∧ Hid (Lib.decDigits N = dpre n ++ rest) ∧ Hid (Below w.heap.size w wr)) (fun nv _ _ => (intOf nv).toNat)
  case atStart => exact ⟨N, [UInt8.ofNat z], hN, rfl, rfl, HD, HB1⟩
  case round =>
    obtain ⟨n, rest, hn, rfl, rfl, HR, HB⟩ := hrel
    by_cases h10 : n < 10
    · have t1 : decide ((10 : Int) ≤ (n : Int)) = false := decide_eq_false (by omega)
      have t2 : decide (10 ≤ n) = false := decide_eq_false (by omega)
      have HR2 : Hid (bstr rest = bstr (Lib.decDigits N)) := Lib.hid (by rw [HR.out]; unfold dpre; rw [if_pos h10]; rfl)
      go_wp2
      go_ret
      exact ⟨by rw [← HR2.out]; rfl, HB.out⟩
    · have t1 : decide ((10 : Int) ≤ (n : Int)) = true := decide_eq_true (by omega)
      have t2 : decide (10 ≤ n) = true := decide_eq_true (by omega)
      have HR2 := Lib.hid (ddec_step (by omega) HR.out)
      have hrl : 1 + rest.length ≤ 9223372036854775807 := by
        have h1 := congrArg List.length HR.out
        rw [List.length_append] at h1
        have h2 := dec_len N
        omega
      have hrl' : decide (9223372036854775807 < 1 + rest.length) = false := decide_eq_false (by omega)
      obtain ⟨q, hq⟩ : ∃ q, q = n / 10 := ⟨_, rfl⟩
      obtain ⟨d, hd⟩ : ∃ d, d = q % 10 := ⟨_, rfl⟩
      obtain ⟨z, hz⟩ : ∃ z, z = 48 + d := ⟨_, rfl⟩
      have f0 : (n : Int) / 10 = ((q : Nat) : Int) := by omega
      have f0' : Int.tdiv (n : Int) 10 = ((q : Nat) : Int) := by rw [Int.tdiv_eq_ediv_of_nonneg (by omega)]; omega
      have f1 : (q : Int) % 10 = (d : Int) := by omega
      have f1' : Int.tmod (q : Int) 10 = (d : Int) := by rw [Int.tmod_eq_emod_of_nonneg (by omega)]; omega
      have f2 : (48 : Int) + (d : Int) = (z : Int) := by omega
      have hlt2 : z < 256 := by omega
      have hw2 : IntKind.u8.wrap (z : Int) = (z : Int) := by rw [IntKind.wrap_u8]; omega
      have v2 := conv_bytes (Bs.oneN wr z hlt2)
      have HB2 : Hid (Below w.heap.size w (wr.alloc (.cells #[.int .u8 (z : Int)] 5))) := Lib.hid (HB.out.alloc HB.out.size _)
      have HJ := Lib.hid (bstr_join [UInt8.ofNat z] rest)
      rw [← hq, ← hd, ← hz] at HR2
      have HQ := Lib.hid hq
      clear hq hd hz v1 e1 e1' e2 hlt hw1
      go_wp2
      go_roundw
      case rel => exact ⟨q, UInt8.ofNat z :: rest, by have := HQ.out; omega, by go_num, by rw [HJ.out]; rfl, HR2, HB2⟩
      case measure => simp [intOf]; have := HQ.out; omega
theorem dec_three {k : Nat} (h : k < 1000) : 1 ≤ (Lib.decDigits k).length ∧ (Lib.decDigits k).length ≤ 3 := by
  have h1 : ∀ n, 1 ≤ (Lib.decDigits n).length := fun n => by obtain ⟨r, h, _, _⟩ := dec_last (n := n); rw [h, List.length_append]; simp
  have h2 : ∀ n, n < 10 → (Lib.decDigits n).length ≤ 1 := fun n hn => by obtain ⟨r, h, _, h3⟩ := dec_last (n := n); rw [h, h3 hn]; simp
  have h3 : ∀ n, n < 100 → (Lib.decDigits n).length ≤ 2 := fun n hn => by
    by_cases hc : n < 10
    · have := h2 n hc; omega
    · obtain ⟨r, h, h4, _⟩ := dec_last (n := n)
      have := h2 (n / 10) (by omega)
      rw [h, h4 (by omega), List.length_append]
      simp; omega
  refine ⟨h1 k, ?_⟩
  by_cases hc : k < 10
  · have := h2 k hc; omega
  · obtain ⟨r, h, h4, _⟩ := dec_last (n := k)
    have := h3 (k / 10) (by omega)
    rw [h, h4 (by omega), List.length_append]
    simp; omega
/-- Three digits of a number. -/
def Cd.d3 (k : Nat) : List UInt8 := List.replicate (3 - (Lib.decDigits k).length) 48 ++ Lib.decDigits k
/-- The last three digits of a number, without a sign. -/
def Cd.three (i : Int) : Nat := (Int.tmod i 1000).natAbs
theorem tmod_1000 (i : Int) : Int.tmod i 1000 = if 0 ≤ i then i % 1000 else -((-i) % 1000) := by
  by_cases h : 0 ≤ i
  · rw [if_pos h, Int.tmod_eq_emod_of_nonneg h]
  · rw [if_neg h]
    have := Int.neg_tmod (a := -i) (b := 1000)
    rw [Int.neg_neg] at this
    rw [this, Int.tmod_eq_emod_of_nonneg (by omega)]
theorem three_lt (i : Int) : Cd.three i < 1000 := by
  unfold Cd.three
  rw [tmod_1000]
  split <;> omega
def Cd.name (s : Nat) (i : Int) : List UInt8 := [115, 45] ++ hx 16 s ++ [45] ++ Cd.d3 (Cd.three i)
set_option maxHeartbeats 1000000 in
theorem name_any (s : Nat) (i : Int) (hs : U64 s) (hi : Cd.I64 i) (w : World) (hc : Cst w) :
    Calls Tryz.prog 11 #[.int .u64 s, .int .i64 i] w fun e w' => e = .returned (.string (bstr (Cd.name s i))) ∧ Below w.heap.size w w' := by
  have HF := Lib.hid (fmt_any s hs w hc.laid)
  have HC := Lib.hid hc
  have hxp := hxf_pos s
  obtain ⟨hxl, hxe⟩ := hx_of 15 s (by have := hs.lt; omega)
  have HXE := Lib.hid hxe
  obtain ⟨k, hk⟩ : ∃ k, k = Cd.three i := ⟨_, rfl⟩
  have hk3 := three_lt i
  obtain ⟨hd1, hd3⟩ := dec_three (k := Cd.three i) hk3
  have HN : Hid (Cd.name s i = [115, 45] ++ hx 16 s ++ [45] ++ (List.replicate (3 - (Lib.decDigits k).length) 48 ++ Lib.decDigits k)) := Lib.hid (by rw [hk]; rfl)
  rw [← hk] at hk3 hd1 hd3
  clear hxe hc hs
  obtain ⟨t, ht⟩ : ∃ t, t = Int.tmod i 1000 := ⟨_, rfl⟩
  have hkt : k = t.natAbs := by rw [hk, ht]; rfl
  have htb : -1000 < t ∧ t < 1000 := by rw [ht, tmod_1000]; split <;> omega
  have HT := Lib.hid ht
  clear hk ht
  have HR1 : Hid (∀ W, Calls Tryz.prog 31 #[.string ⟨#[48]⟩, .int .i64 (16 - (hxf s).length : Int)] W fun e w' => e = .returned (.string (bstr (List.replicate (16 - (hxf s).length) 48))) ∧ W = w') := Lib.hid fun W => by
    have h := repeat_any (16 - (hxf s).length) (by omega) W
    rw [show ((16 - (hxf s).length : Nat) : Int) = 16 - ((hxf s).length : Int) by omega] at h
    exact h
  have HR2 : Hid (∀ W, Calls Tryz.prog 31 #[.string ⟨#[48]⟩, .int .i64 (3 - (Lib.decDigits k).length : Int)] W fun e w' => e = .returned (.string (bstr (List.replicate (3 - (Lib.decDigits k).length) 48))) ∧ W = w') := Lib.hid fun W => by
    have h := repeat_any (3 - (Lib.decDigits k).length) (by omega) W
    rw [show ((3 - (Lib.decDigits k).length : Nat) : Int) = 3 - ((Lib.decDigits k).length : Int) by omega] at h
    exact h
  have hz : IntKind.i64.wrap (16 - ((hxf s).length : Int)) = 16 - ((hxf s).length : Int) := by rw [IntKind.wrap_i64]; omega
  have hz2 : IntKind.i64.wrap (3 - ((Lib.decDigits k).length : Int)) = 3 - ((Lib.decDigits k).length : Int) := by rw [IntKind.wrap_i64]; omega
  have HTT : Hid (∀ W : World, True) := Lib.hid fun _ => trivial
  generalize hxf s = x at *
  go_enter Tryz.func11, Tryz.ntmps11
  go_wp2_with fail
  refine HF.out.mono ?_
  rintro e w1 ⟨rfl, hb1⟩
  have HB1 := Lib.hid hb1
  clear hb1 HF
  have htt := HT.out.symm
  have HFIN : Hid (Ending.returned (.string ((⟨#[115, 45]⟩ : ByteArray) ++ bstr (List.replicate (16 - x.length) 48) ++ bstr x ++ (⟨#[45]⟩ : ByteArray) ++ bstr (List.replicate (3 - (Lib.decDigits k).length) 48) ++ bstr (Lib.decDigits k))) = Ending.returned (.string (bstr ([115, 45] ++ hx 16 s ++ [45] ++ (List.replicate (3 - (Lib.decDigits k).length) 48 ++ Lib.decDigits k))))) := Lib.hid (by
    rw [show hx 16 s = List.replicate (16 - x.length) 48 ++ x from HXE.out, show (⟨#[115, 45]⟩ : ByteArray) = bstr [115, 45] from rfl, show (⟨#[45]⟩ : ByteArray) = bstr [45] from rfl]
    simp only [bstr_join, List.append_assoc])
  by_cases ht0 : t < 0
  · have t1 : decide (t < 0) = true := decide_eq_true ht0
    have en : -t = (k : Int) := by omega
    have en0 : 0 - t = (k : Int) := by omega
    have ew : IntKind.i64.wrap (k : Int) = (k : Int) := by rw [IntKind.wrap_i64]; omega
    clear hkt
    go_wp2_with fail
    refine (itoa_any k (by omega) w1 (HC.out.below HB1.out)).mono ?_
    rintro e w2 ⟨rfl, hb2⟩
    have HB2 := Lib.hid (HB1.out.trans (hb2.mono HB1.out.size))
    clear hb2
    go_wp2_with fail
    refine (HR1.out w2).mono ?_
    rintro e w2 ⟨rfl, rfl⟩
    go_wp2_with fail
    refine (HR2.out w2).mono ?_
    rintro e w2 ⟨rfl, rfl⟩
    go_wp2
    go_ret
    exact ⟨by rw [HN.out]; exact HFIN.out, HB2.out⟩
  · have t1 : decide (t < 0) = false := decide_eq_false ht0
    obtain rfl : t = (k : Int) := by omega
    have t2 : decide ((k : Int) < 0) = false := decide_eq_false (by omega)
    clear hkt htb ht0 t1
    go_wp2_with fail
    refine (itoa_any k (by omega) w1 (HC.out.below HB1.out)).mono ?_
    rintro e w2 ⟨rfl, hb2⟩
    have HB2 := Lib.hid (HB1.out.trans (hb2.mono HB1.out.size))
    clear hb2
    go_wp2_with fail
    refine (HR1.out w2).mono ?_
    rintro e w2 ⟨rfl, rfl⟩
    go_wp2_with fail
    refine (HR2.out w2).mono ?_
    rintro e w2 ⟨rfl, rfl⟩
    go_wp2
    go_ret
    exact ⟨by rw [HN.out]; exact HFIN.out, HB2.out⟩
end Go.Proofs.YtfgifndpglgjkaaGreatDoor
end

section
set_option maxRecDepth 100000
set_option linter.unusedVariables false
set_option linter.unusedSimpArgs false
namespace Go.Proofs.YtfgifndpglgjkaaGreatDoor
open Go.RowKit
attribute [local go_sem] bstr_size

def strLen : Value → Nat
  | .string b => b.size
  | _ => 0
set_option maxHeartbeats 1000000 in
theorem rthree_any (i : Int) (hi : Cd.I64 i) (w : World) :
    Calls Tryz.prog 33 #[.int .i64 i] w fun e w' => e = .returned (.string (bstr (Cd.d3 (Cd.three i)))) ∧ Below w.heap.size w w' := by
  obtain ⟨k, hk⟩ : ∃ k, k = Cd.three i := ⟨_, rfl⟩
  have hk3 := three_lt i
  obtain ⟨hd1, hd3⟩ := dec_three (k := Cd.three i) hk3
  rw [← hk] at hk3 hd1 hd3
  have HN : Hid (Cd.d3 (Cd.three i) = List.replicate (3 - (Lib.decDigits k).length) 48 ++ Lib.decDigits k) := Lib.hid (by rw [hk]; rfl)
  obtain ⟨t, ht⟩ : ∃ t, t = Int.tmod i 1000 := ⟨_, rfl⟩
  have hkt : k = t.natAbs := by rw [hk, ht]; rfl
  have htb : -1000 < t ∧ t < 1000 := by rw [ht, tmod_1000]; split <;> omega
  have htt := ht.symm
  clear hk ht
  go_enter Tryz.func33, Tryz.ntmps33
  by_cases ht0 : t < 0
  · have t1 : decide (t < 0) = true := decide_eq_true ht0
    have en : -t = (k : Int) := by omega
    have en0 : 0 - t = (k : Int) := by omega
    have ew : IntKind.i64.wrap (k : Int) = (k : Int) := by rw [IntKind.wrap_i64]; omega
    clear hkt
    go_wp2_with fail
    refine (rdecimal_any k (by omega) _).mono ?_
    rintro e w2 ⟨rfl, hb2⟩
    have HB2 := Lib.hid hb2
    clear hb2
    generalize Lib.decDigits k = d at *
    go_wp2_with fail
    go_loopw [3] (fun sv wr => ∃ j : Nat, j + d.length ≤ 3 ∧ sv = .string (bstr (List.replicate j 48 ++ d)) ∧ wr = w2) (fun sv _ => 3 - strLen sv)
    case atStart => exact ⟨0, by omega, rfl, rfl⟩
    case round =>
      obtain ⟨j, hj, rfl, rfl⟩ := hrel
      have hl : (List.replicate j (48 : UInt8) ++ d).length = j + d.length := by simp
      have HS : Hid (bstr [48] ++ bstr (List.replicate j 48 ++ d) = bstr (List.replicate (j + 1) 48 ++ d)) := Lib.hid (by rw [bstr_join, List.replicate_succ]; rfl)
      have HZ : Hid (strLen (.string (bstr (List.replicate j 48 ++ d))) = j + d.length ∧ strLen (.string (bstr (List.replicate (j + 1) 48 ++ d))) = j + 1 + d.length) := Lib.hid (by
        unfold strLen
        simp only [bstr_size, List.length_append, List.length_replicate]
        exact ⟨trivial, trivial⟩)
      have e48 : (⟨#[48]⟩ : ByteArray) = bstr [48] := rfl
      have HL : Hid (3 - (j + d.length) = 0 → List.replicate j (48 : UInt8) ++ d = List.replicate (3 - d.length) 48 ++ d) := Lib.hid (fun h => by rw [show 3 - d.length = j by omega])
      generalize hx : List.replicate j (48 : UInt8) ++ d = x at *
      by_cases h3 : j + d.length < 3
      · have t1 : decide ((x.length : Int) < 3) = true := decide_eq_true (by omega)
        have t2 : decide (x.length < 3) = true := decide_eq_true (by omega)
        have hs1 : 1 + x.length ≤ 9223372036854775807 := by omega
        clear hl hx
        go_wp2
        go_roundw
        case rel => exact ⟨j + 1, by omega, by first | rw [← HS.out] | (rw [e48, HS.out]), trivial⟩
        case measure => first | (rw [e48, HS.out, HZ.out.1, HZ.out.2]; omega) | (simp only [e48, HS.out, HZ.out.1, HZ.out.2]; omega) | fail "M"
      · have t1 : decide ((x.length : Int) < 3) = false := decide_eq_false (by omega)
        have t2 : decide (x.length < 3) = false := decide_eq_false (by omega)
        have HE := Lib.hid (HL.out (by omega))
        clear hl hx
        go_wp2
        go_ret
        exact ⟨by rw [HN.out, ← HE.out]; rfl, HB2.out⟩
  · have t1 : decide (t < 0) = false := decide_eq_false ht0
    obtain rfl : t = (k : Int) := by omega
    have t2 : decide ((k : Int) < 0) = false := decide_eq_false (by omega)
    clear hkt htb ht0 t1
    go_wp2_with fail
    refine (rdecimal_any k (by omega) _).mono ?_
    rintro e w2 ⟨rfl, hb2⟩
    have HB2 := Lib.hid hb2
    clear hb2
    generalize Lib.decDigits k = d at *
    go_wp2_with fail
    go_loopw [3] (fun sv wr => ∃ j : Nat, j + d.length ≤ 3 ∧ sv = .string (bstr (List.replicate j 48 ++ d)) ∧ wr = w2) (fun sv _ => 3 - strLen sv)
    case atStart => exact ⟨0, by omega, rfl, rfl⟩
    case round =>
      obtain ⟨j, hj, rfl, rfl⟩ := hrel
      have hl : (List.replicate j (48 : UInt8) ++ d).length = j + d.length := by simp
      have HS : Hid (bstr [48] ++ bstr (List.replicate j 48 ++ d) = bstr (List.replicate (j + 1) 48 ++ d)) := Lib.hid (by rw [bstr_join, List.replicate_succ]; rfl)
      have HZ : Hid (strLen (.string (bstr (List.replicate j 48 ++ d))) = j + d.length ∧ strLen (.string (bstr (List.replicate (j + 1) 48 ++ d))) = j + 1 + d.length) := Lib.hid (by
        unfold strLen
        simp only [bstr_size, List.length_append, List.length_replicate]
        exact ⟨trivial, trivial⟩)
      have e48 : (⟨#[48]⟩ : ByteArray) = bstr [48] := rfl
      have HL : Hid (3 - (j + d.length) = 0 → List.replicate j (48 : UInt8) ++ d = List.replicate (3 - d.length) 48 ++ d) := Lib.hid (fun h => by rw [show 3 - d.length = j by omega])
      generalize hx : List.replicate j (48 : UInt8) ++ d = x at *
      by_cases h3 : j + d.length < 3
      · have t1 : decide ((x.length : Int) < 3) = true := decide_eq_true (by omega)
        have t2 : decide (x.length < 3) = true := decide_eq_true (by omega)
        have hs1 : 1 + x.length ≤ 9223372036854775807 := by omega
        clear hl hx
        go_wp2
        go_roundw
        case rel => exact ⟨j + 1, by omega, by first | rw [← HS.out] | (rw [e48, HS.out]), trivial⟩
        case measure => first | (rw [e48, HS.out, HZ.out.1, HZ.out.2]; omega) | (simp only [e48, HS.out, HZ.out.1, HZ.out.2]; omega) | fail "M"
      · have t1 : decide ((x.length : Int) < 3) = false := decide_eq_false (by omega)
        have t2 : decide (x.length < 3) = false := decide_eq_false (by omega)
        have HE := Lib.hid (HL.out (by omega))
        clear hl hx
        go_wp2
        go_ret
        exact ⟨by rw [HN.out, ← HE.out]; rfl, HB2.out⟩
theorem rname_any (s : Nat) (i : Int) (hs : U64 s) (hi : Cd.I64 i) (w : World) :
    Calls Tryz.prog 12 #[.int .u64 s, .int .i64 i] w fun e w' => e = .returned (.string (bstr (Cd.name s i))) ∧ Below w.heap.size w w' := by
  have HH := Lib.hid (rhex_any s hs w)
  have HT := Lib.hid (fun W => rthree_any i hi W)
  have h16 : (hx 16 s).length = 16 := hx_len 16 s
  have hd : (Cd.d3 (Cd.three i)).length ≤ 6 := by
    have := dec_three (three_lt i)
    unfold Cd.d3
    rw [List.length_append, List.length_replicate]
    omega
  have HF : Hid (Ending.returned (.string ((⟨#[115, 45]⟩ : ByteArray) ++ bstr (hx 16 s) ++ (⟨#[45]⟩ : ByteArray) ++ bstr (Cd.d3 (Cd.three i)))) = Ending.returned (.string (bstr (Cd.name s i)))) := Lib.hid (by
    rw [show (⟨#[115, 45]⟩ : ByteArray) = bstr [115, 45] from rfl, show (⟨#[45]⟩ : ByteArray) = bstr [45] from rfl]
    unfold Cd.name
    simp only [bstr_join, List.append_assoc])
  generalize Cd.d3 (Cd.three i) = d at *
  generalize hx 16 s = x at *
  go_enter Tryz.func12, Tryz.ntmps12
  go_wp2_with fail
  refine HH.out.mono ?_
  rintro e w1 ⟨rfl, hb1⟩
  have HB1 := Lib.hid hb1
  clear hb1
  go_wp2_with fail
  refine (HT.out w1).mono ?_
  rintro e w2 ⟨rfl, hb2⟩
  have HB2 := Lib.hid (HB1.out.trans (hb2.mono HB1.out.size))
  clear hb2
  go_wp2
  go_ret
  exact ⟨HF.out, HB2.out⟩
end Go.Proofs.YtfgifndpglgjkaaGreatDoor
end
