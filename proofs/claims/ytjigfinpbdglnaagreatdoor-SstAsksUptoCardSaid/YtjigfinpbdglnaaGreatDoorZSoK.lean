/- A number's digits as the law writes them; an error's words. -/
import Derived.Test.YtjigfinpbdglnaaGreatDoorZSoI
import Derived.Test.YtjigfinpbdglnaaGreatDoorZSoH
import Derived.Lib.AppendIntMem
set_option linter.unusedVariables false
set_option linter.unusedSimpArgs false
set_option maxRecDepth 100000
set_option linter.unusedVariables false
set_option linter.unusedSimpArgs false
namespace Go.Proofs.YtjigfinpbdglnaaGreatDoor
open Go.RowKit

def dpre (n : Nat) : List UInt8 := if n < 10 then [] else Lib.decDigits (n / 10)
theorem dec_pre (n : Nat) : Lib.decDigits n = dpre n ++ [UInt8.ofNat (48 + n % 10)] := by
  obtain ⟨r, h1, h2, h3⟩ := dec_last (n := n)
  unfold dpre
  by_cases h : n < 10
  · rw [h1, h3 h, if_pos h]
  · rw [h1, h2 (by omega), if_neg h]
theorem ddec_step {N n : Nat} {rest : List UInt8} (hn : 10 ≤ n) (h : Lib.decDigits N = dpre n ++ rest) : Lib.decDigits N = dpre (n / 10) ++ (UInt8.ofNat (48 + n / 10 % 10) :: rest) := by
  rw [h, show dpre n = Lib.decDigits (n / 10) by unfold dpre; rw [if_neg (by omega)], dec_pre (n / 10)]
  simp
theorem dec_len (n : Nat) : (Lib.decDigits n).length ≤ n + 1 := by
  induction n using Nat.strongRecOn with
  | ind n ih =>
    rw [dec_pre]
    unfold dpre
    by_cases h : n < 10
    · rw [if_pos h]; simp
    · rw [if_neg h]
      have := ih (n / 10) (by omega)
      simp
      omega
set_option maxHeartbeats 1000000 in
theorem decimal_any (N : Nat) (hN : N ≤ 1000000000) (w : World) :
    Calls Tryz.prog 27 #[.int .i64 N] w fun e w' => e = .returned (.string (bstr (Lib.decDigits N))) ∧ Below w.heap.size w w' := by
  have HD : Hid (Lib.decDigits N = dpre N ++ (UInt8.ofNat (48 + N % 10) :: [])) := Lib.hid (dec_pre N)
  obtain ⟨d, hd⟩ : ∃ d, d = N % 10 := ⟨_, rfl⟩
  obtain ⟨z, hz⟩ : ∃ z, z = 48 + d := ⟨_, rfl⟩
  rw [← hd, ← hz] at HD
  have e1 : (N : Int) % 10 = (d : Int) := by omega
  have e1' : Int.tmod (N : Int) 10 = (d : Int) := by rw [Int.tmod_eq_emod_of_nonneg (by omega)]; omega
  have e2 : (48 : Int) + (d : Int) = (z : Int) := by omega
  have hlt : z < 256 := by omega
  have hw1 : IntKind.u8.wrap (z : Int) = (z : Int) := by rw [IntKind.wrap_u8]; omega
  have v1 := conv_bytes (Bs.oneN w z hlt)
  have hb1 := below_alloc1 w (.cells #[.int .u8 (z : Int)] 5)
  have HB1 := Lib.hid hb1
  clear hb1 hd hz
  go_enter Tryz.func27, Tryz.ntmps27
  go_wp2_with fail
  go_loopw [0, 3] (fun nv sv wr => ∃ n : Nat, ∃ rest : List UInt8, n ≤ 1000000000 ∧ nv = .int .i64 n ∧ sv = .string (bstr rest) ∧ Hid (Lib.decDigits N = dpre n ++ rest) ∧ Hid (Below w.heap.size w wr)) (fun nv _ _ => (intOf nv).toNat)
  case atStart => exact ⟨N, [UInt8.ofNat z], hN, rfl, rfl, HD, HB1⟩
  case round =>
    obtain ⟨n, rest, hn, rfl, rfl, HR, HB⟩ := hrel
    by_cases h10 : n < 10
    · have t1 : decide ((10 : Int) ≤ (n : Int)) = false := decide_eq_false (by omega)
      have t2 : decide (10 ≤ n) = false := decide_eq_false (by omega)
      have HR2 : Hid (bstr rest = bstr (Lib.decDigits N)) := Lib.hid (by rw [HR.out]; unfold dpre; rw [if_pos h10]; rfl)
      go_wp2
      go_ret
      exact ⟨by rw [← HR2.out]; rfl, HB.out⟩
    · have t1 : decide ((10 : Int) ≤ (n : Int)) = true := decide_eq_true (by omega)
      have t2 : decide (10 ≤ n) = true := decide_eq_true (by omega)
      have HR2 := Lib.hid (ddec_step (by omega) HR.out)
      have hrl : 1 + rest.length ≤ 9223372036854775807 := by
        have h1 := congrArg List.length HR.out
        rw [List.length_append] at h1
        have h2 := dec_len N
        omega
      have hrl' : decide (9223372036854775807 < 1 + rest.length) = false := decide_eq_false (by omega)
      obtain ⟨q, hq⟩ : ∃ q, q = n / 10 := ⟨_, rfl⟩
      obtain ⟨d, hd⟩ : ∃ d, d = q % 10 := ⟨_, rfl⟩
      obtain ⟨z, hz⟩ : ∃ z, z = 48 + d := ⟨_, rfl⟩
      have f0 : (n : Int) / 10 = ((q : Nat) : Int) := by omega
      have f0' : Int.tdiv (n : Int) 10 = ((q : Nat) : Int) := by rw [Int.tdiv_eq_ediv_of_nonneg (by omega)]; omega
      have f1 : (q : Int) % 10 = (d : Int) := by omega
      have f1' : Int.tmod (q : Int) 10 = (d : Int) := by rw [Int.tmod_eq_emod_of_nonneg (by omega)]; omega
      have f2 : (48 : Int) + (d : Int) = (z : Int) := by omega
      have hlt2 : z < 256 := by omega
      have hw2 : IntKind.u8.wrap (z : Int) = (z : Int) := by rw [IntKind.wrap_u8]; omega
      have v2 := conv_bytes (Bs.oneN wr z hlt2)
      have HB2 : Hid (Below w.heap.size w (wr.alloc (.cells #[.int .u8 (z : Int)] 5))) := Lib.hid (HB.out.alloc HB.out.size _)
      have HJ := Lib.hid (bstr_join [UInt8.ofNat z] rest)
      rw [← hq, ← hd, ← hz] at HR2
      have HQ := Lib.hid hq
      clear hq hd hz v1 e1 e1' e2 hlt hw1
      go_wp2
      go_roundw
      case rel => exact ⟨q, UInt8.ofNat z :: rest, by have := HQ.out; omega, by go_num, by rw [HJ.out]; rfl, HR2, HB2⟩
      case measure => simp [intOf]; have := HQ.out; omega
/-- The package's variables that are read. -/
structure Cst (w : World) : Prop where
  ty : w.cell? ⟨0, 0, none⟩ = some (.iface 151 (.agg #[.pointer (some ⟨4, 55, none⟩)]))
  tab : Lib.TabIs Tryz.prog w "internal/strconv.uint64pow10" .u64 Lib.pow10Tab
theorem gPow_ : Tryz.prog.globalNamed "internal/strconv.uint64pow10" = some 1 := by kernel_rfl
theorem Cst.below {w w' : World} (h : Cst w) (hb : Below w.heap.size w w') : Cst w' := by
  refine ⟨cell_later hb h.ty, ?_⟩
  have h1 := h.tab
  unfold Lib.TabIs at h1 ⊢
  rw [var?_below hb gPow_ ?_]
  · exact h1
  · rcases Nat.lt_or_ge 1 w.heap.size with h2 | h2
    · exact h2
    · exfalso
      simp [World.var?, gPow_, Array.getElem?_eq_none h2] at h1
theorem itoa_any (k : Nat) (hk : k ≤ 1000000000) (w : World) (h : Cst w) :
    Calls Tryz.prog 64 #[.int .i64 k] w fun e w' => e = .returned (.string (bstr (Lib.decDigits k))) ∧ Below w.heap.size w w' := by
  refine (Tryz.strconv_Itoa k (by omega) (by omega) w h.tab).mono ?_
  rintro e w' ⟨rfl, q, os, rfl⟩
  rw [Lib.itoa_nonneg]
  exact ⟨rfl, Lib.below_grow _ _ (Nat.le_refl _) _ _⟩
def Sst.wd (er : Nat) : List UInt8 := if er = 11 then [115, 104, 111, 114, 116] else if er = 13 then [115, 117, 109] else [102, 111, 114, 109]
theorem wd_word {er : Nat} (h : er = 11 ∨ er = 13 ∨ er = 14) : Sst.word er = bstr (Sst.wd er) ∧ (Sst.wd er).length ≤ 5 := by
  rcases h with rfl | rfl | rfl <;> exact ⟨rfl, by decide⟩
theorem errno_any' (er : Nat) (h : er = 11 ∨ er = 13 ∨ er = 14) (w : World) :
    Calls Tryz.prog 26 #[.int .i64 er] w fun e w' => e = .returned (.string (bstr (Sst.wd er))) ∧ w = w' := by
  rw [← (wd_word h).1]
  exact errno_any er h w
/-- The words of what is wrong. -/
def Sst.said (k er : Nat) : List UInt8 := Sst.wd er ++ [32, 97, 116, 32] ++ Lib.decDigits k
theorem bstr_at : (⟨#[32, 97, 116, 32]⟩ : ByteArray) = bstr [32, 97, 116, 32] := rfl
set_option maxHeartbeats 1000000 in
theorem werr_any (g k er : Nat) (w : World) (h : Wr w g k er) (he : er = 11 ∨ er = 13 ∨ er = 14) (hk : k ≤ 1000000000) (hc : Cst w) :
    Calls Tryz.prog 25 #[.pointer (some ⟨g, 0, none⟩)] w fun e w' => e = .returned (.string (bstr (Sst.said k er))) ∧ Below w.heap.size w w' := by
  obtain ⟨c0, c1, _⟩ := cells2 h
  have p0 := BW.cell c0
  have p1 := BW.cell c1
  have HC : Hid (∀ W : BW w, Cst W.w) := Lib.hid fun W => hc.below W.b
  have HE := Lib.hid he
  have hwl := (wd_word he).2
  have hdl := dec_len k
  have hl1 : (Sst.wd er).length + 4 ≤ 9223372036854775807 := by omega
  have hl1' : decide (9223372036854775807 < (Sst.wd er).length + 4) = false := decide_eq_false (by omega)
  have hl2 : (Sst.wd er).length + 4 + (Lib.decDigits k).length ≤ 9223372036854775807 := by omega
  have hl2' : decide (9223372036854775807 < (Sst.wd er).length + 4 + (Lib.decDigits k).length) = false := decide_eq_false (by omega)
  have HS : Hid (Sst.said k er = Sst.wd er ++ [32, 97, 116, 32] ++ Lib.decDigits k) := Lib.hid rfl
  clear h he hc c0 c1
  go_enter Tryz.func25, Tryz.ntmps25
  go_wp2_with fail
  refine wp_region_class (w0 := w) (by kernel_rfl) (by kernel_rfl) (Below.refl _ _) ?_
  repeat (first | go_big_quiet_step (first | (go_at_call 26; exact calls_class_s (errno_any' er HE.out _)) | (go_at_call 64; exact calls_class (itoa_any k hk _ (HC.out _)))))
  refine wpQuiet_nil ?_
  intro w1 hb1; replace hb1 := BW.of hb1
  have HB1 := Lib.hid hb1
  clear hb1 p0 p1
  go_wp2
  go_ret
  exact ⟨by rw [HS.out]; rfl, HB1.out⟩
theorem wunw_any (g k er : Nat) (w : World) (h : Wr w g k er) :
    Calls Tryz.prog 132 #[.pointer (some ⟨g, 0, none⟩)] w fun e w' => e = .returned (.iface 51 (.int .i64 er)) ∧ w = w' := by
  obtain ⟨c0, c1, _⟩ := cells2 h
  clear h
  go_enter Tryz.func132, Tryz.ntmps132
  go_wp2
  go_ret
  exact ⟨rfl, rfl⟩
end Go.Proofs.YtjigfinpbdglnaaGreatDoor
