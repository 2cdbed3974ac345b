/- Sorted tables: the reference's small functions. -/
import Derived.Test.YtjigfinpbdglnaaGreatDoorZSoP
import Derived.Test.YtjigfinpbdglnaaGreatDoorZScH
set_option linter.unusedVariables false
set_option linter.unusedSimpArgs false
set_option maxRecDepth 100000
set_option linter.unusedVariables false
set_option linter.unusedSimpArgs false
namespace Go.Proofs.YtjigfinpbdglnaaGreatDoor
open Go.RowKit

def Sst.r8 (v : Nat) : Int := if 1099511627776 < v then -1 else (v : Int)
set_option maxHeartbeats 1000000 in
theorem read8_any (a : Option Addr) (n c : Nat) (l : List UInt8) (w : World) (h : Bs w a n c l) (hn : 8 ≤ n) :
    Calls Tryz.prog 52 #[.slice a n c] w fun e w' => e = .returned (.int .i64 (Sst.r8 (Sst.num (l.take 8)))) ∧ w = w' := by
  have HN := Lib.hid h.1
  have HL := Lib.hid h
  have hlt : (l.take 8).length = 8 := by rw [List.length_take, h.1]; omega
  have HT := Lib.hid hlt
  have hle := h.le.1
  clear h hlt
  go_enter Tryz.func52, Tryz.ntmps52
  go_wp2_with fail
  go_loop [3, 4] (fun vv iv => ∃ k : Nat, k ≤ 8 ∧ iv = .int .i64 ((k : Int) - 1) ∧ vv = .int .u64 (Sst.num ((l.take 8).drop k) : Nat)) (fun _ iv => (intOf iv + 1).toNat)
  case atStart => exact ⟨8, Nat.le_refl _, rfl, by rw [List.drop_of_length_le (by rw [HT.out]; exact Nat.le_refl _)]; rfl⟩
  case round =>
    obtain ⟨k, hk, rfl, rfl⟩ := hrel
    have hnl := num_lt ((l.take 8).drop k)
    rw [List.length_drop, HT.out] at hnl
    by_cases h0 : k = 0
    · subst h0
      have t1 : decide ((0 : Int) ≤ ((0 : Nat) : Int) - 1) = false := decide_eq_false (by omega)
      generalize hv : Sst.num ((l.take 8).drop 0) = v at *
      have HV : Hid (Sst.num (l.take 8) = v) := Lib.hid hv
      clear hv
      by_cases hb : 1099511627776 < v
      · have t2 : decide ((1099511627776 : Int) < (v : Int)) = true := decide_eq_true (by omega)
        have t3 : decide (1099511627776 < v) = true := decide_eq_true hb
        have HR : Hid (Sst.r8 v = -1) := Lib.hid (by unfold Sst.r8; rw [if_pos hb])
        clear hb hnl
        go_wp2
        go_ret
        exact ⟨by rw [HV.out, HR.out]; rfl, rfl⟩
      · have t2 : decide ((1099511627776 : Int) < (v : Int)) = false := decide_eq_false (by omega)
        have t3 : decide (1099511627776 < v) = false := decide_eq_false hb
        have HR : Hid (Sst.r8 v = v) := Lib.hid (by unfold Sst.r8; rw [if_neg hb])
        have ew : IntKind.i64.wrap (v : Int) = (v : Int) := by rw [IntKind.wrap_i64]; omega
        clear hb hnl
        go_wp2
        go_ret
        exact ⟨by rw [HV.out, HR.out]; rfl, rfl⟩
    · obtain ⟨i, rfl⟩ : ∃ i, k = i + 1 := ⟨k - 1, by omega⟩
      obtain ⟨b, off, rfl, hb⟩ := HL.out.2.2.2.byte (i := i) (by rw [HN.out]; omega)
      have HD : Hid (Sst.num ((l.take 8).drop i) = (nth l i).toNat + 256 * Sst.num ((l.take 8).drop (i + 1))) := Lib.hid (by
        rw [nth_eq l (by rw [HN.out]; omega), List.drop_eq_getElem_cons (by rw [HT.out]; omega), Sst.num, List.getElem_take])
      have hpw : 256 ^ (8 - (i + 1)) ≤ 256 ^ 7 := Nat.pow_le_pow_right (by decide) (by omega)
      have hby := (nth l i).toNat_lt
      have hin : i < n := by omega
      generalize Sst.num ((l.take 8).drop (i + 1)) = v at *
      have hvb : v < 72057594037927936 := by omega
      generalize nth l i = x at *
      clear hnl hpw h0
      have t1 : decide ((0 : Int) ≤ ((i + 1 : Nat) : Int) - 1) = true := decide_eq_true (by omega)
      go_wp2
      refine ⟨⟨i, by omega, rfl, by rw [or8_64 hvb, HD.out]⟩, ?_⟩
      simp [intOf] <;> omega
theorem same_any (a a' : Option Addr) (n c n' c' : Nat) (l l' : List UInt8) (w : World) (h : Bs w a n c l) (h' : Bs w a' n' c' l') :
    Calls Tryz.prog 55 #[.slice a n c, .slice a' n' c'] w fun e w' => e = .returned (.bool (decide (l = l'))) ∧ w = w' := by
  have v1 := conv_bytes h
  have v2 := conv_bytes h'
  have he : ((bstr l).toList == (bstr l').toList) = decide (l = l') := by
    rw [bstr_toList, bstr_toList]
    by_cases e : l = l'
    · subst e; simp
    · rw [decide_eq_false e, beq_eq_false_iff_ne]; exact e
  clear h h'
  go_enter Tryz.func55, Tryz.ntmps55
  go_wp2
  go_ret
  exact ⟨by rw [← he]; rfl, rfl⟩
end Go.Proofs.YtjigfinpbdglnaaGreatDoor
