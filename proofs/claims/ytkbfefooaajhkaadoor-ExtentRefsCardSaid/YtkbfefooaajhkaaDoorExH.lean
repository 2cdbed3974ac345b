/- strconv.FormatUint by sixteen, strings.Repeat of noughts. -/
import Derived.Test.YtkbfefooaajhkaaDoorXdE
set_option maxRecDepth 100000
set_option linter.unusedVariables false
set_option linter.unusedSimpArgs false
namespace Go.Proofs.YtkbfefooaajhkaaDoor
open Go.RowKit

/-- The one cell of the table that is read. -/
def Laid (w : World) : Prop := w.cell? ⟨3, 15, none⟩ = some (.int .u8 4)
theorem Laid.below {w w' : World} (h : Laid w) (hb : Below w.heap.size w w') : Laid w' := cell_later hb h
theorem tz64_16 (w : World) (h : Laid w) : Calls Tryd.prog 83 #[.int .u64 16] w fun e w' => e = .returned (.int .i64 4) ∧ w = w' := by
  unfold Laid at h
  have e1 : bits .and .u64 16 (IntKind.u64.wrap (-16)) = 16 := by decide +kernel
  have e2 : IntKind.u64.wrap (16 * 285870213051353865) = 4573923408821661840 := by decide +kernel
  go_enter Tryd.func83, Tryd.ntmps83
  go_wp2
  go_ret
  exact ⟨rfl, rfl⟩
theorem tz_16 (w : World) (h : Laid w) : Calls Tryd.prog 79 #[.int .u64 16] w fun e w' => e = .returned (.int .i64 4) ∧ w = w' := by
  go_enter Tryd.func79, Tryd.ntmps79
  go_wp2_with (go_at_call 83; refine (tz64_16 w h).mono ?_; rintro e w' ⟨rfl, rfl⟩)
  go_ret
  exact ⟨rfl, rfl⟩
theorem pow2_16 (w : World) : Calls Tryd.prog 78 #[.int .i64 16] w fun e w' => e = .returned (.bool true) ∧ w = w' := by
  have e1 : bits .and .i64 16 15 = 0 := by decide +kernel
  go_enter Tryd.func78, Tryd.ntmps78
  go_wp2
  go_ret
  exact ⟨rfl, rfl⟩
theorem mul_1 (k : Nat) (hk : k ≤ 16) (w : World) : Calls Tryd.prog 59 #[.int .u64 1, .int .u64 k] w fun e w' => e = .returned (.tuple #[.int .u64 0, .int .u64 k]) ∧ w = w' := by
  have e1 : bits .and .u64 1 4294967295 = 1 := by decide +kernel
  have e2 : bits .and .u64 (k : Int) 4294967295 = (k : Int) := by
    have h := u64_and_nat k 4294967295 (by omega) (by decide)
    rw [show ((4294967295 : Nat) : Int) = 4294967295 from rfl] at h
    rw [h]
    congr 1
    rw [show (4294967295 : Nat) = 2 ^ 32 - 1 from rfl, Nat.and_two_pow_sub_one_eq_mod]
    omega
  have e3 : (k : Int) / 4294967296 = 0 := by omega
  have e4 : bits .and .u64 0 4294967295 = 0 := by decide +kernel
  have e5 : IntKind.u64.wrap (k : Int) = (k : Int) := by rw [IntKind.wrap_u64]; omega
  clear hk
  go_enter Tryd.func59, Tryd.ntmps59
  go_wp2
  go_ret2
  exact ⟨rfl, rfl⟩
theorem zeros_lit : (⟨#[48, 48, 48, 48, 48, 48, 48, 48, 48, 48, 48, 48, 48, 48, 48, 48, 48, 48, 48, 48, 48, 48, 48, 48, 48, 48, 48, 48, 48, 48, 48, 48, 48, 48, 48, 48, 48, 48, 48, 48, 48, 48, 48, 48, 48, 48, 48, 48, 48, 48, 48, 48, 48, 48, 48, 48, 48, 48, 48, 48, 48, 48, 48, 48]⟩ : ByteArray) = bstr (List.replicate 64 48) := by decide +kernel
theorem zcut (N k : Nat) (hk : k ≤ N) : (bstr (List.replicate N 48)).extract 0 k = bstr (List.replicate k 48) := by
  apply ByteArray.ext
  simp [bstr, ByteArray.data_extract, Nat.min_eq_left hk]
theorem zeros_cut (k : Nat) (hk : k ≤ 64) : (⟨#[48, 48, 48, 48, 48, 48, 48, 48, 48, 48, 48, 48, 48, 48, 48, 48, 48, 48, 48, 48, 48, 48, 48, 48, 48, 48, 48, 48, 48, 48, 48, 48, 48, 48, 48, 48, 48, 48, 48, 48, 48, 48, 48, 48, 48, 48, 48, 48, 48, 48, 48, 48, 48, 48, 48, 48, 48, 48, 48, 48, 48, 48, 48, 48]⟩ : ByteArray).extract 0 k = bstr (List.replicate k 48) := by
  rw [zeros_lit]
  exact zcut 64 k hk
theorem hasp_0 (s : ByteArray) (b : Bool) (w : World) (h1 : ((s.extract 0 1).toList == [48]) = b) (h2 : decide (1 ≤ s.size) = true) (h3 : s.size ≤ 1000) : Calls Tryd.prog 60 #[.string s, .string ⟨#[48]⟩] w fun e w' => e = .returned (.bool b) ∧ w = w' := by
  have h4 := of_decide_eq_true h2
  go_enter Tryd.func60, Tryd.ntmps60
  go_wp2
  go_ret
  exact ⟨rfl, rfl⟩
set_option maxHeartbeats 1000000 in
theorem repeat_any (k : Nat) (hk : k ≤ 16) (w : World) : Calls Tryd.prog 54 #[.string ⟨#[48]⟩, .int .i64 k] w fun e w' => e = .returned (.string (bstr (List.replicate k 48))) ∧ w = w' := by
  by_cases h0 : k = 0
  · subst h0
    go_enter Tryd.func54, Tryd.ntmps54
    go_wp2
    go_ret
    exact ⟨rfl, rfl⟩
  by_cases h1 : k = 1
  · subst h1
    go_enter Tryd.func54, Tryd.ntmps54
    go_wp2
    go_ret
    exact ⟨rfl, rfl⟩
  have HM := Lib.hid (mul_1 k hk w)
  have t0 : ((k : Int) == 0) = false := by simp; omega
  have t1 : ((k : Int) == 1) = false := by simp; omega
  have t2 : decide ((9223372036854775807 : Int) < (k : Int)) = false := decide_eq_false (by omega)
  have e5 : IntKind.u64.wrap (k : Int) = (k : Int) := by rw [IntKind.wrap_u64]; omega
  have e6 : IntKind.i64.wrap (k : Int) = (k : Int) := by rw [IntKind.wrap_i64]; omega
  have t3 : decide ((k : Int) ≤ 64) = true := decide_eq_true (by omega)
  have t5 : decide ((k : Int) ≤ 128) = true := decide_eq_true (by omega)
  have t4 : decide ((k : Int) < 0) = false := decide_eq_false (by omega)
  clear h0 h1
  go_enter Tryd.func54, Tryd.ntmps54
  go_wp2_with fail
  refine HM.out.mono ?_
  rintro e w' ⟨rfl, rfl⟩
  have HZ := Lib.hid (zeros_cut k (by omega))
  go_wp2_with fail
  refine (hasp_0 _ false w (by decide +kernel) (by decide +kernel) (by decide +kernel)).mono ?_
  rintro e w' ⟨rfl, rfl⟩
  go_wp2_with fail
  refine (hasp_0 _ false w (by decide +kernel) (by decide +kernel) (by decide +kernel)).mono ?_
  rintro e w' ⟨rfl, rfl⟩
  go_wp2_with fail
  refine (hasp_0 _ true w (by decide +kernel) (by decide +kernel) (by decide +kernel)).mono ?_
  rintro e w' ⟨rfl, rfl⟩
  go_wp2
  go_ret
  exact ⟨by rw [← HZ.out]; rfl, rfl⟩
end Go.Proofs.YtkbfefooaajhkaaDoor
