/- Add, Pow, Div, Log; the reference's. -/
import Derived.Test.YtkecjgdmjhljnaaGfA
namespace Go.Proofs.Ytkecjgdmjhljnaa
open Go.RowKit

theorem add_any (a b : UInt8) (w : World) :
    Calls Try.prog 18 #[.int .u8 (n8 a), .int .u8 (n8 b)] w fun e w' => e = .returned (.int .u8 (n8 (a ^^^ b))) ∧ w = w' := by
  go_enter Try.func18, Try.ntmps18
  go_wp2
  go_ret
  exact ⟨rfl, rfl⟩

theorem inverse_any (a : UInt8) (w : World) :
    Calls Try.prog 38 #[.int .u8 (n8 a)] w fun e w' => e = .returned (.int .u8 (n8 (Gf.inv a))) ∧ w = w' := by
  go_enter Try.func38, Try.ntmps38
  go_wp2
  go_loop [3, 4] (fun p i => ∃ k : Nat, k ≤ 254 ∧ i = .int .i64 k ∧ p = .int .u8 (n8 (Gf.pw a k))) (fun _ i => 254 - (intOf i).toNat)
  case atStart => exact ⟨0, by omega, rfl, rfl⟩
  case round =>
    obtain ⟨k, hk, rfl, rfl⟩ := hrel
    by_cases hlt : k < 254
    · have t0 : decide ((k : Int) < 254) = true := decide_eq_true (by omega)
      go_wp2_with (go_at_call 20; refine (refmul_any _ _ _).mono ?_; rintro e w' ⟨rfl, rfl⟩)
      go_round
      case rel => exact ⟨k + 1, by omega, by go_num, rfl⟩
      case measure => simp [intOf]; omega
    · have t0 : decide ((k : Int) < 254) = false := decide_eq_false (by omega)
      have hk2 : Hid (k = 254) := Lib.hid (by omega)
      clear hlt hk
      go_wp2
      go_ret
      exact ⟨by rw [hk2.out]; rfl, rfl⟩

/-- Which power, out of the exponent. -/
def expo (n : Int) : Nat := (n % 255).toNat
structure Gf.PowOf (a : UInt8) (n : Int) (p : UInt8) (e : Nat) : Prop where
  zero : a = 0 → (n = 0 → p = 1 ∧ e = 0) ∧ (n < 0 → p = 0 ∧ e = 1) ∧ (0 < n → p = 0 ∧ e = 0)
  some : a ≠ 0 → p = Gf.pw a (expo n) ∧ e = 0
def Gf.pow (a : UInt8) (n : Int) : UInt8 := if a = 0 then (if n = 0 then 1 else 0) else Gf.pw a (expo n)
def Gf.powE (a : UInt8) (n : Int) : Nat := if a = 0 ∧ n < 0 then 1 else 0

theorem tmod_lo {n : Int} (h : Int.tmod n 255 < 0) : Int.tmod n 255 + 255 = (expo n : Int) := by
  unfold expo; rw [Int.tmod_eq_emod] at *; split at h <;> split <;> simp_all <;> omega
theorem tmod_hi {n : Int} (h : ¬ Int.tmod n 255 < 0) : Int.tmod n 255 = (expo n : Int) := by
  unfold expo; rw [Int.tmod_eq_emod] at *; split at h <;> split <;> simp_all <;> omega
theorem expo_lt (n : Int) : expo n < 255 := by unfold expo; omega

set_option maxHeartbeats 400000 in
theorem pow_any (a : UInt8) (n : Int) (hn : -9223372036854775808 ≤ n ∧ n ≤ 9223372036854775807) (w : World) :
    Calls Try.prog 14 #[.int .u8 (n8 a), .int .i64 n] w fun e w' => e = .returned (.tuple #[.int .u8 (n8 (Gf.pow a n)), .int .i64 (Gf.powE a n)]) ∧ w = w' := by
  go_enter Try.func14, Try.ntmps14
  by_cases h0 : n = 0
  · subst h0
    have e1 : Gf.pow a 0 = 1 := by unfold Gf.pow; split <;> first | rfl | simp [expo, Gf.pw]
    have e2 : Gf.powE a 0 = 0 := by unfold Gf.powE; simp
    rw [e1, e2]
    go_wp2
    go_ret2
    exact ⟨rfl, rfl⟩
  have t0 : (n == 0) = false := by simpa using h0
  by_cases ha : a = 0
  · subst ha
    by_cases h1 : n < 0
    · have t1 : decide (n < 0) = true := decide_eq_true h1
      have e1 : Gf.pow 0 n = 0 := by unfold Gf.pow; simp [h0]
      have e2 : Gf.powE 0 n = 1 := by unfold Gf.powE; simp [h1]
      have t2 : ((0 : UInt8) == 0) = true := rfl
      rw [e1, e2]
      clear hn
      go_wp2
      go_ret2
      exact ⟨rfl, rfl⟩
    · have t1 : decide (n < 0) = false := decide_eq_false h1
      have e1 : Gf.pow 0 n = 0 := by unfold Gf.pow; simp [h0]
      have e2 : Gf.powE 0 n = 0 := by unfold Gf.powE; simp [h1]
      have t2 : ((0 : UInt8) == 0) = true := rfl
      rw [e1, e2]
      clear hn
      go_wp2
      go_ret2
      exact ⟨rfl, rfl⟩
  have t2 : (a == 0) = false := by simpa using ha
  have e1 : Gf.pow a n = Gf.pw a (expo n) := by unfold Gf.pow; simp [ha]
  have e2 : Gf.powE a n = 0 := by unfold Gf.powE; simp [ha]
  have hlo := tmod_lo (n := n)
  have hhi := tmod_hi (n := n)
  have hx := expo_lt n
  rw [e1, e2]
  generalize expo n = x at *
  go_wp2_with fail
  all_goals
    go_loop [6, 27] (fun p i => ∃ k : Nat, k ≤ x ∧ i = .int .i64 k ∧ p = .int .u8 (n8 (Gf.pw a k))) (fun _ i => x - (intOf i).toNat)
    case atStart => exact ⟨0, by omega, rfl, rfl⟩
    case round =>
      obtain ⟨k, hk, rfl, rfl⟩ := hrel
      by_cases hlt : k < x
      · go_wp2_with (go_at_call 19; refine (mul_any _ _ _).mono ?_; rintro e w' ⟨rfl, rfl⟩)
        go_round
        case rel => exact ⟨k + 1, by omega, by go_num, rfl⟩
        case measure => simp [intOf]; omega
      · obtain rfl : k = x := by omega
        go_wp2
        go_ret2
        exact ⟨rfl, rfl⟩
set_option maxHeartbeats 400000 in
theorem refpow_any (a : UInt8) (n : Int) (hn : -9223372036854775808 ≤ n ∧ n ≤ 9223372036854775807) (w : World) :
    Calls Try.prog 15 #[.int .u8 (n8 a), .int .i64 n] w fun e w' => e = .returned (.tuple #[.int .u8 (n8 (Gf.pow a n)), .int .i64 (Gf.powE a n)]) ∧ w = w' := by
  go_enter Try.func15, Try.ntmps15
  by_cases ha : a = 0
  · subst ha
    have t2 : ((0 : UInt8) == 0) = true := rfl
    by_cases h0 : n = 0
    · subst h0
      have e1 : Gf.pow 0 0 = 1 := rfl
      have e2 : Gf.powE 0 0 = 0 := rfl
      rw [e1, e2]
      clear hn
      go_wp2
      go_ret2
      exact ⟨rfl, rfl⟩
    have t0 : (n == 0) = false := by simpa using h0
    by_cases h1 : n < 0
    · have t1 : decide (n < 0) = true := decide_eq_true h1
      have e1 : Gf.pow 0 n = 0 := by unfold Gf.pow; simp [h0]
      have e2 : Gf.powE 0 n = 1 := by unfold Gf.powE; simp [h1]
      rw [e1, e2]
      clear hn
      go_wp2
      go_ret2
      exact ⟨rfl, rfl⟩
    · have t1 : decide (n < 0) = false := decide_eq_false h1
      have e1 : Gf.pow 0 n = 0 := by unfold Gf.pow; simp [h0]
      have e2 : Gf.powE 0 n = 0 := by unfold Gf.powE; simp [h1]
      rw [e1, e2]
      clear hn
      go_wp2
      go_ret2
      exact ⟨rfl, rfl⟩
  have t2 : (a == 0) = false := by simpa using ha
  have e1 : Gf.pow a n = Gf.pw a (expo n) := by unfold Gf.pow; simp [ha]
  have e2 : Gf.powE a n = 0 := by unfold Gf.powE; simp [ha]
  have hlo := tmod_lo (n := n)
  have hhi := tmod_hi (n := n)
  have hx := expo_lt n
  rw [e1, e2]
  generalize expo n = x at *
  go_wp2_with fail
  all_goals
    go_loop [7, 8] (fun p i => ∃ k : Nat, k ≤ x ∧ i = .int .i64 k ∧ p = .int .u8 (n8 (Gf.pw a k))) (fun _ i => x - (intOf i).toNat)
    case atStart => exact ⟨0, by omega, rfl, rfl⟩
    case round =>
      obtain ⟨k, hk, rfl, rfl⟩ := hrel
      by_cases hlt : k < x
      · go_wp2_with (go_at_call 20; refine (refmul_any _ _ _).mono ?_; rintro e w' ⟨rfl, rfl⟩)
        go_round
        case rel => exact ⟨k + 1, by omega, by go_num, rfl⟩
        case measure => simp [intOf]; omega
      · obtain rfl : k = x := by omega
        go_wp2
        go_ret2
        exact ⟨rfl, rfl⟩

/-- Which power of 2, or the error. -/
def Gf.log (a : UInt8) : Nat := if a = 0 then 0 else Gf.lg a
def Gf.logE (a : UInt8) : Nat := if a = 0 then 1 else 0
set_option maxHeartbeats 400000 in
theorem log_any (a : UInt8) (w : World) :
    Calls Try.prog 16 #[.int .u8 (n8 a)] w fun e w' => e = .returned (.tuple #[.int .i64 (Gf.log a : Nat), .int .i64 (Gf.logE a)]) ∧ w = w' := by
  go_enter Try.func16, Try.ntmps16
  by_cases ha : a = 0
  · subst ha
    have t2 : ((0 : UInt8) == 0) = true := rfl
    have e1 : Gf.log 0 = 0 := rfl
    have e2 : Gf.logE 0 = 1 := rfl
    rw [e1, e2]
    go_wp2
    go_ret2
    exact ⟨rfl, rfl⟩
  have t2 : (a == 0) = false := by simpa using ha
  have e1 : Gf.log a = Gf.lg a := by unfold Gf.log; rw [if_neg ha]
  have e2 : Gf.logE a = 0 := by unfold Gf.logE; rw [if_neg ha]
  rw [e1, e2]
  have hx := Gf.lg_lt ha
  have hp := Gf.pw_lg ha
  have hne : ∀ k, k < Gf.lg a → (Gf.pw 2 k == a) = false := fun k hk => by simpa using Gf.pw_ne ha hk
  generalize Gf.lg a = x at *
  have HX : Hid (x < 255) := Lib.hid hx
  clear hx
  go_wp2_with fail
  go_loop [4, 5] (fun n p => ∃ k : Nat, k ≤ x ∧ n = .int .i64 k ∧ p = .int .u8 (n8 (Gf.pw 2 k))) (fun n _ => x - (intOf n).toNat)
  case atStart => exact ⟨0, by omega, rfl, rfl⟩
  case round =>
    obtain ⟨k, hk, rfl, rfl⟩ := hrel
    by_cases hlt : k < x
    · have t3 := hne k hlt
      have hb : k ≤ 1000 := by have := HX.out; omega
      go_wp2_with (go_at_call 19; refine (mul_any _ 2 _).mono ?_; rintro e w' ⟨rfl, rfl⟩)
      go_round
      case rel => exact ⟨k + 1, by omega, by go_num, rfl⟩
      case measure => simp [intOf]; omega
    · obtain rfl : k = x := by omega
      have t3 : (Gf.pw 2 k == a) = true := by simpa using hp
      go_wp2
      go_ret2
      exact ⟨rfl, rfl⟩

set_option maxHeartbeats 400000 in
theorem reflog_any (a : UInt8) (w : World) :
    Calls Try.prog 17 #[.int .u8 (n8 a)] w fun e w' => e = .returned (.tuple #[.int .i64 (Gf.log a : Nat), .int .i64 (Gf.logE a)]) ∧ w = w' := by
  go_enter Try.func17, Try.ntmps17
  by_cases ha : a = 0
  · subst ha
    have t2 : ((0 : UInt8) == 0) = true := rfl
    have e1 : Gf.log 0 = 0 := rfl
    have e2 : Gf.logE 0 = 1 := rfl
    rw [e1, e2]
    go_wp2
    go_ret2
    exact ⟨rfl, rfl⟩
  have t2 : (a == 0) = false := by simpa using ha
  have e1 : Gf.log a = Gf.lg a := by unfold Gf.log; rw [if_neg ha]
  have e2 : Gf.logE a = 0 := by unfold Gf.logE; rw [if_neg ha]
  rw [e1, e2]
  have hx := Gf.lg_lt ha
  have hp := Gf.pw_lg ha
  have hne : ∀ k, k < Gf.lg a → (Gf.pw 2 k == a) = false := fun k hk => by simpa using Gf.pw_ne ha hk
  generalize Gf.lg a = x at *
  have HX : Hid (x < 255) := Lib.hid hx
  clear hx
  go_wp2_with fail
  go_loop [5, 4] (fun n p => ∃ k : Nat, k ≤ x ∧ n = .int .i64 k ∧ p = .int .u8 (n8 (Gf.pw 2 k))) (fun n _ => x - (intOf n).toNat)
  case atStart => exact ⟨0, by omega, rfl, rfl⟩
  case round =>
    obtain ⟨k, hk, rfl, rfl⟩ := hrel
    by_cases hlt : k < x
    · have t3 := hne k hlt
      have hb : k ≤ 1000 := by have := HX.out; omega
      go_wp2_with (go_at_call 20; refine (refmul_any _ 2 _).mono ?_; rintro e w' ⟨rfl, rfl⟩)
      go_round
      case rel => exact ⟨k + 1, by omega, by go_num, rfl⟩
      case measure => simp [intOf]; omega
    · obtain rfl : k = x := by omega
      have t3 : (Gf.pw 2 k == a) = true := by simpa using hp
      go_wp2
      go_ret2
      exact ⟨rfl, rfl⟩

def Gf.div (a b : UInt8) : UInt8 := if b = 0 then 0 else Gf.mul a (Gf.inv b)
def Gf.divE (b : UInt8) : Nat := if b = 0 then 1 else 0
theorem pow_inv {b : UInt8} (h : b ≠ 0) : Gf.pow b (-1) = Gf.inv b ∧ Gf.powE b (-1) = 0 := by
  unfold Gf.pow Gf.powE
  rw [if_neg h, if_neg (by simp [h])]
  exact ⟨rfl, rfl⟩
set_option maxHeartbeats 400000 in
theorem div_any (a b : UInt8) (w : World) :
    Calls Try.prog 12 #[.int .u8 (n8 a), .int .u8 (n8 b)] w fun e w' => e = .returned (.tuple #[.int .u8 (n8 (Gf.div a b)), .int .i64 (Gf.divE b)]) ∧ w = w' := by
  go_enter Try.func12, Try.ntmps12
  by_cases hb : b = 0
  · subst hb
    have t2 : ((0 : UInt8) == 0) = true := rfl
    have e1 : Gf.div a 0 = 0 := rfl
    have e2 : Gf.divE 0 = 1 := rfl
    rw [e1, e2]
    go_wp2
    go_ret2
    exact ⟨rfl, rfl⟩
  have t2 : (b == 0) = false := by simpa using hb
  have e1 : Gf.div a b = Gf.mul a (Gf.inv b) := by unfold Gf.div; rw [if_neg hb]
  have e2 : Gf.divE b = 0 := by unfold Gf.divE; rw [if_neg hb]
  obtain ⟨p1, p2⟩ := pow_inv hb
  rw [e1, e2]
  go_wp2_with (first | (go_at_call 14; refine (pow_any _ (-1) (by omega) _).mono ?_; rintro e w' ⟨rfl, rfl⟩; rw [p1, p2]) | (go_at_call 19; refine (mul_any _ _ _).mono ?_; rintro e w' ⟨rfl, rfl⟩))
  go_ret2
  exact ⟨rfl, rfl⟩
set_option maxHeartbeats 400000 in
theorem refdiv_any (a b : UInt8) (w : World) :
    Calls Try.prog 13 #[.int .u8 (n8 a), .int .u8 (n8 b)] w fun e w' => e = .returned (.tuple #[.int .u8 (n8 (Gf.div a b)), .int .i64 (Gf.divE b)]) ∧ w = w' := by
  go_enter Try.func13, Try.ntmps13
  by_cases hb : b = 0
  · subst hb
    have t2 : ((0 : UInt8) == 0) = true := rfl
    have e1 : Gf.div a 0 = 0 := rfl
    have e2 : Gf.divE 0 = 1 := rfl
    rw [e1, e2]
    go_wp2
    go_ret2
    exact ⟨rfl, rfl⟩
  have t2 : (b == 0) = false := by simpa using hb
  have e1 : Gf.div a b = Gf.mul a (Gf.inv b) := by unfold Gf.div; rw [if_neg hb]
  have e2 : Gf.divE b = 0 := by unfold Gf.divE; rw [if_neg hb]
  rw [e1, e2]
  go_wp2_with (first | (go_at_call 38; refine (inverse_any _ _).mono ?_; rintro e w' ⟨rfl, rfl⟩) | (go_at_call 20; refine (refmul_any _ _ _).mono ?_; rintro e w' ⟨rfl, rfl⟩))
  go_ret2
  exact ⟨rfl, rfl⟩
end Go.Proofs.Ytkecjgdmjhljnaa
