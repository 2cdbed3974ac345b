/- Add, Pow, Div, Log; the reference's. -/
import Derived.Test.YtppgbapfmijboaaGfA
namespace Go.Proofs.Ytppgbapfmijboaa
open Go.RowKit

theorem add_any (a b : UInt8) (w : World) :
    Calls Try.prog 49 #[.int .u8 (n8 a), .int .u8 (n8 b)] w fun e w' => e = .returned (.int .u8 (n8 (a ^^^ b))) ∧ w = w' := by
  go_enter Try.func49, Try.ntmps49
  go_wp2
  go_ret
  exact ⟨rfl, rfl⟩

theorem inverse_any (a : UInt8) (w : World) :
    Calls Try.prog 74 #[.int .u8 (n8 a)] w fun e w' => e = .returned (.int .u8 (n8 (Gf.inv a))) ∧ w = w' := by
  go_enter Try.func74, Try.ntmps74
  go_wp2
  go_loop [3, 4] (fun p i => ∃ k : Nat, k ≤ 254 ∧ i = .int .i64 k ∧ p = .int .u8 (n8 (Gf.pw a k))) (fun _ i => 254 - (intOf i).toNat)
  case atStart => exact ⟨0, by omega, rfl, rfl⟩
  case round =>
    obtain ⟨k, hk, rfl, rfl⟩ := hrel
    by_cases hlt : k < 254
    · have t0 : decide ((k : Int) < 254) = true := decide_eq_true (by omega)
      go_wp2_with (go_at_call 56; refine (refmul_any _ _ _).mono ?_; rintro e w' ⟨rfl, rfl⟩)
      go_round
      case rel => exact ⟨k + 1, by omega, by go_num, rfl⟩
      case measure => simp [intOf]; omega
    · have t0 : decide ((k : Int) < 254) = false := decide_eq_false (by omega)
      have hk2 : Hid (k = 254) := Lib.hid (by omega)
      clear hlt hk
      go_wp2
      go_ret
      exact ⟨by rw [hk2.out]; rfl, rfl⟩

/-- Which power, out of the exponent. -/
def expo (n : Int) : Nat := (n % 255).toNat
structure Gf.PowOf (a : UInt8) (n : Int) (p : UInt8) (e : Nat) : Prop where
  zero : a = 0 → (n = 0 → p = 1 ∧ e = 0) ∧ (n < 0 → p = 0 ∧ e = 1) ∧ (0 < n → p = 0 ∧ e = 0)
  some : a ≠ 0 → p = Gf.pw a (expo n) ∧ e = 0
def Gf.pow (a : UInt8) (n : Int) : UInt8 := if a = 0 then (if n = 0 then 1 else 0) else Gf.pw a (expo n)
def Gf.powE (a : UInt8) (n : Int) : Nat := if a = 0 ∧ n < 0 then 1 else 0

theorem tmod_lo {n : Int} (h : Int.tmod n 255 < 0) : Int.tmod n 255 + 255 = (expo n : Int) := by
  unfold expo; rw [Int.tmod_eq_emod] at *; split at h <;> split <;> simp_all <;> omega
theorem tmod_hi {n : Int} (h : ¬ Int.tmod n 255 < 0) : Int.tmod n 255 = (expo n : Int) := by
  unfold expo; rw [Int.tmod_eq_emod] at *; split at h <;> split <;> simp_all <;> omega
theorem expo_lt (n : Int) : expo n < 255 := by unfold expo; omega

set_option maxHeartbeats 400000 in
theorem pow_any (a : UInt8) (n : Int) (hn : -9223372036854775808 ≤ n ∧ n ≤ 9223372036854775807) (w : World) :
    Calls Try.prog 60 #[.int .u8 (n8 a), .int .i64 n] w fun e w' => e = .returned (.tuple #[.int .u8 (n8 (Gf.pow a n)), .int .i64 (Gf.powE a n)]) ∧ w = w' := by
  go_enter Try.func60, Try.ntmps60
  by_cases h0 : n = 0
  · subst h0
    have e1 : Gf.pow a 0 = 1 := by unfold Gf.pow; split <;> first | rfl | simp [expo, Gf.pw]
    have e2 : Gf.powE a 0 = 0 := by unfold Gf.powE; simp
    rw [e1, e2]
    go_wp2
    go_ret2
    exact ⟨rfl, rfl⟩
  have t0 : (n == 0) = false := by simpa using h0
  by_cases ha : a = 0
  · subst ha
    by_cases h1 : n < 0
    · have t1 : decide (n < 0) = true := decide_eq_true h1
      have e1 : Gf.pow 0 n = 0 := by unfold Gf.pow; simp [h0]
      have e2 : Gf.powE 0 n = 1 := by unfold Gf.powE; simp [h1]
      have t2 : ((0 : UInt8) == 0) = true := rfl
      rw [e1, e2]
      clear hn
      go_wp2
      go_ret2
      exact ⟨rfl, rfl⟩
    · have t1 : decide (n < 0) = false := decide_eq_false h1
      have e1 : Gf.pow 0 n = 0 := by unfold Gf.pow; simp [h0]
      have e2 : Gf.powE 0 n = 0 := by unfold Gf.powE; simp [h1]
      have t2 : ((0 : UInt8) == 0) = true := rfl
      rw [e1, e2]
      clear hn
      go_wp2
      go_ret2
      exact ⟨rfl, rfl⟩
  have t2 : (a == 0) = false := by simpa using ha
  have e1 : Gf.pow a n = Gf.pw a (expo n) := by unfold Gf.pow; simp [ha]
  have e2 : Gf.powE a n = 0 := by unfold Gf.powE; simp [ha]
  have hlo := tmod_lo (n := n)
  have hhi := tmod_hi (n := n)
  have hx := expo_lt n
  rw [e1, e2]
  generalize expo n = x at *
  go_wp2_with fail
  all_goals
    go_loop [6, 27] (fun p i => ∃ k : Nat, k ≤ x ∧ i = .int .i64 k ∧ p = .int .u8 (n8 (Gf.pw a k))) (fun _ i => x - (intOf i).toNat)
    case atStart => exact ⟨0, by omega, rfl, rfl⟩
    case round =>
      obtain ⟨k, hk, rfl, rfl⟩ := hrel
      by_cases hlt : k < x
      · go_wp2_with (go_at_call 61; refine (mul_any _ _ _).mono ?_; rintro e w' ⟨rfl, rfl⟩)
        go_round
        case rel => exact ⟨k + 1, by omega, by go_num, rfl⟩
        case measure => simp [intOf]; omega
      · obtain rfl : k = x := by omega
        go_wp2
        go_ret2
        exact ⟨rfl, rfl⟩
/-- Which power of 2, or the error. -/
def Gf.log (a : UInt8) : Nat := if a = 0 then 0 else Gf.lg a
def Gf.logE (a : UInt8) : Nat := if a = 0 then 1 else 0
def Gf.div (a b : UInt8) : UInt8 := if b = 0 then 0 else Gf.mul a (Gf.inv b)
def Gf.divE (b : UInt8) : Nat := if b = 0 then 1 else 0
theorem pow_inv {b : UInt8} (h : b ≠ 0) : Gf.pow b (-1) = Gf.inv b ∧ Gf.powE b (-1) = 0 := by
  unfold Gf.pow Gf.powE
  rw [if_neg h, if_neg (by simp [h])]
  exact ⟨rfl, rfl⟩
set_option maxHeartbeats 400000 in
theorem div_any (a b : UInt8) (w : World) :
    Calls Try.prog 48 #[.int .u8 (n8 a), .int .u8 (n8 b)] w fun e w' => e = .returned (.tuple #[.int .u8 (n8 (Gf.div a b)), .int .i64 (Gf.divE b)]) ∧ w = w' := by
  go_enter Try.func48, Try.ntmps48
  by_cases hb : b = 0
  · subst hb
    have t2 : ((0 : UInt8) == 0) = true := rfl
    have e1 : Gf.div a 0 = 0 := rfl
    have e2 : Gf.divE 0 = 1 := rfl
    rw [e1, e2]
    go_wp2
    go_ret2
    exact ⟨rfl, rfl⟩
  have t2 : (b == 0) = false := by simpa using hb
  have e1 : Gf.div a b = Gf.mul a (Gf.inv b) := by unfold Gf.div; rw [if_neg hb]
  have e2 : Gf.divE b = 0 := by unfold Gf.divE; rw [if_neg hb]
  obtain ⟨p1, p2⟩ := pow_inv hb
  rw [e1, e2]
  go_wp2_with (first | (go_at_call 60; refine (pow_any _ (-1) (by omega) _).mono ?_; rintro e w' ⟨rfl, rfl⟩; rw [p1, p2]) | (go_at_call 61; refine (mul_any _ _ _).mono ?_; rintro e w' ⟨rfl, rfl⟩))
  go_ret2
  exact ⟨rfl, rfl⟩
end Go.Proofs.Ytppgbapfmijboaa
