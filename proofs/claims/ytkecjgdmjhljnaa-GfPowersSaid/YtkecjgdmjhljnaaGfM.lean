/- The walk of GfPowers. -/
import Derived.Test.YtkecjgdmjhljnaaGfL
namespace Go.Proofs.Ytkecjgdmjhljnaa
open Go.RowKit Go.Deep

theorem Gf.pw_mod {a : UInt8} (ha : a ≠ 0) (k : Nat) : Gf.pw a k = Gf.pw a (k % 255) := by
  have h1 : Gf.pw a 255 = 1 := by rw [← Gf.pw_lg ha, Gf.pw_pw, Nat.mul_comm, ← Gf.pw_pw, Gf.pw2_255, Gf.pw_one]
  have e := Nat.div_add_mod k 255
  have : Gf.pw a (255 * (k / 255) + k % 255) = Gf.pw a (k % 255) := by rw [Gf.pw_add, ← Gf.pw_pw, h1, Gf.pw_one, Gf.one_mul]
  rwa [e] at this
theorem Gf.pow_add {a : UInt8} (ha : a ≠ 0) (m n : Int) : Gf.mul (Gf.pow a m) (Gf.pow a n) = Gf.pow a (m + n) := by
  unfold Gf.pow
  rw [if_neg ha, if_neg ha, if_neg ha, ← Gf.pw_add, Gf.pw_mod ha]
  congr 1
  unfold expo
  omega
theorem Gf.pow_neg {a : UInt8} (ha : a ≠ 0) (n : Int) : Gf.mul (Gf.pow a n) (Gf.pow a (-n)) = 1 := by
  rw [Gf.pow_add ha, show n + -n = 0 by omega]
  unfold Gf.pow
  rw [if_neg ha]
  rfl
theorem Gf.pow_ne0 {a : UInt8} (ha : a ≠ 0) (n : Int) : Gf.pow a n ≠ 0 := by
  intro h
  have := Gf.pow_neg ha n
  rw [h, Gf.zero_mul] at this
  exact absurd this (by decide)
theorem Gf.lg_mul {x y : UInt8} (hx : x ≠ 0) (hy : y ≠ 0) : Gf.lg (Gf.mul x y) = (Gf.lg x + Gf.lg y) % 255 := by
  have : Gf.mul x y = Gf.pw 2 (Gf.lg x + Gf.lg y) := by rw [Gf.pw_add, Gf.pw_lg hx, Gf.pw_lg hy]
  rw [this, Gf.lg_pw]

theorem powG {a : UInt8} (ha : a ≠ 0) (n : Int) (hn : -9223372036854775808 ≤ n ∧ n ≤ 9223372036854775807) : Gives 14 #[.int .u8 (n8 a), .int .i64 n] (.tuple #[.int .u8 (n8 (Gf.pow a n)), .int .i64 0]) := by
  have h := pow_any a n hn
  have e2 : Gf.powE a n = 0 := by unfold Gf.powE; rw [if_neg (by simp [ha])]
  rwa [e2] at h
theorem logG {a : UInt8} (ha : a ≠ 0) : Gives 16 #[.int .u8 (n8 a)] (.tuple #[.int .i64 (Gf.lg a : Nat), .int .i64 0]) := by
  have h := log_any a
  have e1 : Gf.log a = Gf.lg a := by unfold Gf.log; rw [if_neg ha]
  have e2 : Gf.logE a = 0 := by unfold Gf.logE; rw [if_neg ha]
  rwa [e1, e2] at h

set_option maxHeartbeats 4000000 in
theorem gfPowers_walk (a : UInt8) (m n : Int) (w : World) (hm : -9223372036854775808 ≤ m ∧ m ≤ 9223372036854775807) (hn : -9223372036854775808 ≤ n ∧ n ≤ 9223372036854775807) :
    Calls Try.prog 5 #[.int .u8 (n8 a), .int .i64 m, .int .i64 n] w fun e w' => e = .returned (.bool true) ∧ Below w.heap.size w w' := by
  by_cases ha : a = 0
  · subst ha
    clear hm hn
    go_enter Try.func5, Try.ntmps5
    go_wp2_with fail
    refine (known_any _).mono ?_
    rintro e w0 ⟨rfl, hb0⟩
    go_wp2
    go_ret
    exact ⟨rfl, hb0⟩
  have ta : (a == 0) = false := by simpa using ha
  by_cases b1 : m < -1099511627776
  · have tb1 : decide (m < -1099511627776) = true := decide_eq_true b1
    clear hm hn ha b1
    go_enter Try.func5, Try.ntmps5
    go_wp2_with fail
    refine (known_any _).mono ?_
    rintro e w0 ⟨rfl, hb0⟩
    go_wp2
    go_ret
    exact ⟨rfl, hb0⟩
  have tb1 : decide (m < -1099511627776) = false := decide_eq_false b1
  by_cases b2 : 1099511627776 < m
  · have tb2 : decide (1099511627776 < m) = true := decide_eq_true b2
    clear hm hn ha b1 b2
    go_enter Try.func5, Try.ntmps5
    go_wp2_with fail
    refine (known_any _).mono ?_
    rintro e w0 ⟨rfl, hb0⟩
    go_wp2
    go_ret
    exact ⟨rfl, hb0⟩
  have tb2 : decide (1099511627776 < m) = false := decide_eq_false b2
  by_cases b3 : n < -1099511627776
  · have tb3 : decide (n < -1099511627776) = true := decide_eq_true b3
    clear hm hn ha b1 b2 b3
    go_enter Try.func5, Try.ntmps5
    go_wp2_with fail
    refine (known_any _).mono ?_
    rintro e w0 ⟨rfl, hb0⟩
    go_wp2
    go_ret
    exact ⟨rfl, hb0⟩
  have tb3 : decide (n < -1099511627776) = false := decide_eq_false b3
  by_cases b4 : 1099511627776 < n
  · have tb4 : decide (1099511627776 < n) = true := decide_eq_true b4
    clear hm hn ha b1 b2 b3 b4
    go_enter Try.func5, Try.ntmps5
    go_wp2_with fail
    refine (known_any _).mono ?_
    rintro e w0 ⟨rfl, hb0⟩
    go_wp2
    go_ret
    exact ⟨rfl, hb0⟩
  have tb4 : decide (1099511627776 < n) = false := decide_eq_false b4
  have hm2 : -1099511627776 ≤ m ∧ m ≤ 1099511627776 := by omega
  have hn2 : -1099511627776 ≤ n ∧ n ≤ 1099511627776 := by omega
  have c1 := powG ha m hm
  have c2 := powG ha n hn
  have c3 := powG ha (m + n) (by omega)
  have c4 := powG ha (-n) (by omega)
  have c5 : Gives 19 #[.int .u8 (n8 (Gf.pow a m)), .int .u8 (n8 (Gf.pow a n))] (.int .u8 (n8 (Gf.pow a (m + n)))) := by rw [← Gf.pow_add ha]; exact mul_any _ _
  have c6 : Gives 19 #[.int .u8 (n8 (Gf.pow a n)), .int .u8 (n8 (Gf.pow a (-n)))] (.int .u8 1) := by
    have h := mul_any (Gf.pow a n) (Gf.pow a (-n))
    rwa [Gf.pow_neg ha] at h
  have c7 := logG (Gf.pow_ne0 ha m)
  have c8 := logG (Gf.pow_ne0 ha n)
  have c9 := logG (Gf.pow_ne0 ha (m + n))
  have l1 := Gf.lg_lt (Gf.pow_ne0 ha m)
  have l2 := Gf.lg_lt (Gf.pow_ne0 ha n)
  have l3 : Gf.lg (Gf.pow a (m + n)) = (Gf.lg (Gf.pow a m) + Gf.lg (Gf.pow a n)) % 255 := by rw [← Gf.lg_mul (Gf.pow_ne0 ha m) (Gf.pow_ne0 ha n), Gf.pow_add ha]
  have l4 : ((Gf.lg (Gf.pow a m) : Nat) : Int) ≤ 1000 ∧ (0 : Int) ≤ (Gf.lg (Gf.pow a m) : Nat) := by omega
  have l5 : ((Gf.lg (Gf.pow a n) : Nat) : Int) ≤ 1000 ∧ (0 : Int) ≤ (Gf.lg (Gf.pow a n) : Nat) := by omega
  have l6 : ((((Gf.lg (Gf.pow a m) : Nat) : Int) + ((Gf.lg (Gf.pow a n) : Nat) : Int)) % 255 == ((Gf.lg (Gf.pow a (m + n)) : Nat) : Int)) = true := by
    rw [beq_iff_eq]
    omega
  clear l1 l2 l3 hm hn b1 b2 b3 b4
  generalize ((Gf.lg (Gf.pow a m) : Nat) : Int) = P at *
  generalize ((Gf.lg (Gf.pow a n) : Nat) : Int) = Q at *
  generalize ((Gf.lg (Gf.pow a (m + n)) : Nat) : Int) = R at *
  generalize Gf.pow a m = x at *
  generalize Gf.pow a n = y at *
  generalize Gf.pow a (m + n) = z at *
  generalize Gf.pow a (-n) = v at *
  clear ha
  have L6 := Lib.hid l6
  clear l6
  go_enter Try.func5, Try.ntmps5
  go_wp2_with fail
  refine (known_any _).mono ?_
  rintro e w0 ⟨rfl, hb0⟩
  have HB := Lib.hid hb0
  clear hb0
  go_wp2_with fail
  refine (c1 _).mono ?_
  rintro e w1 ⟨rfl, rfl⟩
  go_wp2_with fail
  refine (c2 _).mono ?_
  rintro e w1 ⟨rfl, rfl⟩
  go_wp2_with fail
  refine (c3 _).mono ?_
  rintro e w1 ⟨rfl, rfl⟩
  go_wp2_with fail
  refine (c4 _).mono ?_
  rintro e w1 ⟨rfl, rfl⟩
  go_wp2_with fail
  refine (c5 _).mono ?_
  rintro e w1 ⟨rfl, rfl⟩
  go_wp2_with fail
  refine (c6 _).mono ?_
  rintro e w1 ⟨rfl, rfl⟩
  go_wp2_with fail
  refine (c7 _).mono ?_
  rintro e w1 ⟨rfl, rfl⟩
  go_wp2_with fail
  refine (c8 _).mono ?_
  rintro e w1 ⟨rfl, rfl⟩
  go_wp2_with fail
  refine (c9 _).mono ?_
  rintro e w1 ⟨rfl, rfl⟩
  go_wp2
  go_ret
  exact ⟨by rw [L6.out]; rfl, HB.out⟩
end Go.Proofs.Ytkecjgdmjhljnaa
