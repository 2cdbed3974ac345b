/- The walks of GfReckons, GfLaws, GfPowers. -/
import Derived.Test.YtkecjgdmjhljnaaGfK
namespace Go.Proofs.Ytkecjgdmjhljnaa
open Go.RowKit Go.Deep

theorem gfReckons_walk (a b : UInt8) (n : Int) (w : World) (hn : -9223372036854775808 ≤ n ∧ n ≤ 9223372036854775807) :
    Calls Try.prog 3 #[.int .u8 (n8 a), .int .u8 (n8 b), .int .i64 n] w fun e w' => e = .returned (.bool true) ∧ Below w.heap.size w w' := by
  have HN := Lib.hid hn
  clear hn
  go_enter Try.func3, Try.ntmps3
  go_wp2_with fail
  refine (known_any _).mono ?_
  rintro e w' ⟨rfl, hb⟩
  have HB := Lib.hid hb
  clear hb
  go_wp2_with (first
    | (go_at_call 12; refine (div_any _ _ _).mono ?_; rintro e w1 ⟨rfl, rfl⟩)
    | (go_at_call 13; refine (refdiv_any _ _ _).mono ?_; rintro e w1 ⟨rfl, rfl⟩)
    | (go_at_call 14; refine (pow_any _ _ HN.out _).mono ?_; rintro e w1 ⟨rfl, rfl⟩)
    | (go_at_call 15; refine (refpow_any _ _ HN.out _).mono ?_; rintro e w1 ⟨rfl, rfl⟩)
    | (go_at_call 16; refine (log_any _ _).mono ?_; rintro e w1 ⟨rfl, rfl⟩)
    | (go_at_call 17; refine (reflog_any _ _).mono ?_; rintro e w1 ⟨rfl, rfl⟩)
    | (go_at_call 18; refine (add_any _ _ _).mono ?_; rintro e w1 ⟨rfl, rfl⟩)
    | (go_at_call 19; refine (mul_any _ _ _).mono ?_; rintro e w1 ⟨rfl, rfl⟩)
    | (go_at_call 20; refine (refmul_any _ _ _).mono ?_; rintro e w1 ⟨rfl, rfl⟩))
  go_ret
  exact ⟨rfl, HB.out⟩

/-- A call with a known answer that leaves the world. -/
def Gives (f : Nat) (args : Array Value) (v : Value) : Prop := ∀ w, Calls Try.prog f args w fun e w' => e = .returned v ∧ w = w'

set_option maxHeartbeats 4000000 in
theorem gfLaws_walk (a b c : UInt8) (w : World) :
    Calls Try.prog 4 #[.int .u8 (n8 a), .int .u8 (n8 b), .int .u8 (n8 c)] w fun e w' => e = .returned (.bool true) ∧ Below w.heap.size w w' := by
  have c1 : Gives 19 #[.int .u8 (n8 a), .int .u8 (n8 b)] (.int .u8 (n8 (Gf.mul a b))) := mul_any a b
  have c2 : Gives 19 #[.int .u8 (n8 b), .int .u8 (n8 a)] (.int .u8 (n8 (Gf.mul a b))) := by rw [Gf.mul_comm a b]; exact mul_any b a
  have c3 : Gives 19 #[.int .u8 (n8 b), .int .u8 (n8 c)] (.int .u8 (n8 (Gf.mul b c))) := mul_any b c
  have c4 : Gives 19 #[.int .u8 (n8 a), .int .u8 (n8 (Gf.mul b c))] (.int .u8 (n8 (Gf.mul a (Gf.mul b c)))) := mul_any _ _
  have c5 : Gives 19 #[.int .u8 (n8 (Gf.mul a b)), .int .u8 (n8 c)] (.int .u8 (n8 (Gf.mul a (Gf.mul b c)))) := by rw [← Gf.mul_assoc]; exact mul_any _ _
  have c6 : Gives 18 #[.int .u8 (n8 b), .int .u8 (n8 c)] (.int .u8 (n8 (b ^^^ c))) := add_any _ _
  have c7 : Gives 19 #[.int .u8 (n8 a), .int .u8 (n8 (b ^^^ c))] (.int .u8 (n8 (Gf.mul a (b ^^^ c)))) := mul_any _ _
  have c8 : Gives 19 #[.int .u8 (n8 a), .int .u8 (n8 c)] (.int .u8 (n8 (Gf.mul a c))) := mul_any _ _
  have c9 : Gives 18 #[.int .u8 (n8 (Gf.mul a b)), .int .u8 (n8 (Gf.mul a c))] (.int .u8 (n8 (Gf.mul a (b ^^^ c)))) := by rw [Gf.mul_xor]; exact add_any _ _
  have c10 : Gives 18 #[.int .u8 (n8 a), .int .u8 (n8 a)] (.int .u8 0) := by have h := add_any a a; rwa [Gf.xor_cancel] at h
  have c11 : Gives 19 #[.int .u8 (n8 a), .int .u8 1] (.int .u8 (n8 a)) := by have h := mul_any a 1; rwa [Gf.mul_one] at h
  have c12 : Gives 19 #[.int .u8 (n8 a), .int .u8 0] (.int .u8 0) := by have h := mul_any a 0; rwa [Gf.mul_zero] at h
  have c13 : b ≠ 0 → Gives 12 #[.int .u8 (n8 (Gf.mul a b)), .int .u8 (n8 b)] (.tuple #[.int .u8 (n8 a), .int .i64 0]) := by
    intro hb
    have h := div_any (Gf.mul a b) b
    have e1 : Gf.div (Gf.mul a b) b = a := by
      unfold Gf.div
      rw [if_neg hb, Gf.mul_assoc, Gf.mul_inv hb, Gf.mul_one]
    have e2 : Gf.divE b = 0 := by unfold Gf.divE; rw [if_neg hb]
    rwa [e1, e2] at h
  have c14 : a ≠ 0 → Gives 16 #[.int .u8 (n8 a)] (.tuple #[.int .i64 (Gf.lg a : Nat), .int .i64 0]) := by
    intro ha
    have h := log_any a
    have e1 : Gf.log a = Gf.lg a := by unfold Gf.log; rw [if_neg ha]
    have e2 : Gf.logE a = 0 := by unfold Gf.logE; rw [if_neg ha]
    rwa [e1, e2] at h
  have c15 : a ≠ 0 → Gives 14 #[.int .u8 2, .int .i64 (Gf.lg a : Nat)] (.tuple #[.int .u8 (n8 a), .int .i64 0]) := by
    intro ha
    have hl := Gf.lg_lt ha
    have h := pow_any 2 (Gf.lg a : Nat) (by omega)
    have e1 : Gf.pow 2 (Gf.lg a : Nat) = a := by
      unfold Gf.pow
      rw [if_neg (by decide), show expo (Gf.lg a : Nat) = Gf.lg a by unfold expo; omega, Gf.pw_lg ha]
    have e2 : Gf.powE 2 (Gf.lg a : Nat) = 0 := by unfold Gf.powE; rw [if_neg (by simp)]
    rwa [e1, e2] at h
  have hl : a ≠ 0 → Gf.lg a < 255 := fun h => Gf.lg_lt h
  have hg1 : ∀ x y, Gives 19 #[.int .u8 (n8 x), .int .u8 (n8 y)] (.int .u8 (n8 (Gf.mul x y))) := fun x y => mul_any x y
  generalize Gf.mul a (Gf.mul b c) = r at *
  generalize Gf.mul b c = q at *
  generalize Gf.mul a (b ^^^ c) = t at *
  generalize b ^^^ c = s at *
  generalize Gf.mul a b = p at *
  generalize Gf.mul a c = u at *
  have hl0 : (0 : Int) ≤ (Gf.lg a : Nat) := by omega
  have hl2 : a ≠ 0 → ((Gf.lg a : Nat) : Int) < 255 := fun h => by have := hl h; omega
  clear hl
  generalize ((Gf.lg a : Nat) : Int) = l at *
  clear hg1
  by_cases hb : b = 0
  · clear c13
    have tb : (b == 0) = true := by simpa using hb
    subst hb
    by_cases ha : a = 0
    · clear c14 c15 hl0 hl2
      subst ha
      go_enter Try.func4, Try.ntmps4
      go_wp2_with fail
      refine (known_any _).mono ?_
      rintro e w0 ⟨rfl, hb0⟩
      have HB := Lib.hid hb0
      clear hb0
      go_wp2_with fail
      refine (c1 _).mono ?_
      rintro e w1 ⟨rfl, rfl⟩
      go_wp2_with fail
      refine (c2 _).mono ?_
      rintro e w1 ⟨rfl, rfl⟩
      go_wp2_with fail
      refine (c3 _).mono ?_
      rintro e w1 ⟨rfl, rfl⟩
      go_wp2_with fail
      refine (c4 _).mono ?_
      rintro e w1 ⟨rfl, rfl⟩
      go_wp2_with fail
      refine (c1 _).mono ?_
      rintro e w1 ⟨rfl, rfl⟩
      go_wp2_with fail
      refine (c5 _).mono ?_
      rintro e w1 ⟨rfl, rfl⟩
      go_wp2_with fail
      refine (c6 _).mono ?_
      rintro e w1 ⟨rfl, rfl⟩
      go_wp2_with fail
      refine (c7 _).mono ?_
      rintro e w1 ⟨rfl, rfl⟩
      go_wp2_with fail
      refine (c1 _).mono ?_
      rintro e w1 ⟨rfl, rfl⟩
      go_wp2_with fail
      refine (c8 _).mono ?_
      rintro e w1 ⟨rfl, rfl⟩
      go_wp2_with fail
      refine (c9 _).mono ?_
      rintro e w1 ⟨rfl, rfl⟩
      go_wp2_with fail
      refine (c10 _).mono ?_
      rintro e w1 ⟨rfl, rfl⟩
      go_wp2_with fail
      refine (c11 _).mono ?_
      rintro e w1 ⟨rfl, rfl⟩
      go_wp2_with fail
      refine (c12 _).mono ?_
      rintro e w1 ⟨rfl, rfl⟩
      go_wp2
      all_goals go_ret
      all_goals exact ⟨rfl, HB.out⟩
    · replace c14 := c14 ha
      replace c15 := c15 ha
      replace hl2 := hl2 ha
      have ta : (a == 0) = false := by simpa using ha
      have tl : decide (l < 255) = true := decide_eq_true hl2
      have tl0 : decide (0 ≤ l) = true := decide_eq_true hl0
      clear ha hl0 hl2
      go_enter Try.func4, Try.ntmps4
      go_wp2_with fail
      refine (known_any _).mono ?_
      rintro e w0 ⟨rfl, hb0⟩
      have HB := Lib.hid hb0
      clear hb0
      go_wp2_with fail
      refine (c1 _).mono ?_
      rintro e w1 ⟨rfl, rfl⟩
      go_wp2_with fail
      refine (c2 _).mono ?_
      rintro e w1 ⟨rfl, rfl⟩
      go_wp2_with fail
      refine (c3 _).mono ?_
      rintro e w1 ⟨rfl, rfl⟩
      go_wp2_with fail
      refine (c4 _).mono ?_
      rintro e w1 ⟨rfl, rfl⟩
      go_wp2_with fail
      refine (c1 _).mono ?_
      rintro e w1 ⟨rfl, rfl⟩
      go_wp2_with fail
      refine (c5 _).mono ?_
      rintro e w1 ⟨rfl, rfl⟩
      go_wp2_with fail
      refine (c6 _).mono ?_
      rintro e w1 ⟨rfl, rfl⟩
      go_wp2_with fail
      refine (c7 _).mono ?_
      rintro e w1 ⟨rfl, rfl⟩
      go_wp2_with fail
      refine (c1 _).mono ?_
      rintro e w1 ⟨rfl, rfl⟩
      go_wp2_with fail
      refine (c8 _).mono ?_
      rintro e w1 ⟨rfl, rfl⟩
      go_wp2_with fail
      refine (c9 _).mono ?_
      rintro e w1 ⟨rfl, rfl⟩
      go_wp2_with fail
      refine (c10 _).mono ?_
      rintro e w1 ⟨rfl, rfl⟩
      go_wp2_with fail
      refine (c11 _).mono ?_
      rintro e w1 ⟨rfl, rfl⟩
      go_wp2_with fail
      refine (c12 _).mono ?_
      rintro e w1 ⟨rfl, rfl⟩
      go_wp2_with fail
      refine (c14 _).mono ?_
      rintro e w1 ⟨rfl, rfl⟩
      go_wp2_with fail
      refine (c15 _).mono ?_
      rintro e w1 ⟨rfl, rfl⟩
      go_wp2
      all_goals go_ret
      all_goals exact ⟨rfl, HB.out⟩
  · replace c13 := c13 hb
    have tb : (b == 0) = false := by simpa using hb
    have tb2 : (n8 b != 0) = true := by show (!(n8 b == 0)) = true; rw [n8_beq_0, tb]; rfl
    clear hb
    by_cases ha : a = 0
    · clear c14 c15 hl0 hl2
      subst ha
      go_enter Try.func4, Try.ntmps4
      go_wp2_with fail
      refine (known_any _).mono ?_
      rintro e w0 ⟨rfl, hb0⟩
      have HB := Lib.hid hb0
      clear hb0
      go_wp2_with fail
      refine (c1 _).mono ?_
      rintro e w1 ⟨rfl, rfl⟩
      go_wp2_with fail
      refine (c2 _).mono ?_
      rintro e w1 ⟨rfl, rfl⟩
      go_wp2_with fail
      refine (c3 _).mono ?_
      rintro e w1 ⟨rfl, rfl⟩
      go_wp2_with fail
      refine (c4 _).mono ?_
      rintro e w1 ⟨rfl, rfl⟩
      go_wp2_with fail
      refine (c1 _).mono ?_
      rintro e w1 ⟨rfl, rfl⟩
      go_wp2_with fail
      refine (c5 _).mono ?_
      rintro e w1 ⟨rfl, rfl⟩
      go_wp2_with fail
      refine (c6 _).mono ?_
      rintro e w1 ⟨rfl, rfl⟩
      go_wp2_with fail
      refine (c7 _).mono ?_
      rintro e w1 ⟨rfl, rfl⟩
      go_wp2_with fail
      refine (c1 _).mono ?_
      rintro e w1 ⟨rfl, rfl⟩
      go_wp2_with fail
      refine (c8 _).mono ?_
      rintro e w1 ⟨rfl, rfl⟩
      go_wp2_with fail
      refine (c9 _).mono ?_
      rintro e w1 ⟨rfl, rfl⟩
      go_wp2_with fail
      refine (c10 _).mono ?_
      rintro e w1 ⟨rfl, rfl⟩
      go_wp2_with fail
      refine (c11 _).mono ?_
      rintro e w1 ⟨rfl, rfl⟩
      go_wp2_with fail
      refine (c12 _).mono ?_
      rintro e w1 ⟨rfl, rfl⟩
      go_wp2_with fail
      refine (c1 _).mono ?_
      rintro e w1 ⟨rfl, rfl⟩
      go_wp2_with fail
      refine (c13 _).mono ?_
      rintro e w1 ⟨rfl, rfl⟩
      go_wp2
      all_goals go_ret
      all_goals exact ⟨rfl, HB.out⟩
    · replace c14 := c14 ha
      replace c15 := c15 ha
      replace hl2 := hl2 ha
      have ta : (a == 0) = false := by simpa using ha
      have tl : decide (l < 255) = true := decide_eq_true hl2
      have tl0 : decide (0 ≤ l) = true := decide_eq_true hl0
      clear ha hl0 hl2
      go_enter Try.func4, Try.ntmps4
      go_wp2_with fail
      refine (known_any _).mono ?_
      rintro e w0 ⟨rfl, hb0⟩
      have HB := Lib.hid hb0
      clear hb0
      go_wp2_with fail
      refine (c1 _).mono ?_
      rintro e w1 ⟨rfl, rfl⟩
      go_wp2_with fail
      refine (c2 _).mono ?_
      rintro e w1 ⟨rfl, rfl⟩
      go_wp2_with fail
      refine (c3 _).mono ?_
      rintro e w1 ⟨rfl, rfl⟩
      go_wp2_with fail
      refine (c4 _).mono ?_
      rintro e w1 ⟨rfl, rfl⟩
      go_wp2_with fail
      refine (c1 _).mono ?_
      rintro e w1 ⟨rfl, rfl⟩
      go_wp2_with fail
      refine (c5 _).mono ?_
      rintro e w1 ⟨rfl, rfl⟩
      go_wp2_with fail
      refine (c6 _).mono ?_
      rintro e w1 ⟨rfl, rfl⟩
      go_wp2_with fail
      refine (c7 _).mono ?_
      rintro e w1 ⟨rfl, rfl⟩
      go_wp2_with fail
      refine (c1 _).mono ?_
      rintro e w1 ⟨rfl, rfl⟩
      go_wp2_with fail
      refine (c8 _).mono ?_
      rintro e w1 ⟨rfl, rfl⟩
      go_wp2_with fail
      refine (c9 _).mono ?_
      rintro e w1 ⟨rfl, rfl⟩
      go_wp2_with fail
      refine (c10 _).mono ?_
      rintro e w1 ⟨rfl, rfl⟩
      go_wp2_with fail
      refine (c11 _).mono ?_
      rintro e w1 ⟨rfl, rfl⟩
      go_wp2_with fail
      refine (c12 _).mono ?_
      rintro e w1 ⟨rfl, rfl⟩
      go_wp2_with fail
      refine (c1 _).mono ?_
      rintro e w1 ⟨rfl, rfl⟩
      go_wp2_with fail
      refine (c13 _).mono ?_
      rintro e w1 ⟨rfl, rfl⟩
      go_wp2_with fail
      refine (c14 _).mono ?_
      rintro e w1 ⟨rfl, rfl⟩
      go_wp2_with fail
      refine (c15 _).mono ?_
      rintro e w1 ⟨rfl, rfl⟩
      go_wp2
      all_goals go_ret
      all_goals exact ⟨rfl, HB.out⟩
end Go.Proofs.Ytkecjgdmjhljnaa
