/- The field's functions: Mul, Add, Pow, Div, Log; the reference's. -/
import Derived.Test.YtppgbapfmijboaaProg
import Derived.Test.YtppgbapfmijboaaNum
import Derived.Lib.Hide
import Derived.Test.YtppgbapfmijboaaGfSpec
set_option linter.unusedVariables false
set_option linter.unusedSimpArgs false
namespace Go.Proofs.Ytppgbapfmijboaa
open Go.RowKit

theorem shl8_1 (a : UInt8) : IntKind.u8.wrap (n8 a * (2 : Int)) = n8 (a <<< 1) := by
  unfold n8; rw [IntKind.wrap_u8]; simp [Nat.shiftLeft_eq]
attribute [go_sem] shl8_1
theorem mulR_odd {k : Nat} {p a b : UInt8} (h : (b &&& 1 == 1) = true) : Gf.mulR (k + 1) p a b = Gf.mulR k (p ^^^ a) (Gf.dbl a) (b >>> 1) := by
  show Gf.mulR k (if b &&& 1 = 1 then _ else _) _ _ = _
  rw [if_pos (by simpa using h)]
theorem mulR_even {k : Nat} {p a b : UInt8} (h : (b &&& 1 == 1) = false) : Gf.mulR (k + 1) p a b = Gf.mulR k p (Gf.dbl a) (b >>> 1) := by
  show Gf.mulR k (if b &&& 1 = 1 then _ else _) _ _ = _
  rw [if_neg (by simpa using h)]
theorem dbl_hi {a : UInt8} (h : (a >>> 7 == 1) = true) : Gf.dbl a = a <<< 1 ^^^ 29 := by unfold Gf.dbl; rw [if_pos (by simpa using h)]
theorem dbl_lo {a : UInt8} (h : (a >>> 7 == 1) = false) : Gf.dbl a = a <<< 1 := by unfold Gf.dbl; rw [if_neg (by simpa using h)]

set_option maxHeartbeats 400000 in
theorem mul_any (a b : UInt8) (w : World) :
    Calls Try.prog 61 #[.int .u8 (n8 a), .int .u8 (n8 b)] w fun e w' => e = .returned (.int .u8 (n8 (Gf.mul a b))) ∧ w = w' := by
  go_enter Try.func61, Try.ntmps61
  go_wp2
  go_loop [0, 1, 5, 7] (fun va vb vp i => ∃ (k : Nat) (x y p : UInt8), k ≤ 8 ∧ i = .int .i64 k ∧ va = .int .u8 (n8 x) ∧ vb = .int .u8 (n8 y) ∧ vp = .int .u8 (n8 p) ∧ Hid (Gf.mulR (8 - k) p x y = Gf.mul a b)) (fun _ _ _ i => 8 - (intOf i).toNat)
  case atStart => exact ⟨0, a, b, 0, by omega, rfl, rfl, rfl, rfl, Lib.hid rfl⟩
  case round =>
    obtain ⟨k, x, y, p, hk, rfl, rfl, rfl, rfl, hm⟩ := hrel
    by_cases hlt : k < 8
    · obtain ⟨r, hr⟩ : ∃ r, 8 - k = r + 1 := ⟨7 - k, by omega⟩
      go_wp2
      all_goals go_round
      all_goals first
        | (exact ⟨k + 1, _, _, _, by omega, by go_num, rfl, rfl, rfl, Lib.hid (by
            have hm := hm.out
            rw [hr] at hm
            rw [show 8 - (k + 1) = r by omega, ← hm]
            first
              | rw [mulR_odd (by assumption), dbl_hi (by assumption)]
              | rw [mulR_odd (by assumption), dbl_lo (by assumption)]
              | rw [mulR_even (by assumption), dbl_hi (by assumption)]
              | rw [mulR_even (by assumption), dbl_lo (by assumption)])⟩)
        | (simp [intOf]; omega)
    · obtain rfl : k = 8 := by omega
      have hp : p = Gf.mul a b := hm.out
      subst hp
      go_wp2
      go_ret
      exact ⟨rfl, rfl⟩

/-! The reference reckons with ints. -/
theorem i64_xor_nat (a b : Nat) (ha : a < 2 ^ 62) (hb : b < 2 ^ 62) : bits .xor .i64 (a : Int) (b : Int) = ((a ^^^ b : Nat) : Int) := by
  have ha' : a % 2 ^ 64 = a := Nat.mod_eq_of_lt (by omega)
  have hb' : b % 2 ^ 64 = b := Nat.mod_eq_of_lt (by omega)
  have hx := Nat.xor_lt_two_pow ha hb
  show IntKind.i64.wrap ((BitVec.ofInt 64 a ^^^ BitVec.ofInt 64 b).toNat : Nat) = _
  simp only [BitVec.ofInt_natCast, BitVec.toNat_xor, BitVec.toNat_ofNat, ha', hb']
  rw [IntKind.wrap_i64]
  omega
theorem i64_and_nat (a b : Nat) (ha : a < 2 ^ 62) (hb : b < 2 ^ 62) : bits .and .i64 (a : Int) (b : Int) = ((a &&& b : Nat) : Int) := by
  have ha' : a % 2 ^ 64 = a := Nat.mod_eq_of_lt (by omega)
  have hb' : b % 2 ^ 64 = b := Nat.mod_eq_of_lt (by omega)
  have hx := Nat.and_lt_two_pow a hb
  show IntKind.i64.wrap ((BitVec.ofInt 64 a &&& BitVec.ofInt 64 b).toNat : Nat) = _
  simp only [BitVec.ofInt_natCast, BitVec.toNat_and, BitVec.toNat_ofNat, ha', hb']
  rw [IntKind.wrap_i64]
  omega
@[go_sem] theorem i64_and1_n8 (b : UInt8) : bits .and .i64 (n8 b) (1 : Int) = n8 (b &&& 1) := by
  have := b.toNat_lt
  unfold n8
  rw [show (1 : Int) = ((1 : Nat) : Int) from rfl, i64_and_nat _ _ (by omega) (by omega), UInt8.toNat_and]
  rfl
@[go_sem] theorem i64_xor_n8 (a b : UInt8) : bits .xor .i64 (n8 a) (n8 b) = n8 (a ^^^ b) := by
  have := a.toNat_lt
  have := b.toNat_lt
  unfold n8
  rw [i64_xor_nat _ _ (by omega) (by omega), UInt8.toNat_xor]
@[go_sem] theorem n8_mod (a : UInt8) : n8 a % (256 : Int) = n8 a := by have := n8_bd a; omega
@[go_sem] theorem wrapi_n8 (a : UInt8) : IntKind.i64.wrap (n8 a) = n8 a := by have := n8_bd a; rw [IntKind.wrap_i64]; omega
theorem top_iff (a : UInt8) : (a >>> 7 = 1) ↔ 128 ≤ a.toNat := by
  have := Gf.all_bytes (p := fun a => decide ((a >>> 7 = 1) ↔ 128 ≤ a.toNat)) (by decide +kernel) a
  exact of_decide_eq_true this
theorem dbl_nat (a : UInt8) : (if 128 ≤ a.toNat then (a.toNat * 2) ^^^ 285 else a.toNat * 2) = (Gf.dbl a).toNat := by
  have := Gf.all_bytes (p := fun a => decide ((if 128 ≤ a.toNat then (a.toNat * 2) ^^^ 285 else a.toNat * 2) = (Gf.dbl a).toNat)) (by decide +kernel) a
  exact of_decide_eq_true this
theorem shr_nat (a : UInt8) : (a >>> 1).toNat = a.toNat / 2 := by
  have := Gf.all_bytes (p := fun a => decide ((a >>> 1).toNat = a.toNat / 2)) (by decide +kernel) a
  exact of_decide_eq_true this
theorem mulR_zero : ∀ (k : Nat) (p a : UInt8), Gf.mulR k p a 0 = p
  | 0, _, _ => rfl
  | k + 1, p, a => by
    show Gf.mulR k (if (0 : UInt8) &&& 1 = 1 then _ else p) _ ((0 : UInt8) >>> 1) = p
    rw [if_neg (by decide), show (0 : UInt8) >>> 1 = 0 by decide]
    exact mulR_zero k p _

set_option maxHeartbeats 400000 in
theorem refmul_any (a b : UInt8) (w : World) :
    Calls Try.prog 56 #[.int .u8 (n8 a), .int .u8 (n8 b)] w fun e w' => e = .returned (.int .u8 (n8 (Gf.mul a b))) ∧ w = w' := by
  go_enter Try.func56, Try.ntmps56
  go_wp2
  go_loop [5, 6, 7] (fun vp va vb => ∃ (k : Nat) (x y p : UInt8), y.toNat < 2 ^ k ∧ vp = .int .i64 (n8 p) ∧ va = .int .i64 (n8 x) ∧ vb = .int .i64 (n8 y) ∧ Hid (Gf.mulR k p x y = Gf.mul a b)) (fun _ _ vb => (intOf vb).toNat)
  case atStart => exact ⟨8, a, b, 0, b.toNat_lt, rfl, rfl, rfl, Lib.hid rfl⟩
  case round =>
    obtain ⟨k, x, y, p, hk, rfl, rfl, rfl, hm⟩ := hrel
    by_cases hlt : y.toNat = 0
    · have hy : y = 0 := UInt8.toNat_inj.1 hlt
      subst hy
      have hp : p = Gf.mul a b := by rw [← hm.out, mulR_zero]
      subst hp
      have t0 : decide ((0 : Int) < n8 0) = false := by decide
      go_wp2
      go_ret
      exact ⟨rfl, rfl⟩
    · obtain ⟨r, rfl⟩ : ∃ r, k = r + 1 := by
        cases k with
        | zero => simp at hk; omega
        | succ r => exact ⟨r, rfl⟩
      have t0 : decide ((0 : Int) < n8 y) = true := decide_eq_true (by unfold n8; omega)
      have hy2 : (y >>> 1).toNat < 2 ^ r := by rw [shr_nat]; rw [Nat.pow_succ] at hk; omega
      have hmeas : (n8 (y >>> 1)).toNat < (n8 y).toNat := by unfold n8; rw [shr_nat]; omega
      have hd := dbl_nat x
      have hx := n8_bd x
      have hw : IntKind.i64.wrap (n8 x * 2) = n8 x * 2 := by rw [IntKind.wrap_i64]; omega
      have hY := Lib.hid hy2
      have hM := Lib.hid hmeas
      clear hk hlt hy2 hmeas
      by_cases hx7 : 128 ≤ x.toNat
      · have t1 : decide ((256 : Int) ≤ n8 x * 2) = true := decide_eq_true (by unfold n8; omega)
        have e1 : bits .xor .i64 (n8 x * 2) 285 = n8 (Gf.dbl x) := by
          rw [if_pos hx7] at hd
          have := x.toNat_lt
          rw [show n8 x * 2 = ((x.toNat * 2 : Nat) : Int) by unfold n8; omega, show (285 : Int) = ((285 : Nat) : Int) from rfl, i64_xor_nat _ _ (by omega) (by omega), hd]
          rfl
        clear hd hx hx7
        go_wp2
        all_goals go_round
        all_goals first
          | (exact ⟨r, Gf.dbl x, y >>> 1, _, hY.out, rfl, rfl, rfl, Lib.hid (by
              have hm := hm.out
              first
                | rwa [mulR_odd (by assumption)] at hm
                | rwa [mulR_even (by assumption)] at hm)⟩)
          | exact hM.out
      · have t1 : decide ((256 : Int) ≤ n8 x * 2) = false := decide_eq_false (by unfold n8; omega)
        have e1 : n8 x * 2 = n8 (Gf.dbl x) := by
          rw [if_neg hx7] at hd
          unfold n8
          omega
        have E1 := Lib.hid e1
        clear hd hx hx7 e1
        go_wp2
        all_goals go_round
        all_goals first
          | (exact ⟨r, Gf.dbl x, y >>> 1, _, hY.out, rfl, by rw [E1.out], rfl, Lib.hid (by
              have hm := hm.out
              first
                | rwa [mulR_odd (by assumption)] at hm
                | rwa [mulR_even (by assumption)] at hm)⟩)
          | exact hM.out
end Go.Proofs.Ytppgbapfmijboaa
