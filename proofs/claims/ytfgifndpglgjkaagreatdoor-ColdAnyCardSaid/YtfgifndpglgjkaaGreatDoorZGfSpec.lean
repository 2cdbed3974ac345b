/- The field of 256 elements, as plain functions on bytes. No program in sight. -/
import Derived.KernelRfl
set_option linter.unusedVariables false
set_option linter.unusedSimpArgs false
set_option linter.unusedVariables false
set_option linter.unusedSimpArgs false
namespace Go.Proofs.YtfgifndpglgjkaaGreatDoor.Gf

def dbl (a : UInt8) : UInt8 := if a >>> 7 = 1 then (a <<< 1) ^^^ 29 else a <<< 1
/-- k rounds. -/
def mulR : Nat → UInt8 → UInt8 → UInt8 → UInt8
  | 0, p, _, _ => p
  | k + 1, p, a, b => mulR k (if b &&& 1 = 1 then p ^^^ a else p) (dbl a) (b >>> 1)
def mul (a b : UInt8) : UInt8 := mulR 8 0 a b

theorem u8_ext {a b : UInt8} (h : ∀ i, i < 8 → a.toBitVec.getLsbD i = b.toBitVec.getLsbD i) : a = b := by
  apply UInt8.toBitVec_inj.1
  apply BitVec.eq_of_getLsbD_eq
  exact h
theorem xor_cancel (a : UInt8) : a ^^^ a = 0 := by simp
theorem xor_lc (a b c : UInt8) : a ^^^ (b ^^^ c) = b ^^^ (a ^^^ c) := by rw [← UInt8.xor_assoc, UInt8.xor_comm a, UInt8.xor_assoc]
theorem xor_lself (a b : UInt8) : a ^^^ (a ^^^ b) = b := by rw [← UInt8.xor_assoc, UInt8.xor_self, UInt8.zero_xor]
theorem and_one_bit (c : UInt8) : (c &&& 1 = 1) ↔ c.toBitVec.getLsbD 0 = true := by
  rw [← UInt8.toBitVec_inj]
  constructor
  · intro h
    have := congrArg (fun x => x.getLsbD 0) h
    simpa using this
  · intro h
    apply BitVec.eq_of_getLsbD_eq
    intro i hi
    simp
    by_cases hi0 : i = 0
    · subst hi0; simp [h]
    · simp [hi0]
/-- All bytes, by the kernel. -/
theorem all_bytes {p : UInt8 → Bool} (h : (List.range 256).all (fun n => p (UInt8.ofNat n)) = true) (a : UInt8) : p a = true := by
  have := List.all_eq_true.1 h a.toNat (List.mem_range.2 a.toNat_lt)
  rwa [UInt8.ofNat_toNat] at this

/-- A byte by its bits. -/
def bitOf (a : UInt8) (i : Nat) : UInt8 := if a.toBitVec.getLsbD i then UInt8.ofNat (2 ^ i) else 0
def bitsOf (a : UInt8) : UInt8 := bitOf a 0 ^^^ bitOf a 1 ^^^ bitOf a 2 ^^^ bitOf a 3 ^^^ bitOf a 4 ^^^ bitOf a 5 ^^^ bitOf a 6 ^^^ bitOf a 7
theorem bits_of (a : UInt8) : bitsOf a = a := by
  have := all_bytes (p := fun a => decide (bitsOf a = a)) (by decide +kernel) a
  simpa using this
/-- Additive functions are alike where they are alike on the bits. -/
def Additive (f : UInt8 → UInt8) : Prop := ∀ a b, f (a ^^^ b) = f a ^^^ f b
theorem Additive.zero {f : UInt8 → UInt8} (h : Additive f) : f 0 = 0 := by
  have := h 0 0
  simpa using this
theorem Additive.ext {f g : UInt8 → UInt8} (hf : Additive f) (hg : Additive g) (h : ∀ i, i < 8 → f (UInt8.ofNat (2 ^ i)) = g (UInt8.ofNat (2 ^ i))) (a : UInt8) : f a = g a := by
  have e : ∀ i, i < 8 → f (bitOf a i) = g (bitOf a i) := by
    intro i hi
    unfold bitOf
    split
    · exact h i hi
    · rw [hf.zero, hg.zero]
  rw [← bits_of a]
  unfold bitsOf
  rw [hf, hf, hf, hf, hf, hf, hf, hg, hg, hg, hg, hg, hg, hg, e 0 (by omega), e 1 (by omega), e 2 (by omega), e 3 (by omega), e 4 (by omega), e 5 (by omega), e 6 (by omega), e 7 (by omega)]

theorem shl_xor (a b : UInt8) : (a ^^^ b) <<< 1 = (a <<< 1) ^^^ (b <<< 1) := by
  apply u8_ext; intro i hi
  simp
  by_cases h0 : i = 0 <;> simp [h0, hi]
theorem shr_xor (a b : UInt8) : (a ^^^ b) >>> 1 = (a >>> 1) ^^^ (b >>> 1) := by
  apply u8_ext; intro i _; simp
theorem top_bit (a : UInt8) : (a >>> 7 = 1) ↔ a.toBitVec.getLsbD 7 = true := by
  have := all_bytes (p := fun a => decide ((a >>> 7 = 1) ↔ a.toBitVec.getLsbD 7 = true)) (by decide +kernel) a
  exact of_decide_eq_true this
theorem dbl_eq (c : UInt8) : dbl c = (c <<< 1) ^^^ (if c.toBitVec.getLsbD 7 then 29 else 0) := by
  unfold dbl
  by_cases h : c.toBitVec.getLsbD 7 = true
  · rw [if_pos ((top_bit c).2 h), if_pos h]
  · rw [if_neg (fun k => h ((top_bit c).1 k)), if_neg h]; simp
theorem dbl_xor : Additive dbl := by
  intro a b
  rw [dbl_eq, dbl_eq, dbl_eq, shl_xor]
  have hb : (a ^^^ b).toBitVec.getLsbD 7 = (a.toBitVec.getLsbD 7 ^^ b.toBitVec.getLsbD 7) := by simp
  rw [hb]
  cases a.toBitVec.getLsbD 7 <;> cases b.toBitVec.getLsbD 7 <;> simp [UInt8.xor_assoc, UInt8.xor_comm, xor_lc, xor_lself]

theorem mulR_acc : ∀ (k : Nat) (p a b : UInt8), mulR k p a b = p ^^^ mulR k 0 a b
  | 0, p, a, b => by simp [mulR]
  | k + 1, p, a, b => by
    unfold mulR
    rw [mulR_acc k _ (dbl a), mulR_acc k (if b &&& 1 = 1 then 0 ^^^ a else 0) (dbl a)]
    split <;> simp [UInt8.xor_assoc]
theorem mulR_left : ∀ (k : Nat) (b : UInt8), Additive (fun a => mulR k 0 a b)
  | 0, b => fun a c => by simp [mulR]
  | k + 1, b => fun a c => by
    show mulR (k + 1) 0 (a ^^^ c) b = mulR (k + 1) 0 a b ^^^ mulR (k + 1) 0 c b
    unfold mulR
    rw [mulR_acc k _ (dbl (a ^^^ c)), mulR_acc k _ (dbl a), mulR_acc k _ (dbl c), dbl_xor a c, show mulR k 0 (dbl a ^^^ dbl c) (b >>> 1) = _ from mulR_left k (b >>> 1) (dbl a) (dbl c)]
    split <;> simp only [UInt8.zero_xor, UInt8.xor_assoc, UInt8.xor_comm, xor_lc, xor_lself]
theorem mulR_right : ∀ (k : Nat) (a : UInt8), Additive (fun b => mulR k 0 a b)
  | 0, b => fun a c => by simp [mulR]
  | k + 1, a => fun b c => by
    show mulR (k + 1) 0 a (b ^^^ c) = mulR (k + 1) 0 a b ^^^ mulR (k + 1) 0 a c
    unfold mulR
    rw [mulR_acc k _ _ ((b ^^^ c) >>> 1), mulR_acc k _ _ (b >>> 1), mulR_acc k _ _ (c >>> 1), shr_xor, show mulR k 0 (dbl a) (b >>> 1 ^^^ c >>> 1) = _ from mulR_right k (dbl a) (b >>> 1) (c >>> 1)]
    have hb : (b ^^^ c).toBitVec.getLsbD 0 = (b.toBitVec.getLsbD 0 ^^ c.toBitVec.getLsbD 0) := by simp
    simp only [and_one_bit, hb]
    cases b.toBitVec.getLsbD 0 <;> cases c.toBitVec.getLsbD 0 <;> simp [UInt8.xor_assoc, UInt8.xor_comm, xor_lc, xor_lself]
theorem mul_left (b : UInt8) : Additive (fun a => mul a b) := mulR_left 8 b
theorem mul_right (a : UInt8) : Additive (fun b => mul a b) := mulR_right 8 a
theorem mul_xor (a b c : UInt8) : mul a (b ^^^ c) = mul a b ^^^ mul a c := mul_right a b c
theorem xor_mul (a b c : UInt8) : mul (a ^^^ b) c = mul a c ^^^ mul b c := mul_left c a b
theorem mul_zero (a : UInt8) : mul a 0 = 0 := (mul_right a).zero
theorem zero_mul (a : UInt8) : mul 0 a = 0 := (mul_left a).zero

theorem comm_bits : ∀ i, i < 8 → ∀ j, j < 8 → mul (UInt8.ofNat (2 ^ i)) (UInt8.ofNat (2 ^ j)) = mul (UInt8.ofNat (2 ^ j)) (UInt8.ofNat (2 ^ i)) := by decide +kernel
theorem mul_comm (a b : UInt8) : mul a b = mul b a := by
  refine Additive.ext (f := fun a => mul a b) (g := fun a => mul b a) (mul_left b) (mul_right b) (fun i hi => ?_) a
  exact Additive.ext (f := fun b => mul (UInt8.ofNat (2 ^ i)) b) (g := fun b => mul b (UInt8.ofNat (2 ^ i))) (mul_right _) (mul_left _) (fun j hj => comm_bits i hi j hj) b
theorem assoc_bits : ∀ i, i < 8 → ∀ j, j < 8 → ∀ k, k < 8 → mul (mul (UInt8.ofNat (2 ^ i)) (UInt8.ofNat (2 ^ j))) (UInt8.ofNat (2 ^ k)) = mul (UInt8.ofNat (2 ^ i)) (mul (UInt8.ofNat (2 ^ j)) (UInt8.ofNat (2 ^ k))) := by decide +kernel
theorem mul_assoc (a b c : UInt8) : mul (mul a b) c = mul a (mul b c) := by
  refine Additive.ext (f := fun a => mul (mul a b) c) (g := fun a => mul a (mul b c)) (fun x y => ?_) (mul_left _) (fun i hi => ?_) a
  · show mul (mul (x ^^^ y) b) c = _
    rw [xor_mul, xor_mul]
  refine Additive.ext (f := fun b => mul (mul (UInt8.ofNat (2 ^ i)) b) c) (g := fun b => mul (UInt8.ofNat (2 ^ i)) (mul b c)) (fun x y => ?_) (fun x y => ?_) (fun j hj => ?_) b
  · show mul (mul _ (x ^^^ y)) c = _
    rw [mul_xor, xor_mul]
  · show mul _ (mul (x ^^^ y) c) = _
    rw [xor_mul, mul_xor]
  refine Additive.ext (f := fun c => mul (mul (UInt8.ofNat (2 ^ i)) (UInt8.ofNat (2 ^ j))) c) (g := fun c => mul (UInt8.ofNat (2 ^ i)) (mul (UInt8.ofNat (2 ^ j)) c)) (mul_right _) (fun x y => ?_) (fun k hk => assoc_bits i hi j hj k hk) c
  show mul _ (mul _ (x ^^^ y)) = _
  rw [mul_xor, mul_xor]
theorem one_bits : ∀ i, i < 8 → mul (UInt8.ofNat (2 ^ i)) 1 = UInt8.ofNat (2 ^ i) := by decide +kernel
theorem mul_one (a : UInt8) : mul a 1 = a := Additive.ext (f := fun a => mul a 1) (g := fun a => a) (mul_left 1) (fun _ _ => rfl) one_bits a
theorem one_mul (a : UInt8) : mul 1 a = a := by rw [mul_comm, mul_one]

/-- Powers. -/
def pw (a : UInt8) : Nat → UInt8
  | 0 => 1
  | k + 1 => mul (pw a k) a
theorem pw_add (a : UInt8) (m : Nat) : ∀ n, pw a (m + n) = mul (pw a m) (pw a n)
  | 0 => by simp [pw, mul_one]
  | n + 1 => by show mul (pw a (m + n)) a = mul (pw a m) (mul (pw a n) a); rw [pw_add a m n, mul_assoc]
theorem pw_pw (a : UInt8) (m : Nat) : ∀ n, pw (pw a m) n = pw a (m * n)
  | 0 => rfl
  | n + 1 => by show mul (pw (pw a m) n) (pw a m) = _; rw [pw_pw a m n, Nat.mul_succ, pw_add]
theorem pw_one : ∀ n, pw 1 n = 1
  | 0 => rfl
  | n + 1 => by show mul (pw 1 n) 1 = 1; rw [pw_one n, mul_one]

/-- The powers of 2, from x on. -/
def gen : Nat → UInt8 → List UInt8
  | 0, _ => []
  | k + 1, x => x :: gen k (mul x 2)
def tab : List UInt8 := gen 255 1
theorem gen_len : ∀ k x, (gen k x).length = k
  | 0, _ => rfl
  | k + 1, x => by simp [gen, gen_len k]
theorem gen_get : ∀ (k i : Nat) (x : UInt8) (h : i < (gen k x).length), (gen k x)[i] = mul x (pw 2 i)
  | 0, _, _, h => by simp [gen] at h
  | k + 1, 0, x, h => by simp [gen, pw, mul_one]
  | k + 1, i + 1, x, h => by
    simp only [gen, List.getElem_cons_succ]
    rw [gen_get k i (mul x 2) (by simpa [gen] using h), mul_assoc]
    show mul x (mul 2 (pw 2 i)) = mul x (mul (pw 2 i) 2)
    rw [mul_comm 2]
theorem tab_get {i : Nat} (h : i < 255) : tab[i]'(by unfold tab; rw [gen_len]; exact h) = pw 2 i := by
  unfold tab
  rw [gen_get, one_mul]
def tabLit : List UInt8 := [1, 2, 4, 8, 16, 32, 64, 128, 29, 58, 116, 232, 205, 135, 19, 38, 76, 152, 45, 90, 180, 117, 234, 201, 143, 3, 6, 12, 24, 48, 96, 192, 157, 39, 78, 156, 37, 74, 148, 53, 106, 212, 181, 119, 238, 193, 159, 35, 70, 140, 5, 10, 20, 40, 80, 160, 93, 186, 105, 210, 185, 111, 222, 161, 95, 190, 97, 194, 153, 47, 94, 188, 101, 202, 137, 15, 30, 60, 120, 240, 253, 231, 211, 187, 107, 214, 177, 127, 254, 225, 223, 163, 91, 182, 113, 226, 217, 175, 67, 134, 17, 34, 68, 136, 13, 26, 52, 104, 208, 189, 103, 206, 129, 31, 62, 124, 248, 237, 199, 147, 59, 118, 236, 197, 151, 51, 102, 204, 133, 23, 46, 92, 184, 109, 218, 169, 79, 158, 33, 66, 132, 21, 42, 84, 168, 77, 154, 41, 82, 164, 85, 170, 73, 146, 57, 114, 228, 213, 183, 115, 230, 209, 191, 99, 198, 145, 63, 126, 252, 229, 215, 179, 123, 246, 241, 255, 227, 219, 171, 75, 150, 49, 98, 196, 149, 55, 110, 220, 165, 87, 174, 65, 130, 25, 50, 100, 200, 141, 7, 14, 28, 56, 112, 224, 221, 167, 83, 166, 81, 162, 89, 178, 121, 242, 249, 239, 195, 155, 43, 86, 172, 69, 138, 9, 18, 36, 72, 144, 61, 122, 244, 245, 247, 243, 251, 235, 203, 139, 11, 22, 44, 88, 176, 125, 250, 233, 207, 131, 27, 54, 108, 216, 173, 71, 142]
theorem tab_lit : tab = tabLit := by decide +kernel
theorem all_there : ∀ a : UInt8, a ≠ 0 → a ∈ tab := by
  intro a h
  have := all_bytes (p := fun a => decide (a ≠ 0 → a ∈ tabLit)) (by decide +kernel) a
  rw [tab_lit]
  exact of_decide_eq_true this h
theorem tab_nodup : tab.Nodup := by rw [tab_lit]; decide +kernel
theorem pw2_255 : pw 2 255 = 1 := by
  show mul (pw 2 254) 2 = 1
  rw [← tab_get (i := 254) (by omega)]
  simp only [tab_lit]
  decide +kernel
theorem pw2_mod (n : Nat) : pw 2 n = pw 2 (n % 255) := by
  have e := Nat.div_add_mod n 255
  have : pw 2 (255 * (n / 255) + n % 255) = pw 2 (n % 255) := by rw [pw_add, ← pw_pw, pw2_255, pw_one, one_mul]
  rwa [e] at this

/-- Which power of 2. -/
def lg (a : UInt8) : Nat := tab.idxOf a
theorem lg_lt {a : UInt8} (h : a ≠ 0) : lg a < 255 := by
  have := List.idxOf_lt_length_of_mem (all_there a h)
  have e : tab.length = 255 := gen_len _ _
  unfold lg; omega
theorem pw_lg {a : UInt8} (h : a ≠ 0) : pw 2 (lg a) = a := by
  rw [← tab_get (lg_lt h)]
  exact List.getElem_idxOf _
theorem pw2_inj {i j : Nat} (hi : i < 255) (hj : j < 255) (h : pw 2 i = pw 2 j) : i = j := by
  rw [← tab_get hi, ← tab_get hj] at h
  exact (List.getElem_inj (h₀ := _) (h₁ := _) tab_nodup).1 h
theorem pw_ne {a : UInt8} (h : a ≠ 0) {k : Nat} (hk : k < lg a) : pw 2 k ≠ a := by
  intro e
  have hl := lg_lt h
  have := pw2_inj (i := k) (j := lg a) (by omega) hl (by rw [e, pw_lg h])
  omega
theorem pw2_ne0 (n : Nat) : pw 2 n ≠ 0 := by
  intro h
  have h1 : pw 2 (n % 255) = 0 := by rw [← pw2_mod, h]
  have h2 : mul (pw 2 (n % 255)) (pw 2 (255 - n % 255)) = 1 := by
    rw [← pw_add, show n % 255 + (255 - n % 255) = 255 by omega, pw2_255]
  rw [h1, zero_mul] at h2
  exact absurd h2 (by decide)
theorem lg_pw (n : Nat) : lg (pw 2 n) = n % 255 := by
  apply pw2_inj (lg_lt (pw2_ne0 n)) (by omega)
  rw [pw_lg (pw2_ne0 n), ← pw2_mod]
def inv (a : UInt8) : UInt8 := pw a 254
theorem mul_inv {a : UInt8} (h : a ≠ 0) : mul a (inv a) = 1 := by
  unfold inv
  have e : mul a (pw a 254) = pw a 255 := by rw [mul_comm]; rfl
  rw [e, ← pw_lg h, pw_pw, Nat.mul_comm, ← pw_pw, pw2_255, pw_one]
theorem mul_ne0 {a b : UInt8} (ha : a ≠ 0) (hb : b ≠ 0) : mul a b ≠ 0 := by
  rw [← pw_lg ha, ← pw_lg hb, ← pw_add]
  exact pw2_ne0 _
theorem inv_ne0 {a : UInt8} (h : a ≠ 0) : inv a ≠ 0 := by
  intro e
  have := mul_inv h
  rw [e, mul_zero] at this
  exact absurd this (by decide)
end Go.Proofs.YtfgifndpglgjkaaGreatDoor.Gf
