/- Plain linear algebra over the field: equations under row operations, Gauss' way, Cauchy's matrices. No program in sight. -/
import Derived.Test.YtfgifndpglgjkaaGreatDoorZGfSpec
set_option linter.unusedVariables false
set_option linter.unusedSimpArgs false
set_option linter.unusedVariables false
set_option linter.unusedSimpArgs false
namespace Go.Proofs.YtfgifndpglgjkaaGreatDoor.Gf

/-- Sums. -/
def sm : Nat → (Nat → UInt8) → UInt8
  | 0, _ => 0
  | n + 1, f => sm n f ^^^ f n
theorem sm_congr : ∀ {n : Nat} {f g : Nat → UInt8}, (∀ j, j < n → f j = g j) → sm n f = sm n g
  | 0, _, _, _ => rfl
  | n + 1, f, g, h => by
    show sm n f ^^^ f n = sm n g ^^^ g n
    rw [sm_congr (fun j hj => h j (by omega)), h n (by omega)]
theorem xor4 (a b c d : UInt8) : (a ^^^ b) ^^^ (c ^^^ d) = (a ^^^ c) ^^^ (b ^^^ d) := by
  simp only [UInt8.xor_assoc]; rw [xor_lc b c d]
theorem sm_xor : ∀ (n : Nat) (f g : Nat → UInt8), sm n (fun j => f j ^^^ g j) = sm n f ^^^ sm n g
  | 0, _, _ => by simp [sm]
  | n + 1, f, g => by
    show sm n (fun j => f j ^^^ g j) ^^^ (f n ^^^ g n) = (sm n f ^^^ f n) ^^^ (sm n g ^^^ g n)
    rw [sm_xor n f g, xor4]
theorem sm_mul (c : UInt8) : ∀ (n : Nat) (f : Nat → UInt8), sm n (fun j => mul c (f j)) = mul c (sm n f)
  | 0, _ => by simp [sm, mul_zero]
  | n + 1, f => by
    show sm n (fun j => mul c (f j)) ^^^ mul c (f n) = mul c (sm n f ^^^ f n)
    rw [sm_mul c n f, mul_xor]
theorem sm_zero : ∀ (n : Nat), sm n (fun _ => 0) = 0
  | 0 => rfl
  | n + 1 => by show sm n _ ^^^ 0 = 0; rw [sm_zero n]; rfl
theorem sm_none {n : Nat} {f : Nat → UInt8} (h : ∀ j, j < n → f j = 0) : sm n f = 0 := by rw [sm_congr h, sm_zero]
theorem sm_only {n k : Nat} {f : Nat → UInt8} (hk : k < n) (h : ∀ j, j < n → j ≠ k → f j = 0) : sm n f = f k := by
  induction n with
  | zero => omega
  | succ n ih =>
    show sm n f ^^^ f n = f k
    by_cases e : k = n
    · subst e
      rw [sm_none (fun j hj => h j (by omega) (by omega)), UInt8.zero_xor]
    · rw [ih (by omega) (fun j hj hne => h j (by omega) hne), h n (by omega) (by omega), UInt8.xor_zero]

abbrev Mt := Nat → Nat → UInt8
def idm : Mt := fun i j => if i = j then 1 else 0
/-- A matrix times a column. -/
def ap (n : Nat) (A : Mt) (x : Nat → UInt8) (i : Nat) : UInt8 := sm n (fun j => mul (A i j) (x j))
theorem ap_congr {n : Nat} {A B : Mt} {x y : Nat → UInt8} {i : Nat} (h : ∀ j, j < n → A i j = B i j) (k : ∀ j, j < n → x j = y j) : ap n A x i = ap n B y i :=
  sm_congr fun j hj => by rw [h j hj, k j hj]
theorem ap_idm {n : Nat} (x : Nat → UInt8) {i : Nat} (hi : i < n) : ap n idm x i = x i := by
  unfold ap
  rw [sm_only hi (fun j _ hne => by simp [idm, Ne.symm hne, zero_mul])]
  simp [idm, one_mul]
theorem ap_zero (n : Nat) (A : Mt) (i : Nat) : ap n A (fun _ => 0) i = 0 := sm_none fun j _ => mul_zero _
theorem ap_unit {n : Nat} (A : Mt) (i : Nat) {k : Nat} (hk : k < n) : ap n A (fun j => idm j k) i = A i k := by
  unfold ap
  rw [sm_only hk (fun j _ hne => by simp [idm, hne, mul_zero])]
  simp [idm, mul_one]

def swapR (A : Mt) (k p : Nat) : Mt := fun i => if i = k then A p else if i = p then A k else A i
def scaleR (A : Mt) (k : Nat) (c : UInt8) : Mt := fun i => if i = k then fun j => mul (A k j) c else A i
def mixR (A : Mt) (i k : Nat) (y : UInt8) : Mt := fun r => if r = i then fun j => A i j ^^^ mul (A k j) y else A r
def Eqs (n : Nat) (A O : Mt) (x y : Nat → UInt8) : Prop := ∀ i, i < n → ap n A x i = ap n O y i

theorem ap_swap (n : Nat) (A : Mt) (k p : Nat) (x : Nat → UInt8) (i : Nat) : ap n (swapR A k p) x i = if i = k then ap n A x p else if i = p then ap n A x k else ap n A x i := by
  unfold ap swapR
  by_cases h : i = k
  · simp [h]
  · by_cases h' : i = p
    · rw [if_neg h, if_neg h, if_pos h', if_pos h']
    · rw [if_neg h, if_neg h, if_neg h', if_neg h']
theorem ap_scale (n : Nat) (A : Mt) (k : Nat) (c : UInt8) (x : Nat → UInt8) (i : Nat) : ap n (scaleR A k c) x i = if i = k then mul c (ap n A x k) else ap n A x i := by
  unfold ap scaleR
  by_cases h : i = k
  · subst h
    simp only [if_true]
    rw [← sm_mul]
    exact sm_congr fun j _ => by rw [mul_comm (A i j) c, mul_assoc]
  · simp [h]
theorem ap_mix (n : Nat) (A : Mt) (i k : Nat) (y : UInt8) (x : Nat → UInt8) (r : Nat) : ap n (mixR A i k y) x r = if r = i then ap n A x i ^^^ mul y (ap n A x k) else ap n A x r := by
  unfold ap mixR
  by_cases h : r = i
  · subst h
    simp only [if_true]
    rw [← sm_mul, ← sm_xor]
    exact sm_congr fun j _ => by rw [xor_mul, mul_comm (A k j) y, mul_assoc]
  · simp [h]

theorem eqs_swap {n : Nat} {A O : Mt} {k p : Nat} (hk : k < n) (hp : p < n) (x y : Nat → UInt8) : Eqs n (swapR A k p) (swapR O k p) x y ↔ Eqs n A O x y := by
  constructor
  · intro h i hi
    by_cases e : i = k
    · subst e
      have := h p hp
      rw [ap_swap, ap_swap] at this
      by_cases e' : p = i
      · simpa [e'] using this
      · simpa [e'] using this
    · by_cases e' : i = p
      · subst e'
        have := h k hk
        rw [ap_swap, ap_swap] at this
        simpa using this
      · have := h i hi
        rw [ap_swap, ap_swap] at this
        simpa [e, e'] using this
  · intro h i hi
    rw [ap_swap, ap_swap, h p hp, h k hk, h i hi]
theorem eqs_scale {n : Nat} {A O : Mt} {k : Nat} (hk : k < n) {c : UInt8} (hc : c ≠ 0) (x y : Nat → UInt8) : Eqs n (scaleR A k c) (scaleR O k c) x y ↔ Eqs n A O x y := by
  constructor
  · intro h i hi
    have := h i hi
    rw [ap_scale, ap_scale] at this
    by_cases e : i = k
    · subst e
      simp only [if_true] at this
      have h2 := congrArg (mul (inv c)) this
      rw [← mul_assoc, ← mul_assoc, mul_comm (inv c) c, mul_inv hc, one_mul, one_mul] at h2
      exact h2
    · simpa [e] using this
  · intro h i hi
    rw [ap_scale, ap_scale, h k hk, h i hi]
theorem eqs_mix {n : Nat} {A O : Mt} {i k : Nat} (hk : k < n) (hi : i < n) (hik : i ≠ k) (c : UInt8) (x y : Nat → UInt8) : Eqs n (mixR A i k c) (mixR O i k c) x y ↔ Eqs n A O x y := by
  constructor
  · intro h r hr
    have h1 := h r hr
    rw [ap_mix, ap_mix] at h1
    by_cases e : r = i
    · subst e
      have h2 := h k hk
      rw [ap_mix, ap_mix, if_neg (Ne.symm hik), if_neg (Ne.symm hik)] at h2
      simp only [if_true] at h1
      rw [h2] at h1
      have h3 := congrArg (· ^^^ mul c (ap n O y k)) h1
      simpa only [UInt8.xor_assoc, xor_cancel, UInt8.xor_zero] using h3
    · simpa [e] using h1
  · intro h r hr
    rw [ap_mix, ap_mix, h i hi, h k hk, h r hr]

/-- Rows below i are freed of column k. -/
def elim (k : Nat) : Nat → Mt × Mt → Mt × Mt
  | 0, s => s
  | i + 1, s =>
    if i ≠ k ∧ (elim k i s).1 i k ≠ 0 then (mixR (elim k i s).1 i k ((elim k i s).1 i k), mixR (elim k i s).2 i k ((elim k i s).1 i k)) else elim k i s
theorem elim_row (k : Nat) (s : Mt × Mt) : ∀ (i r : Nat), (i ≤ r ∨ r = k) → (elim k i s).1 r = s.1 r ∧ (elim k i s).2 r = s.2 r
  | 0, _, _ => ⟨rfl, rfl⟩
  | i + 1, r, h => by
    have ih := elim_row k s i r (by omega)
    unfold elim
    split
    · rename_i hc
      have hr : r ≠ i := by omega
      simp [mixR, hr, ih.1, ih.2]
    · exact ih
theorem elim_zero (k : Nat) (s : Mt × Mt) (h1 : s.1 k k = 1) : ∀ (i r : Nat), r < i → r ≠ k → (elim k i s).1 r k = 0
  | 0, _, h, _ => by omega
  | i + 1, r, h, hr => by
    unfold elim
    have hk := (elim_row k s i k (.inr rfl)).1
    split
    · rename_i hc
      by_cases e : r = i
      · subst e
        simp only [mixR, if_true]
        rw [hk, h1, one_mul, xor_cancel]
      · simp only [mixR, if_neg e]
        exact elim_zero k s h1 i r (by omega) hr
    · rename_i hc
      by_cases e : r = i
      · subst e
        by_cases h0 : (elim k r s).1 r k = 0
        · exact h0
        · exact absurd ⟨hr, h0⟩ hc
      · exact elim_zero k s h1 i r (by omega) hr
theorem elim_col (k : Nat) (s : Mt × Mt) {j : Nat} (hj : s.1 k j = 0) : ∀ (i r : Nat), (elim k i s).1 r j = s.1 r j
  | 0, _ => rfl
  | i + 1, r => by
    unfold elim
    have hk := (elim_row k s i k (.inr rfl)).1
    split
    · by_cases e : r = i
      · subst e
        simp only [mixR, if_true]
        rw [hk, hj, zero_mul, UInt8.xor_zero]
        exact elim_col k s hj r r
      · simp only [mixR, if_neg e]
        exact elim_col k s hj i r
    · exact elim_col k s hj i r
theorem elim_eqs {n k : Nat} (hk : k < n) (s : Mt × Mt) (x y : Nat → UInt8) : ∀ i, i ≤ n → (Eqs n (elim k i s).1 (elim k i s).2 x y ↔ Eqs n s.1 s.2 x y)
  | 0, _ => Iff.rfl
  | i + 1, hi => by
    have ih := elim_eqs hk s x y i (by omega)
    unfold elim
    split
    · rename_i hc
      exact (eqs_mix hk (by omega) hc.1 _ x y).trans ih
    · exact ih

/-- The first row from k on that does not begin with 0 in column k; n: there is none. -/
def pivF (n : Nat) (A : Mt) (k : Nat) : Nat → Nat → Nat
  | 0, p => p
  | f + 1, p => if p < n ∧ A p k = 0 then pivF n A k f (p + 1) else p
def piv (n : Nat) (A : Mt) (k : Nat) : Nat := pivF n A k (n - k) k
theorem pivF_stop {n : Nat} {A : Mt} {k p : Nat} (f : Nat) (h : ¬ (p < n ∧ A p k = 0)) : pivF n A k f p = p := by
  cases f with
  | zero => rfl
  | succ f => unfold pivF; rw [if_neg h]
theorem pivF_spec (n : Nat) (A : Mt) (k : Nat) : ∀ (f p q : Nat), p ≤ q → q ≤ n → n ≤ p + f → (∀ r, p ≤ r → r < q → A r k = 0) → (q < n → A q k ≠ 0) → pivF n A k f p = q
  | 0, p, q, h1, h2, h3, _, _ => by simp [pivF]; omega
  | f + 1, p, q, h1, h2, h3, h4, h5 => by
    by_cases e : p = q
    · subst e
      exact pivF_stop _ (fun h => h5 h.1 h.2)
    · unfold pivF
      rw [if_pos ⟨by omega, h4 p (Nat.le_refl _) (by omega)⟩]
      exact pivF_spec n A k f (p + 1) q (by omega) h2 (by omega) (fun r hr hr' => h4 r (by omega) hr') h5
theorem piv_of {n k : Nat} {A : Mt} {q : Nat} (h1 : k ≤ q) (h2 : q ≤ n) (h4 : ∀ r, k ≤ r → r < q → A r k = 0) (h5 : q < n → A q k ≠ 0) : piv n A k = q :=
  pivF_spec n A k (n - k) k q h1 h2 (by omega) h4 h5
theorem pivF_is (n : Nat) (A : Mt) (k : Nat) : ∀ (f p : Nat), p ≤ n → n ≤ p + f → p ≤ pivF n A k f p ∧ pivF n A k f p ≤ n ∧ (∀ r, p ≤ r → r < pivF n A k f p → A r k = 0) ∧ (pivF n A k f p < n → A (pivF n A k f p) k ≠ 0)
  | 0, p, h1, h2 => by simp only [pivF]; exact ⟨by omega, by omega, fun r _ _ => by omega, fun h => by omega⟩
  | f + 1, p, h1, h2 => by
    unfold pivF
    split
    · rename_i hc
      have ih := pivF_is n A k f (p + 1) (by omega) (by omega)
      refine ⟨by omega, ih.2.1, fun r hr hr' => ?_, ih.2.2.2⟩
      by_cases e : r = p
      · rw [e]; exact hc.2
      · exact ih.2.2.1 r (by omega) hr'
    · rename_i hc
      exact ⟨by omega, h1, fun r _ _ => by omega, fun h e => hc ⟨h, e⟩⟩
theorem piv_is {n k : Nat} (A : Mt) (h : k ≤ n) : k ≤ piv n A k ∧ piv n A k ≤ n ∧ (∀ r, k ≤ r → r < piv n A k → A r k = 0) ∧ (piv n A k < n → A (piv n A k) k ≠ 0) :=
  pivF_is n A k (n - k) k h (by omega)

/-- One column, one and all. -/
def gscale (k p : Nat) (s : Mt × Mt) : Mt × Mt :=
  (scaleR (swapR s.1 k p) k (inv (swapR s.1 k p k k)), scaleR (swapR s.2 k p) k (inv (swapR s.1 k p k k)))
def gstep (n k : Nat) (s : Mt × Mt) : Mt × Mt := elim k n (gscale k (piv n s.1 k) s)
def gauss (n : Nat) (A : Mt) : Nat → Option (Mt × Mt)
  | 0 => some (A, idm)
  | k + 1 => match gauss n A k with
    | none => none
    | some s => if piv n s.1 k < n then some (gstep n k s) else none
theorem gauss_none {n : Nat} {A : Mt} {k : Nat} (h : gauss n A k = none) : ∀ j, gauss n A (k + j) = none
  | 0 => h
  | j + 1 => by show (match gauss n A (k + j) with | none => none | some s => _) = none; rw [gauss_none h j]
theorem gauss_fail {n : Nat} {A : Mt} {k : Nat} {s : Mt × Mt} (hk : k < n) (h : gauss n A k = some s) (hp : n ≤ piv n s.1 k) : gauss n A n = none := by
  have : gauss n A (k + 1) = none := by
    show (match gauss n A k with | none => none | some s => if piv n s.1 k < n then some (gstep n k s) else none) = none
    rw [h]
    exact if_neg (by omega)
  have h2 := gauss_none this (n - (k + 1))
  rwa [show k + 1 + (n - (k + 1)) = n by omega] at h2
theorem gauss_succ {n : Nat} {A : Mt} {k : Nat} {s : Mt × Mt} (h : gauss n A k = some s) (hp : piv n s.1 k < n) : gauss n A (k + 1) = some (gstep n k s) := by
  show (match gauss n A k with | none => none | some s => if piv n s.1 k < n then some (gstep n k s) else none) = _
  rw [h]
  exact if_pos hp

/-- The first k columns are the unit's. -/
def Uni (n k : Nat) (A : Mt) : Prop := ∀ j, j < k → ∀ i, i < n → A i j = idm i j
theorem idm_ne {i j : Nat} (h : i ≠ j) : idm i j = 0 := by simp [idm, h]
theorem uni_step {n k : Nat} {s : Mt × Mt} (hk : k < n) (hu : Uni n k s.1) (hp : piv n s.1 k < n) : Uni n (k + 1) (gstep n k s).1 := by
  have ⟨p1, p2, p3, p4⟩ := piv_is s.1 (Nat.le_of_lt hk)
  have p5 := p4 hp
  generalize hpp : piv n s.1 k = p at *
  have hkk : swapR s.1 k p k k = s.1 p k := by simp [swapR]
  have e1 : (gscale k p s).1 k k = 1 := by
    simp only [gscale, scaleR, if_true]
    rw [hkk, mul_inv p5]
  unfold gstep
  rw [hpp]
  intro j hj i hi
  by_cases e : j = k
  · subst e
    by_cases e' : i = j
    · subst e'
      rw [(elim_row i _ n i (.inr rfl)).1, e1]
      simp [idm]
    · rw [elim_zero j _ e1 n i hi e', idm_ne e']
  · have hjk : j < k := by omega
    have z0 : s.1 k j = 0 := by rw [hu j hjk k hk, idm_ne (by omega)]
    have zp : s.1 p j = 0 := by rw [hu j hjk p hp, idm_ne (by omega)]
    have zk : (gscale k p s).1 k j = 0 := by
      simp only [gscale, scaleR, if_true]
      rw [show swapR s.1 k p k j = s.1 p j by simp [swapR], zp, zero_mul]
    rw [elim_col k _ zk]
    by_cases e' : i = k
    · subst e'
      rw [zk, idm_ne (by omega)]
    · simp only [gscale, scaleR, if_neg e', swapR]
      by_cases e2 : i = p
      · rw [if_pos e2, z0, idm_ne (by omega)]
      · rw [if_neg e2, hu j hjk i hi]
theorem gauss_inv {n : Nat} {A : Mt} : ∀ {k : Nat} {s : Mt × Mt}, k ≤ n → gauss n A k = some s → Uni n k s.1 ∧ ∀ x y, Eqs n s.1 s.2 x y ↔ Eqs n A idm x y
  | 0, s, _, h => by
    obtain rfl : (A, idm) = s := by simpa [gauss] using h
    exact ⟨fun j hj => by omega, fun x y => Iff.rfl⟩
  | k + 1, s, hk, h => by
    cases hg : gauss n A k with
    | none => rw [gauss, hg] at h; cases h
    | some t =>
      by_cases hp : piv n t.1 k < n
      · rw [gauss_succ hg hp] at h
        cases h
        obtain ⟨hu, he⟩ := gauss_inv (by omega) hg
        refine ⟨uni_step (by omega) hu hp, fun x y => ?_⟩
        have p4 := (piv_is t.1 (show k ≤ n by omega)).2.2.2 hp
        unfold gstep
        rw [elim_eqs (by omega) _ x y n (Nat.le_refl _)]
        unfold gscale
        dsimp only
        rw [eqs_scale (by omega) (inv_ne0 (by simp [swapR]; exact p4)), eqs_swap (by omega) hp]
        exact he x y
      · rw [gauss, hg] at h
        dsimp only at h
        rw [if_neg hp] at h
        cases h

/-- The inverse undoes, from both sides. -/
theorem gauss_solve {n : Nat} {A : Mt} {s : Mt × Mt} (h : gauss n A n = some s) (x y : Nat → UInt8) : (∀ i, i < n → x i = ap n s.2 y i) ↔ (∀ i, i < n → ap n A x i = y i) := by
  obtain ⟨hu, he⟩ := gauss_inv (Nat.le_refl _) h
  have := he x y
  unfold Eqs at this
  have e1 : ∀ i, i < n → ap n s.1 x i = x i := fun i hi => by rw [← ap_idm x hi]; exact ap_congr (fun j hj => hu j hj i hi) (fun _ _ => rfl)
  constructor
  · intro k i hi
    rw [← ap_idm y hi]
    exact this.1 (fun i hi => by rw [e1 i hi, k i hi]) i hi
  · intro k i hi
    rw [← e1 i hi]
    exact this.2 (fun i hi => by rw [k i hi, ap_idm y hi]) i hi
theorem gauss_left {n : Nat} {A : Mt} {s : Mt × Mt} (h : gauss n A n = some s) (x : Nat → UInt8) {i : Nat} (hi : i < n) : ap n s.2 (ap n A x) i = x i :=
  ((gauss_solve h x (ap n A x)).2 (fun _ _ => rfl) i hi).symm
theorem gauss_right {n : Nat} {A : Mt} {s : Mt × Mt} (h : gauss n A n = some s) (y : Nat → UInt8) {i : Nat} (hi : i < n) : ap n A (ap n s.2 y) i = y i :=
  (gauss_solve h (ap n s.2 y) y).1 (fun _ _ => rfl) i hi
/-- Products of matrices, column by column. -/
def times (n : Nat) (A B : Mt) : Mt := fun i j => sm n (fun k => mul (A i k) (B k j))
theorem times_col (n : Nat) (A B : Mt) (i j : Nat) : times n A B i j = ap n A (fun k => B k j) i := rfl
theorem gauss_times {n : Nat} {A : Mt} {s : Mt × Mt} (h : gauss n A n = some s) {i j : Nat} (hi : i < n) (hj : j < n) : times n A s.2 i j = idm i j ∧ times n s.2 A i j = idm i j := by
  constructor
  · rw [times_col, ← gauss_right h (fun k => idm k j) hi]
    exact ap_congr (fun _ _ => rfl) (fun k hk => by rw [ap_unit _ _ hj])
  · rw [times_col, ← gauss_left h (fun k => idm k j) hi]
    exact ap_congr (fun _ _ => rfl) (fun k hk => by rw [ap_unit _ _ hj])

/-- Where Gauss' way fails, something but 0 becomes 0. -/
theorem gauss_kernel {n : Nat} {A : Mt} (h : gauss n A n = none) : ∃ x : Nat → UInt8, (∃ i, i < n ∧ x i ≠ 0) ∧ ∀ i, i < n → ap n A x i = 0 := by
  obtain ⟨k, s, hk, hg, hp⟩ : ∃ k s, k < n ∧ gauss n A k = some s ∧ n ≤ piv n s.1 k := by
    have : ∀ m, m ≤ n → (∃ k s, k < n ∧ gauss n A k = some s ∧ n ≤ piv n s.1 k) ∨ ∃ s, gauss n A m = some s := by
      intro m
      induction m with
      | zero => exact fun _ => .inr ⟨_, rfl⟩
      | succ m ih =>
        intro hm
        rcases ih (by omega) with h | ⟨s, hs⟩
        · exact .inl h
        · by_cases hp : piv n s.1 m < n
          · exact .inr ⟨_, gauss_succ hs hp⟩
          · exact .inl ⟨m, s, by omega, hs, by omega⟩
    rcases this n (Nat.le_refl _) with h' | ⟨s, hs⟩
    · exact h'
    · rw [h] at hs; cases hs
  obtain ⟨hu, he⟩ := gauss_inv (by omega) hg
  have ⟨_, _, p3, _⟩ := piv_is s.1 (show k ≤ n by omega)
  let x : Nat → UInt8 := fun j => if j < k then s.1 j k else if j = k then 1 else 0
  have hx : ∀ i, i < n → ap n s.1 x i = 0 := by
    intro i hi
    by_cases hik : i < k
    · have e : ap n s.1 x i = sm n (fun j => (if j = i then s.1 i k else 0) ^^^ (if j = k then s.1 i k else 0)) := by
        apply sm_congr
        intro j hj
        dsimp only [x]
        by_cases hjk : j < k
        · rw [if_pos hjk, hu j hjk i hi]
          by_cases e : j = i
          · rw [e, if_pos rfl, if_neg (by omega : ¬ i = k), UInt8.xor_zero]; simp [idm, one_mul]
          · rw [idm_ne (Ne.symm e), zero_mul, if_neg e, if_neg (by omega)]; rfl
        · rw [if_neg hjk]
          by_cases e : j = k
          · rw [e, if_pos rfl, if_pos rfl, if_neg (by omega : ¬ k = i), UInt8.zero_xor, mul_one]
          · rw [if_neg e, mul_zero, if_neg (by omega), if_neg e]; rfl
      rw [e, sm_xor, sm_only hi (fun j _ hne => if_neg hne), sm_only hk (fun j _ hne => if_neg hne)]
      simp
    · apply sm_none
      intro j hj
      dsimp only [x]
      by_cases hjk : j < k
      · rw [hu j hjk i hi, idm_ne (by omega), zero_mul]
      · by_cases e : j = k
        · subst e; rw [p3 i (by omega) (by omega), zero_mul]
        · rw [if_neg hjk, if_neg e, mul_zero]
  refine ⟨x, ⟨k, hk, by dsimp only [x]; rw [if_neg (by omega), if_pos rfl]; decide⟩, fun i hi => ?_⟩
  have := (he x (fun _ => 0)).1 (fun i hi => by rw [hx i hi, ap_zero]) i hi
  rw [this, ap_zero]

theorem xor_ne {a b : UInt8} (h : a ≠ b) : a ^^^ b ≠ 0 := fun e => h (by
  have k : a ^^^ b ^^^ b = 0 ^^^ b := by rw [e]
  rwa [UInt8.xor_assoc, UInt8.xor_self, UInt8.xor_zero, UInt8.zero_xor] at k)
/-- Cauchy's equations have no solution but 0. The list: a column's element, its unknown. -/
def csum (a : UInt8) : List (UInt8 × UInt8) → UInt8
  | [] => 0
  | (b, x) :: l => mul x (inv (a ^^^ b)) ^^^ csum a l
theorem mul_can {p q : UInt8} (h : mul p q = 1) (y : UInt8) : mul p (mul y q) = y := by rw [mul_comm y, ← mul_assoc, h, one_mul]
theorem two_inv {a b c : UInt8} (x : UInt8) (h1 : a ≠ b) (h2 : c ≠ b) : mul x (inv (a ^^^ b)) ^^^ mul x (inv (c ^^^ b)) = mul (a ^^^ c) (mul (mul x (inv (c ^^^ b))) (inv (a ^^^ b))) := by
  have n1 := mul_inv (xor_ne h1)
  have n2 := mul_inv (xor_ne h2)
  have e : a ^^^ c = (a ^^^ b) ^^^ (c ^^^ b) := by rw [UInt8.xor_comm c, UInt8.xor_assoc, xor_lself]
  generalize inv (a ^^^ b) = u at *
  generalize inv (c ^^^ b) = v at *
  have e2 : mul (mul x v) u = mul (mul x u) v := by rw [mul_assoc, mul_comm v, ← mul_assoc]
  rw [e, xor_mul, mul_can n1, e2, mul_can n2, UInt8.xor_comm]
theorem csum_add (c a : UInt8) : ∀ (l : List (UInt8 × UInt8)), (∀ q ∈ l, a ≠ q.1 ∧ c ≠ q.1) →
    csum a l ^^^ csum c l = mul (a ^^^ c) (csum a (l.map fun q => (q.1, mul q.2 (inv (c ^^^ q.1)))))
  | [], _ => by simp [csum, mul_zero]
  | (b, x) :: l, h => by
    have ih := csum_add c a l (fun q hq => h q (List.mem_cons_of_mem _ hq))
    have hh := h (b, x) (List.mem_cons_self)
    have h2 := two_inv x hh.1 hh.2
    rw [List.map_cons]
    show (mul x (inv (a ^^^ b)) ^^^ csum a l) ^^^ (mul x (inv (c ^^^ b)) ^^^ csum c l) = mul (a ^^^ c) (mul (mul x (inv (c ^^^ b))) (inv (a ^^^ b)) ^^^ _)
    rw [xor4, ih, mul_xor, h2]
theorem mul_zero_of {a b : UInt8} (h : mul a b = 0) (ha : a ≠ 0) : b = 0 := by
  by_cases hb : b = 0
  · exact hb
  · exact absurd h (mul_ne0 ha hb)
def xs : List (UInt8 × UInt8) → UInt8
  | [] => 0
  | q :: l => q.2 ^^^ xs l
theorem csum_mul (a b : UInt8) : ∀ (l : List (UInt8 × UInt8)), (∀ q ∈ l, a ≠ q.1) → mul (a ^^^ b) (csum a l) = xs l ^^^ csum a (l.map fun q => (q.1, mul q.2 (q.1 ^^^ b)))
  | [], _ => by simp [csum, xs, mul_zero]
  | (c, x) :: l, h => by
    have ih := csum_mul a b l (fun q hq => h q (by simp [hq]))
    have n1 := xor_ne (h (c, x) (by simp))
    simp only [List.map_cons, csum, xs]
    have e : a ^^^ b = (a ^^^ c) ^^^ (c ^^^ b) := by rw [UInt8.xor_assoc, xor_lself]
    have e3 : mul (a ^^^ b) (mul x (inv (a ^^^ c))) = x ^^^ mul (mul x (c ^^^ b)) (inv (a ^^^ c)) := by
      have n2 := mul_inv n1
      generalize inv (a ^^^ c) = u at *
      rw [e, xor_mul, mul_can n2, mul_comm (c ^^^ b), mul_assoc, mul_assoc, mul_comm u]
    rw [mul_xor, ih, e3, xor4]
theorem csum_none (a : UInt8) : ∀ (l : List (UInt8 × UInt8)), (∀ q ∈ l, q.2 = 0) → csum a l = 0
  | [], _ => rfl
  | (c, x) :: l, h => by
    have : x = 0 := h (c, x) (by simp)
    simp only [csum]
    rw [this, zero_mul, csum_none a l (fun q hq => h q (by simp [hq]))]
    rfl
theorem cauchy_zero : ∀ (n : Nat) (l : List (UInt8 × UInt8)) (as : List UInt8), l.length = n → as.length = n → as.Nodup → (l.map Prod.fst).Nodup → (∀ a ∈ as, ∀ q ∈ l, a ≠ q.1) → (∀ a ∈ as, csum a l = 0) → ∀ q ∈ l, q.2 = 0
  | 0, l, as, hl, _, _, _, _, _ => by
    obtain rfl := List.eq_nil_of_length_eq_zero hl
    intro q hq; cases hq
  | n + 1, [], _, hl, _, _, _, _, _ => by simp at hl
  | n + 1, _, [], _, hl, _, _, _, _ => by simp at hl
  | n + 1, (b, x) :: l, a :: as, hl, hm, had, hbd, hne, hz => by
    simp only [List.length_cons] at hl hm
    rw [List.nodup_cons] at had
    rw [List.map_cons, List.nodup_cons] at hbd
    have hab : ∀ q ∈ l, a ≠ q.1 := fun q hq => hne a (by simp) q (by simp [hq])
    -- each equation, times its element and b's
    have key : ∀ c ∈ a :: as, csum c (l.map fun q => (q.1, mul q.2 (q.1 ^^^ b))) = xs ((b, x) :: l) := by
      intro c hc
      have h1 := hz c hc
      simp only [csum] at h1
      have h2 := congrArg (mul (c ^^^ b)) h1
      have n1 := xor_ne (hne c hc (b, x) (by simp))
      rw [mul_zero, mul_xor, csum_mul c b l (fun q hq => hne c hc q (by simp [hq])), mul_comm (c ^^^ b), mul_assoc, mul_comm (inv _), mul_inv n1, mul_one, ← UInt8.xor_assoc] at h2
      have h3 := congrArg (· ^^^ csum c (l.map fun q => (q.1, mul q.2 (q.1 ^^^ b)))) h2
      simp only [UInt8.xor_assoc, UInt8.xor_self, UInt8.xor_zero, UInt8.zero_xor] at h3
      simp only [xs]
      exact h3.symm
    have hmap : ∀ (f : UInt8 × UInt8 → UInt8), (l.map fun q => (q.1, f q)).map Prod.fst = l.map Prod.fst := fun f => by simp [Function.comp_def]
    have step := cauchy_zero n ((l.map fun q => (q.1, mul q.2 (q.1 ^^^ b))).map fun q => (q.1, mul q.2 (inv (a ^^^ q.1)))) as (by simp; omega) (by omega) had.2
      (by simpa [Function.comp_def] using hbd.2)
      (by
        intro c hc q hq
        simp only [List.mem_map] at hq
        obtain ⟨q', ⟨q'', hq'', rfl⟩, rfl⟩ := hq
        exact hne c (by simp [hc]) q'' (by simp [hq'']))
      (by
        intro c hc
        have hca : c ≠ a := fun e => had.1 (e ▸ hc)
        have h1 := csum_add a c (l.map fun q => (q.1, mul q.2 (q.1 ^^^ b))) (by
          intro q hq
          simp only [List.mem_map] at hq
          obtain ⟨q', hq', rfl⟩ := hq
          exact ⟨hne c (by simp [hc]) q' (by simp [hq']), hab q' hq'⟩)
        rw [key c (by simp [hc]), key a (by simp), UInt8.xor_self] at h1
        exact mul_zero_of h1.symm (xor_ne hca))
    have hl0 : ∀ q ∈ l, q.2 = 0 := by
      intro q hq
      have h1 := step (q.1, mul (mul q.2 (q.1 ^^^ b)) (inv (a ^^^ q.1))) (by
        simp only [List.mem_map]
        exact ⟨(q.1, mul q.2 (q.1 ^^^ b)), ⟨q, hq, rfl⟩, rfl⟩)
      dsimp only at h1
      rw [mul_comm] at h1
      have h2 := mul_zero_of h1 (inv_ne0 (xor_ne (hab q hq)))
      rw [mul_comm] at h2
      refine mul_zero_of h2 (xor_ne fun e => hbd.1 ?_)
      have hm := List.mem_map_of_mem (f := Prod.fst) hq
      rw [e] at hm
      exact hm
    intro q hq
    rcases List.mem_cons.1 hq with e | hq
    · subst e
      have h1 := hz a (by simp)
      simp only [csum] at h1
      rw [csum_none a l hl0, UInt8.xor_zero, mul_comm] at h1
      exact mul_zero_of h1 (inv_ne0 (xor_ne (hne a (by simp) (b, x) (by simp))))
    · exact hl0 q hq
end Go.Proofs.YtfgifndpglgjkaaGreatDoor.Gf
