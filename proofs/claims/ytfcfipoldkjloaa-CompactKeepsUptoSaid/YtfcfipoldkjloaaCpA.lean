/- compact, plain: Run parts a list. -/
import Derived.Test.YtfcfipoldkjloaaCgR
set_option maxRecDepth 100000
set_option linter.unusedVariables false
set_option linter.unusedSimpArgs false
namespace Go.Proofs.Ytfcfipoldkjloaa

def Cp.wt (e : Ent) : Nat := e.key.length + e.val.length + 16
/-- Is the key of the next one another one? (None: the list is at its end.) -/
def Cp.ends (size s : Nat) (x : Ent) : List Ent → Bool
  | [] => true
  | y :: _ => decide (size ≤ s) && decide (y.key ≠ x.key)
def Cp.cut (size : Nat) : List Ent → List Ent → Nat → List (List Ent)
  | [], _, _ => []
  | x :: rest, cur, sum => if Cp.ends size (sum + Cp.wt x) x rest = true then (cur ++ [x]) :: Cp.cut size rest [] 0 else Cp.cut size rest (cur ++ [x]) (sum + Cp.wt x)
theorem Cp.cut_flatten (size : Nat) : ∀ (l cur : List Ent) (sum : Nat), l ≠ [] → (Cp.cut size l cur sum).flatten = cur ++ l
  | [], _, _, h => absurd rfl h
  | x :: rest, cur, sum, _ => by
    unfold Cp.cut
    by_cases e : Cp.ends size (sum + Cp.wt x) x rest = true
    · rw [if_pos e, List.flatten_cons]
      cases rest with
      | nil => simp [Cp.cut]
      | cons y r => rw [Cp.cut_flatten size (y :: r) [] 0 (by simp)]; simp
    · rw [if_neg e]
      cases rest with
      | nil => simp [Cp.ends] at e
      | cons y r => rw [Cp.cut_flatten size (y :: r) (cur ++ [x]) _ (by simp)]; simp
theorem Cp.cut_ne (size : Nat) : ∀ (l cur : List Ent) (sum : Nat), ∀ p ∈ Cp.cut size l cur sum, p ≠ []
  | [], _, _, p, h => by simp [Cp.cut] at h
  | x :: rest, cur, sum, p, h => by
    unfold Cp.cut at h
    by_cases e : Cp.ends size (sum + Cp.wt x) x rest = true
    · rw [if_pos e] at h
      rcases List.mem_cons.1 h with rfl | h
      · simp
      · exact Cp.cut_ne size rest [] 0 p h
    · rw [if_neg e] at h
      exact Cp.cut_ne size rest _ _ p h
/-- The first part begins with what was gathered, and goes on with the list. -/
theorem Cp.cut_head (size : Nat) : ∀ (l cur : List Ent) (sum : Nat) (p : List Ent) (ps : List (List Ent)), Cp.cut size l cur sum = p :: ps → ∃ t r, t ≠ [] ∧ p = cur ++ t ∧ l = t ++ r
  | [], _, _, p, ps, h => by simp [Cp.cut] at h
  | x :: rest, cur, sum, p, ps, h => by
    unfold Cp.cut at h
    by_cases e : Cp.ends size (sum + Cp.wt x) x rest = true
    · rw [if_pos e] at h
      cases h
      exact ⟨[x], rest, by simp, rfl, rfl⟩
    · rw [if_neg e] at h
      obtain ⟨t, r, h1, h2, h3⟩ := Cp.cut_head size rest _ _ p ps h
      exact ⟨x :: t, r, by simp, by rw [h2]; simp, by rw [h3]; rfl⟩
/-- No key is at the end of one part and at the head of the next. -/
theorem Cp.cut_apart (size : Nat) : ∀ (l cur : List Ent) (sum : Nat), ∀ (a : List (List Ent)) (p q : List Ent) (b : List (List Ent)), Cp.cut size l cur sum = a ++ p :: q :: b → ∀ x y, p.getLast? = some x → q.head? = some y → x.key ≠ y.key
  | [], _, _ => by simp [Cp.cut]
  | z :: rest, cur, sum => by
    intro a p q b h x y hx hy
    unfold Cp.cut at h
    by_cases e : Cp.ends size (sum + Cp.wt z) z rest = true
    · rw [if_pos e] at h
      cases a with
      | nil =>
        simp only [List.nil_append, List.cons.injEq] at h
        obtain ⟨rfl, h⟩ := h
        obtain ⟨t, r, h1, h2, h3⟩ := Cp.cut_head size rest [] 0 q b h
        simp at hx h2
        subst hx h2
        cases rest with
        | nil => simp at h3; exact absurd h3.1 h1
        | cons y' r' =>
          cases q with
          | nil => exact absurd rfl h1
          | cons q0 qs =>
            simp at hy h3
            obtain ⟨rfl, _⟩ := h3
            subst hy
            simp [Cp.ends] at e
            exact fun k => e.2 k.symm
      | cons a0 ar =>
        simp only [List.cons_append, List.cons.injEq] at h
        exact Cp.cut_apart size rest [] 0 ar p q b h.2 x y hx hy
    · rw [if_neg e] at h
      exact Cp.cut_apart size rest _ _ a p q b h x y hx hy
/-- The keys of the parts rise. -/
theorem Cp.cut_rise {size : Nat} {l : List Ent} (hs : l.Pairwise Ent.lt) {i : Nat} (h0 : 0 < i) (hi : i < (Cp.cut size l [] 0).length) :
    Ent.klt (nth (nth (Cp.cut size l [] 0) (i - 1)) ((nth (Cp.cut size l [] 0) (i - 1)).length - 1)).key (nth (nth (Cp.cut size l [] 0) i) 0).key = true := by
  have hl : l ≠ [] := fun e => by subst e; simp [Cp.cut] at hi
  have hf := Cp.cut_flatten size l [] 0 hl
  have hne := Cp.cut_ne size l [] 0
  have hap := Cp.cut_apart size l [] 0
  generalize Cp.cut size l [] 0 = ps at *
  have e1 : ps = ps.take (i - 1) ++ nth ps (i - 1) :: nth ps i :: ps.drop (i + 1) := by
    have h1 := List.take_append_drop (i - 1) ps
    rw [List.drop_eq_getElem_cons (by omega), List.drop_eq_getElem_cons (by omega)] at h1
    rw [nth_eq _ (by omega), nth_eq _ hi]
    have e2 : i - 1 + 1 = i := by omega
    simp only [e2] at h1
    exact h1.symm
  have hp : nth ps (i - 1) ≠ [] := hne _ (by rw [nth_eq _ (by omega)]; exact List.getElem_mem _)
  have hq : nth ps i ≠ [] := hne _ (by rw [nth_eq _ hi]; exact List.getElem_mem _)
  generalize nth ps (i - 1) = p at *
  generalize nth ps i = q at *
  have hpl : 0 < p.length := List.length_pos_iff.2 hp
  have hql : 0 < q.length := List.length_pos_iff.2 hq
  have k1 : p.getLast? = some (nth p (p.length - 1)) := by rw [List.getLast?_eq_getElem?, nth_eq _ (by omega), List.getElem?_eq_getElem]
  have k2 : q.head? = some (nth q 0) := by rw [List.head?_eq_getElem?, nth_eq _ hql, List.getElem?_eq_getElem]
  have h2 := hap _ p q _ e1 _ _ k1 k2
  have h3 : Ent.lt (nth p (p.length - 1)) (nth q 0) := by
    simp only [List.nil_append] at hf
    rw [← hf, e1] at hs
    simp only [List.flatten_append, List.flatten_cons] at hs
    rw [List.pairwise_append] at hs
    have h4 := hs.2.1
    rw [List.pairwise_append] at h4
    refine h4.2.2 _ ?_ _ ?_
    · rw [nth_eq _ (by omega)]; exact List.getElem_mem _
    · rw [List.mem_append]; left; rw [nth_eq _ hql]; exact List.getElem_mem _
  rcases h3 with h3 | h3
  · exact h3
  · exact absurd h3.1 h2
theorem Cp.cut_all (size : Nat) (l : List Ent) : (Cp.cut size l [] 0).flatten = l := by
  cases l with
  | nil => rfl
  | cons x l => exact Cp.cut_flatten size (x :: l) [] 0 (by simp)
theorem Cp.cut_len (size : Nat) : ∀ (l cur : List Ent) (sum : Nat), (Cp.cut size l cur sum).length ≤ l.length
  | [], _, _ => Nat.le_refl _
  | x :: rest, cur, sum => by
    unfold Cp.cut
    by_cases e : Cp.ends size (sum + Cp.wt x) x rest = true
    · rw [if_pos e]; have := Cp.cut_len size rest [] 0; simp only [List.length_cons]; omega
    · rw [if_neg e]; have := Cp.cut_len size rest (cur ++ [x]) (sum + Cp.wt x); simp only [List.length_cons]; omega
end Go.Proofs.Ytfcfipoldkjloaa
