/- The order in which versions come: plain laws. -/
import Derived.Test.YtgcealgkhlbgmaaMmL
namespace Go.Proofs.Ytgcealgkhlbgmaa
open Go.RowKit
set_option linter.unusedVariables false

def Ent.addOnce (o : List Ent) (x : Ent) : List Ent := if o.any (fun y => decide (Ent.cmp y x = 0)) then o else o ++ [x]
/-- Those that are unlike all before. -/
def Ent.onceOf (l : List Ent) : List Ent := l.foldl Ent.addOnce []
theorem once_snoc (l : List Ent) (x : Ent) : Ent.onceOf (l ++ [x]) = Ent.addOnce (Ent.onceOf l) x := by simp [Ent.onceOf]
theorem cmp_sym {a b : Ent} (h : Ent.cmp a b ≠ 0) : Ent.cmp b a ≠ 0 := fun e => h (Ent.cmp_eq.2 (by have := Ent.cmp_eq.1 e; exact ⟨this.1.symm, this.2.symm⟩))
theorem once_ind (P : List Ent → List Ent → Prop) (h0 : P [] []) (h1 : ∀ l x, P l (Ent.onceOf l) → P (l ++ [x]) (Ent.addOnce (Ent.onceOf l) x)) : ∀ l, P l (Ent.onceOf l) := by
  intro l
  have : ∀ r : List Ent, P r.reverse (Ent.onceOf r.reverse) := by
    intro r
    induction r with
    | nil => exact h0
    | cons x r ih => rw [List.reverse_cons, once_snoc]; exact h1 _ _ ih
  have h := this l.reverse
  rwa [List.reverse_reverse] at h
theorem once_pair (l : List Ent) : (Ent.onceOf l).Pairwise (fun a b => Ent.cmp a b ≠ 0) := by
  refine once_ind (fun _ o => o.Pairwise (fun a b => Ent.cmp a b ≠ 0)) List.Pairwise.nil (fun l x ih => ?_) l
  unfold Ent.addOnce
  split
  · exact ih
  · rename_i h
    rw [List.pairwise_append]
    refine ⟨ih, by simp, fun a ha b hb => ?_⟩
    rw [List.mem_singleton.1 hb]
    intro e
    exact h (List.any_eq_true.2 ⟨a, ha, by simp [e]⟩)
theorem once_sub (l : List Ent) : ∀ x ∈ Ent.onceOf l, x ∈ l := by
  refine once_ind (fun l o => ∀ x ∈ o, x ∈ l) (fun x h => h) (fun l x ih => ?_) l
  unfold Ent.addOnce
  split
  · exact fun y hy => List.mem_append.2 (.inl (ih y hy))
  · intro y hy
    rcases List.mem_append.1 hy with h | h
    · exact List.mem_append.2 (.inl (ih y h))
    · exact List.mem_append.2 (.inr h)
theorem once_len (l : List Ent) : (Ent.onceOf l).length ≤ l.length := by
  refine once_ind (fun l o => o.length ≤ l.length) (Nat.le_refl _) (fun l x ih => ?_) l
  unfold Ent.addOnce
  split
  · simp; omega
  · simp; omega
theorem once_pos {l : List Ent} (h : 0 < l.length) : 0 < (Ent.onceOf l).length := by
  have : ∀ l : List Ent, l ≠ [] → Ent.onceOf l ≠ [] := once_ind (fun l o => l ≠ [] → o ≠ []) (fun h => absurd rfl h) (fun l x ih _ => by
    unfold Ent.addOnce
    split
    · rename_i h1
      intro e
      rw [e] at h1
      simp at h1
    · simp)
  have h1 := this l (by intro e; rw [e] at h; simp at h)
  exact List.length_pos_iff.2 h1
/-- In turned order. -/
def Ent.rot (o : List Ent) (t : Nat) : List Ent := (List.range o.length).map fun k => nth o ((k + t) % o.length)
theorem rot_mem {o : List Ent} {t : Nat} (x : Ent) : x ∈ Ent.rot o t ↔ x ∈ o := by
  unfold Ent.rot
  rw [List.mem_map]
  constructor
  · rintro ⟨k, hk, rfl⟩
    have hk' := List.mem_range.1 hk
    have hlt : (k + t) % o.length < o.length := Nat.mod_lt _ (by omega)
    rw [nth_eq _ hlt]
    exact List.getElem_mem _
  · intro h
    obtain ⟨j, hj, rfl⟩ := List.mem_iff_getElem.1 h
    have hm : 0 < o.length := by omega
    have ht : t % o.length < o.length := Nat.mod_lt _ hm
    refine ⟨(j + (o.length - t % o.length)) % o.length, List.mem_range.2 (Nat.mod_lt _ hm), ?_⟩
    have e : ((j + (o.length - t % o.length)) % o.length + t) % o.length = j := by
      rw [Nat.add_mod, Nat.mod_mod, ← Nat.add_mod]
      have e1 : j + (o.length - t % o.length) + t = j + o.length * (t / o.length + 1) := by
        have := Nat.div_add_mod t o.length
        rw [Nat.mul_add]
        omega
      rw [e1, Nat.add_mul_mod_self_left, Nat.mod_eq_of_lt hj]
    rw [e, nth_eq _ hj]
theorem rot_pair {o : List Ent} {t : Nat} (hp : o.Pairwise (fun a b => Ent.cmp a b ≠ 0)) : (Ent.rot o t).Pairwise (fun a b => Ent.cmp a b ≠ 0) := by
  unfold Ent.rot
  rw [List.pairwise_map, List.pairwise_iff_getElem]
  intro i j hi hj hij
  simp only [List.length_range] at hi hj
  rw [List.getElem_range, List.getElem_range]
  have h1 : (i + t) % o.length < o.length := Nat.mod_lt _ (by omega)
  have h2 : (j + t) % o.length < o.length := Nat.mod_lt _ (by omega)
  have hne : (i + t) % o.length ≠ (j + t) % o.length := fun e => by
    have e3 : (j + t - (i + t)) % o.length = 0 := Nat.sub_mod_eq_zero_of_mod_eq e.symm
    have e4 : j + t - (i + t) = j - i := by omega
    rw [e4, Nat.mod_eq_of_lt (by omega)] at e3
    omega
  have hp' := List.pairwise_iff_getElem.1 hp
  rw [nth_eq _ h1, nth_eq _ h2]
  rcases Nat.lt_or_gt_of_ne hne with h | h
  · exact hp' _ _ h1 h2 h
  · exact cmp_sym (hp' _ _ h2 h1 h)
theorem map_laid_pair {o : List Ent} (hp : o.Pairwise (fun a b => Ent.cmp a b ≠ 0)) : (o.map Ent.laid).Pairwise (fun a b => Ent.cmp a b ≠ 0) := by
  rw [List.pairwise_map]
  exact hp
theorem orders_same (o : List Ent) (t : Nat) (hp : o.Pairwise (fun a b => Ent.cmp a b ≠ 0)) : Ent.lays [] (o.map Ent.laid) = Ent.lays [] ((Ent.rot o t).map Ent.laid) := by
  refine Ent.sorted_ext (lays_sorted List.Pairwise.nil) (lays_sorted List.Pairwise.nil) fun x => ?_
  rw [lays_mem List.Pairwise.nil (map_laid_pair hp) (fun x h => by cases h), lays_mem List.Pairwise.nil (map_laid_pair (rot_pair hp)) (fun x h => by cases h)]
  simp only [List.not_mem_nil, false_or, List.mem_map]
  constructor
  · rintro ⟨y, hy, rfl⟩; exact ⟨y, (rot_mem y).2 hy, rfl⟩
  · rintro ⟨y, hy, rfl⟩; exact ⟨y, (rot_mem y).1 hy, rfl⟩
theorem lays_fine (es : List Ent) : ∀ e ∈ Ent.lays [] (es.map Ent.laid), ¬ (e.gone = true ∧ 0 < e.val.length) := fun e he => by
  rcases lays_any he with h | h
  · cases h
  · obtain ⟨y, _, rfl⟩ := List.mem_map.1 h
    exact laid_fine y
end Go.Proofs.Ytgcealgkhlbgmaa
