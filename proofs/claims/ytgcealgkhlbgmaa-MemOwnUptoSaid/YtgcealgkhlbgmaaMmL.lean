/- Versions laid into a list in order: plain laws. -/
import Derived.Test.YtgcealgkhlbgmaaMmE
import Derived.Test.YtgcealgkhlbgmaaMgT
namespace Go.Proofs.Ytgcealgkhlbgmaa
open Go.RowKit
set_option linter.unusedVariables false

/-- How many are below v. -/
def Ent.idx' (l : List Ent) (v : Ent) : Nat := l.findIdx (fun x => !decide (Ent.cmp x v = -1))
def Ent.has (l : List Ent) (v : Ent) : Prop := Ent.idx' l v < l.length ∧ Ent.cmp (nth l (Ent.idx' l v)) v = 0
instance (l : List Ent) (v : Ent) : Decidable (Ent.has l v) := inferInstanceAs (Decidable (_ ∧ _))
/-- A version laid in. -/
def Ent.lay (l : List Ent) (v : Ent) : List Ent := if Ent.has l v then l.set (Ent.idx' l v) v else l.take (Ent.idx' l v) ++ v :: l.drop (Ent.idx' l v)
def Ent.layh (l : List Ent) (hs : List Nat) (v : Ent) (h : Nat) : List Nat := if Ent.has l v then hs else hs.take (Ent.idx' l v) ++ h :: hs.drop (Ent.idx' l v)
theorem lay_nil (v : Ent) : Ent.lay [] v = [v] := rfl
theorem idx_cons (x : Ent) (l : List Ent) (v : Ent) : Ent.idx' (x :: l) v = if Ent.cmp x v = -1 then Ent.idx' l v + 1 else 0 := by
  unfold Ent.idx'
  rw [List.findIdx_cons]
  by_cases h : Ent.cmp x v = -1
  · rw [if_pos h]; simp [h]
  · rw [if_neg h]; simp [h]
theorem nth_zero (x : Ent) (l : List Ent) : nth (x :: l) 0 = x := rfl
theorem nth_succ (x : Ent) (l : List Ent) (i : Nat) : nth (x :: l) (i + 1) = nth l i := by simp [nth]
theorem lay_low {x : Ent} {l : List Ent} {v : Ent} (h : Ent.cmp x v = -1) : Ent.lay (x :: l) v = x :: Ent.lay l v := by
  have hi : Ent.idx' (x :: l) v = Ent.idx' l v + 1 := by rw [idx_cons, if_pos h]
  have hh : Ent.has (x :: l) v ↔ Ent.has l v := by
    unfold Ent.has
    rw [hi, nth_succ, List.length_cons]
    exact ⟨fun ⟨a, b⟩ => ⟨by omega, b⟩, fun ⟨a, b⟩ => ⟨by omega, b⟩⟩
  unfold Ent.lay
  by_cases hl : Ent.has l v
  · rw [if_pos (hh.2 hl), if_pos hl, hi, List.set_cons_succ]
  · rw [if_neg (fun h => hl (hh.1 h)), if_neg hl, hi, List.take_succ_cons, List.drop_succ_cons, List.cons_append]
theorem lay_same {x : Ent} {l : List Ent} {v : Ent} (h : Ent.cmp x v = 0) : Ent.lay (x :: l) v = v :: l := by
  have hi : Ent.idx' (x :: l) v = 0 := by rw [idx_cons, if_neg (by omega)]
  unfold Ent.lay
  rw [if_pos (show Ent.has (x :: l) v from ⟨by rw [hi]; simp, by rw [hi]; exact h⟩), hi]
  rfl
theorem lay_high {x : Ent} {l : List Ent} {v : Ent} (h : Ent.cmp x v = 1) : Ent.lay (x :: l) v = v :: x :: l := by
  have hi : Ent.idx' (x :: l) v = 0 := by rw [idx_cons, if_neg (by omega)]
  unfold Ent.lay
  rw [if_neg (show ¬ Ent.has (x :: l) v from fun hh => by have := hh.2; rw [hi, nth_zero] at this; omega), hi]
  rfl
theorem lay_mem {L : List Ent} {v e : Ent} (h : e ∈ Ent.lay L v) : e = v ∨ e ∈ L := by
  unfold Ent.lay at h
  split at h
  · rcases List.mem_or_eq_of_mem_set h with h | h
    · exact .inr h
    · exact .inl h
  · rcases List.mem_append.1 h with h | h
    · exact .inr (List.mem_of_mem_take h)
    · rcases List.mem_cons.1 h with h | h
      · exact .inl h
      · exact .inr (List.mem_of_mem_drop h)
theorem lay_len (L : List Ent) (v : Ent) : (Ent.lay L v).length ≤ L.length + 1 ∧ L.length ≤ (Ent.lay L v).length := by
  unfold Ent.lay
  split
  · simp
  · simp
    omega
theorem cmp_of_lt {a b : Ent} (h : Ent.lt a b) : Ent.cmp b a = 1 := Ent.cmp_gt.2 h
theorem mem_lay : ∀ {L : List Ent} {v e : Ent}, L.Pairwise Ent.lt → (e ∈ Ent.lay L v ↔ e = v ∨ (e ∈ L ∧ Ent.cmp e v ≠ 0))
  | [], v, e, _ => by simp [lay_nil]
  | x :: l, v, e, h => by
    rw [List.pairwise_cons] at h
    rcases Ent.cmp_cases x v with hc | hc | hc
    · rw [lay_low hc, List.mem_cons, mem_lay h.2, List.mem_cons]
      constructor
      · rintro (h1 | h1 | ⟨h1, h2⟩)
        · exact .inr ⟨.inl h1, by rw [h1, hc]; decide⟩
        · exact .inl h1
        · exact .inr ⟨.inr h1, h2⟩
      · rintro (h1 | ⟨h1 | h1, h2⟩)
        · exact .inr (.inl h1)
        · exact .inl h1
        · exact .inr (.inr ⟨h1, h2⟩)
    · rw [lay_same hc, List.mem_cons, List.mem_cons]
      constructor
      · rintro (h1 | h1)
        · exact .inl h1
        · refine .inr ⟨.inr h1, ?_⟩
          have h2 := Ent.cmp_eq.1 hc
          have h3 : Ent.lt v e := Ent.eqv_lt ⟨h2.1.symm, h2.2.symm⟩ (h.1 e h1)
          rw [cmp_of_lt h3]; decide
      · rintro (h1 | ⟨h1 | h1, h2⟩)
        · exact .inl h1
        · rw [h1] at h2; exact absurd hc h2
        · exact .inr h1
    · rw [lay_high hc, List.mem_cons, List.mem_cons]
      have h0 := Ent.cmp_gt.1 hc
      constructor
      · rintro (h1 | h1 | h1)
        · exact .inl h1
        · exact .inr ⟨.inl h1, by rw [h1, hc]; decide⟩
        · exact .inr ⟨.inr h1, by rw [cmp_of_lt (Ent.lt_trans h0 (h.1 e h1))]; decide⟩
      · rintro (h1 | ⟨h1 | h1, h2⟩)
        · exact .inl h1
        · exact .inr (.inl h1)
        · exact .inr (.inr h1)
theorem sorted_lay : ∀ {L : List Ent} {v : Ent}, L.Pairwise Ent.lt → (Ent.lay L v).Pairwise Ent.lt
  | [], v, _ => by simp [lay_nil]
  | x :: l, v, h => by
    rw [List.pairwise_cons] at h
    rcases Ent.cmp_cases x v with hc | hc | hc
    · rw [lay_low hc, List.pairwise_cons]
      refine ⟨fun e he => ?_, sorted_lay h.2⟩
      rcases lay_mem he with h1 | h1
      · rw [h1]; exact Ent.cmp_lt.1 hc
      · exact h.1 e h1
    · rw [lay_same hc, List.pairwise_cons]
      have h2 := Ent.cmp_eq.1 hc
      exact ⟨fun e he => Ent.eqv_lt ⟨h2.1.symm, h2.2.symm⟩ (h.1 e he), h.2⟩
    · rw [lay_high hc, List.pairwise_cons, List.pairwise_cons]
      have h0 := Ent.cmp_gt.1 hc
      exact ⟨fun e he => by
        rcases List.mem_cons.1 he with h1 | h1
        · rw [h1]; exact h0
        · exact Ent.lt_trans h0 (h.1 e h1), h⟩
def Ent.laid (v : Ent) : Ent := { v with val := if v.gone = true then [] else v.val }
theorem laid_cmp (a b : Ent) : Ent.cmp a.laid b.laid = Ent.cmp a b := rfl
theorem laid_fine (a : Ent) : ¬ (a.laid.gone = true ∧ 0 < a.laid.val.length) := by
  rintro ⟨h1, h2⟩
  have h3 : a.gone = true := h1
  unfold Ent.laid at h2
  rw [if_pos h3] at h2
  exact absurd h2 (Nat.lt_irrefl 0)
/-- All of a list laid in, one behind the other. -/
def Ent.lays (L es : List Ent) : List Ent := es.foldl Ent.lay L
theorem lays_snoc (L es : List Ent) (v : Ent) : Ent.lays L (es ++ [v]) = Ent.lay (Ent.lays L es) v := by simp [Ent.lays]
theorem lays_sorted : ∀ {es L : List Ent}, L.Pairwise Ent.lt → (Ent.lays L es).Pairwise Ent.lt
  | [], L, h => h
  | v :: es, L, h => lays_sorted (es := es) (sorted_lay h)
theorem lays_mem : ∀ {es L : List Ent} {e : Ent}, L.Pairwise Ent.lt → es.Pairwise (fun a b => Ent.cmp a b ≠ 0) → (∀ x ∈ L, ∀ y ∈ es, Ent.cmp x y ≠ 0) → (e ∈ Ent.lays L es ↔ e ∈ L ∨ e ∈ es)
  | [], L, e, h, _, _ => by simp [Ent.lays]
  | v :: es, L, e, h, hp, hx => by
    rw [List.pairwise_cons] at hp
    have ih := lays_mem (es := es) (L := Ent.lay L v) (e := e) (sorted_lay h) hp.2 (fun x hx' y hy => by
      rcases lay_mem hx' with h1 | h1
      · rw [h1]; exact hp.1 y hy
      · exact hx x h1 y (List.mem_cons_of_mem _ hy))
    show e ∈ Ent.lays (Ent.lay L v) es ↔ _
    rw [ih, mem_lay h, List.mem_cons]
    constructor
    · rintro ((h1 | ⟨h1, _⟩) | h1)
      · exact .inr (.inl h1)
      · exact .inl h1
      · exact .inr (.inr h1)
    · rintro (h1 | h1 | h1)
      · exact .inl (.inr ⟨h1, hx e h1 v List.mem_cons_self⟩)
      · exact .inl (.inl h1)
      · exact .inr h1
theorem lays_any {es L : List Ent} {e : Ent} (h : e ∈ Ent.lays L es) : e ∈ L ∨ e ∈ es := by
  induction es generalizing L with
  | nil => exact .inl h
  | cons v es ih =>
    rcases ih (L := Ent.lay L v) h with h1 | h1
    · rcases lay_mem h1 with h2 | h2
      · exact .inr (by rw [h2]; exact List.mem_cons_self)
      · exact .inl h2
    · exact .inr (List.mem_cons_of_mem _ h1)
theorem rightB_sorted {L : List Ent} (h : L.Pairwise Ent.lt) (hf : ∀ e ∈ L, ¬ (e.gone = true ∧ 0 < e.val.length)) : Ent.rightB L = true := by
  refine rightB_all ⟨fun i hi => ?_, fun i h1 hi => ?_⟩
  · rw [nth_eq _ hi]; exact hf _ (List.getElem_mem _)
  · have := List.pairwise_iff_getElem.1 h (i - 1) i (by omega) hi (by omega)
    rw [nth_eq _ (by omega), nth_eq _ hi]
    exact Ent.cmp_lt.2 this
end Go.Proofs.Ytgcealgkhlbgmaa
