/- What the bound of an Upto statement gives: sizes of rows. -/
import Derived.Test.YtppgbapfmijboaaOpen
import Derived.Test.YtppgbapfmijboaaBulkB
namespace Go.Proofs.Ytppgbapfmijboaa
open Go.RowKit

/-- The inner slices of a slice: their lengths together. -/
theorem bulk_rows {H : Type} : ∀ (elems : List (DataW H)) (ls : List (List UInt8)), (∀ i, i < ls.length → ∃ x, elems[i]? = some x ∧ SizeOf x (nth ls i).length) → ls.flatten.length + ls.length ≤ Rows.uptoBulkAll elems := by
  intro elems
  induction elems with
  | nil =>
    intro ls h
    cases ls with
    | nil => simp [Rows.uptoBulkAll]
    | cons l ls => obtain ⟨x, hx, _⟩ := h 0 (by simp); simp at hx
  | cons x elems ih =>
    intro ls h
    cases ls with
    | nil => simp
    | cons l ls =>
      obtain ⟨y, hy, hs⟩ := h 0 (by simp)
      simp at hy
      subst hy
      have e0 : nth (l :: ls) 0 = l := rfl
      rw [e0] at hs
      have h1 := bulk_size hs
      have h2 := ih ls (fun i hi => by
        obtain ⟨z, hz, hs'⟩ := h (i + 1) (by simp; omega)
        exact ⟨z, by simpa using hz, hs'⟩)
      simp only [Rows.uptoBulkAll, List.flatten_cons, List.length_append, List.length_cons]
      omega
theorem bulk_tot {H : Type} {d : DataW H} {n : Nat} {ls : List (List UInt8)} (hl : ls.length = n) (h : (d = .nil ∧ n = 0) ∨ ∃ elems spare, d = .slice elems spare ∧ elems.length = n ∧ ∀ i, i < n → ∃ x, elems[i]? = some x ∧ SizeOf x (nth ls i).length) :
    tot ls + n + 1 ≤ Rows.uptoBulk d := by
  unfold tot
  rcases h with ⟨rfl, rfl⟩ | ⟨elems, spare, rfl, _, he⟩
  · obtain rfl : ls = [] := List.eq_nil_of_length_eq_zero hl
    simp [Rows.uptoBulk]
  · have := bulk_rows elems ls (by rw [hl]; exact he)
    simp only [Rows.uptoBulk]
    omega
end Go.Proofs.Ytppgbapfmijboaa
