/- From a row's readings to lists of entries; their bulk. -/
import Derived.Test.YtfcfipoldkjloaaCgO
import Derived.Test.YtfcfipoldkjloaaCgX
set_option maxRecDepth 100000
set_option linter.unusedSimpArgs false
namespace Go.Proofs.Ytfcfipoldkjloaa
open Go.ChangeShapes Go.WideShapes Go.ChangeAt Go.RowKit Go.Deep
set_option linter.unusedVariables false

def ListsD {H : Type} (d : DataW H) (ls : List (List Ent)) : Prop := (d = .nil ∧ ls = []) ∨ ∃ elems spare, d = .slice elems spare ∧ elems.length = ls.length ∧ ∀ i, i < ls.length → ∃ x, elems[i]? = some x ∧ EntsD x (nth ls i)
theorem cellsEs_ : Try.prog.cellsOf 26 = 1 := by kernel_rfl
theorem open_lists {H : Type} {enc : TypeId × Value → H} {W : World} {d : DataW H} {p : List MemPlace} {a : Option Addr} {n c : Nat}
    (h : DataW.Trod enc Try.prog W 0 (fun _ => true) true 23 (.slice a n c) d p) : ∃ ls, Ess W a n c ls ∧ ListsD d ls := by
  obtain ⟨fuel, hf⟩ := h
  simp [Value.cells] at hf
  rcases open_slice1 Try.underlying23 cellsEs_ hf with ⟨hcs, hd⟩ | ⟨x, len, cap, m, k, V, D, Pl, hcs, _, hl, hm, hmm, hd, hel⟩
  · simp at hcs hd
    obtain ⟨rfl, rfl, rfl⟩ := hcs
    exact ⟨[], Ess.nil W, .inl ⟨hd.1, rfl⟩⟩
  · simp at hcs
    obtain ⟨rfl, rfl, rfl⟩ := hcs
    simp only [if_true] at hmm
    simp only [Prod.mk.injEq] at hd
    obtain ⟨ls, hls, hR⟩ := choose_list n (fun i l => ∃ b off ai ni ci, (some x : Option Addr) = some ⟨b, off, none⟩ ∧ W.cell? ⟨b, off + i, none⟩ = some (.slice ai ni ci) ∧ Es W ai ni ci l ∧ EntsD (D i) l) (by
      intro i hi
      obtain ⟨hc, ht⟩ := hel i (by omega)
      obtain ⟨h0, _⟩ := hel 0 (by omega)
      obtain ⟨a', n', c', l, hv, hb, hs⟩ := open_ents_trod ht
      rw [Addr.add_zero'] at h0
      have hsp := World.cell?_spot h0
      obtain ⟨b, off, spot⟩ := x
      simp at hsp
      subst hsp
      rw [Addr.add_lit] at hc
      exact ⟨l, b, off, a', n', c', rfl, by rw [hc, hv], hb, hs⟩)
    refine ⟨ls, ⟨hls, hl, hm, fun i hi => ?_⟩, .inr ⟨_, _, hd.1, by simp [hls], fun i hi => ?_⟩⟩
    · obtain ⟨b, off, ai, ni, ci, h1, h2, h3, _⟩ := hR i hi
      exact ⟨b, off, ai, ni, ci, h1, h2, h3⟩
    · rw [hls] at hi
      obtain ⟨b, off, ai, ni, ci, _, _, _, h4⟩ := hR i hi
      exact ⟨D i, by simp [hi], h4⟩
theorem bulk_listl {H : Type} : ∀ (elems : List (DataW H)) (ls : List (List Ent)), (∀ i, i < ls.length → ∃ x, elems[i]? = some x ∧ EntsD x (nth ls i)) → Ent.totL ls + ls.length ≤ Rows.uptoBulkAll elems := by
  intro elems
  induction elems with
  | nil =>
    intro l h
    cases l with
    | nil => simp [Ent.totL]
    | cons e l => obtain ⟨x, hx, _⟩ := h 0 (by simp); simp at hx
  | cons x elems ih =>
    intro l h
    cases l with
    | nil => simp [Ent.totL]
    | cons e l =>
      obtain ⟨y, hy, hs⟩ := h 0 (by simp)
      simp at hy
      subst hy
      have e0 : nth (e :: l) 0 = e := rfl
      rw [e0] at hs
      have h1 := bulk_ents hs
      have h2 := ih l (fun i hi => by
        obtain ⟨z, hz, hs'⟩ := h (i + 1) (by simp; omega)
        exact ⟨z, by simpa using hz, hs'⟩)
      unfold Ent.totL at *
      simp only [Rows.uptoBulkAll, List.map_cons, List.sum_cons, List.length_cons]
      omega
theorem bulk_lists {H : Type} {d : DataW H} {ls : List (List Ent)} (h : ListsD d ls) : Ent.totL ls + ls.length + 1 ≤ Rows.uptoBulk d := by
  rcases h with ⟨rfl, rfl⟩ | ⟨elems, spare, rfl, _, he⟩
  · simp [Rows.uptoBulk, Ent.totL]
  · have := bulk_listl elems ls he
    simp only [Rows.uptoBulk]
    omega
end Go.Proofs.Ytfcfipoldkjloaa
