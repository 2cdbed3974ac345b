/- From a row's readings to the words of the walks: slices of slices of bytes; the form's reach. -/
import Derived.Test.YtkbfefooaajhkaaDoorOpenB
set_option linter.unusedVariables false
set_option linter.unusedSimpArgs false
namespace Go.Proofs.YtkbfefooaajhkaaDoor
open Go.ChangeShapes Go.WideShapes Go.ChangeAt Go.RowKit Go.Deep

theorem cellsBs_ : Tryd.prog.cellsOf 22 = 1 := by kernel_rfl
/-- A slice of slices of bytes; each inner one's size as the datum has it. -/
theorem open_rows {H : Type} {enc : TypeId × Value → H} {W : World} {d : DataW H} {p : List MemPlace} {a : Option Addr} {n c : Nat}
    (h : DataW.Trod enc Tryd.prog W 0 (fun _ => true) true 89 (.slice a n c) d p) :
    ∃ ls, Bss W a n c ls ∧ ((d = .nil ∧ n = 0) ∨ ∃ elems spare, d = .slice elems spare ∧ elems.length = n ∧ ∀ i, i < n → ∃ x, elems[i]? = some x ∧ SizeOf x (nth ls i).length) := by
  obtain ⟨fuel, hf⟩ := h
  simp [Value.cells] at hf
  rcases open_slice1 Tryd.underlying89 cellsBs_ hf with ⟨hcs, hd⟩ | ⟨x, len, cap, m, k, V, D, Pl, hcs, _, hl, hm, hmm, hd, hel⟩
  · simp at hcs hd
    obtain ⟨rfl, rfl, rfl⟩ := hcs
    exact ⟨[], Bss.nil W, .inl ⟨hd.1, rfl⟩⟩
  · simp at hcs
    obtain ⟨rfl, rfl, rfl⟩ := hcs
    simp only [if_true] at hmm
    simp only [Prod.mk.injEq] at hd
    obtain ⟨ls, hls, hR⟩ := choose_list n (fun i l => ∃ b off ai ni ci, (some x : Option Addr) = some ⟨b, off, none⟩ ∧ W.cell? ⟨b, off + i, none⟩ = some (.slice ai ni ci) ∧ Bs W ai ni ci l ∧ SizeOf (D i) l.length) (by
      intro i hi
      obtain ⟨hc, ht⟩ := hel i (by omega)
      obtain ⟨h0, _⟩ := hel 0 (by omega)
      obtain ⟨a', n', c', l, hv, hb, hs⟩ := open_bytes_trod ht
      rw [Addr.add_zero'] at h0
      have hsp := World.cell?_spot h0
      obtain ⟨b, off, spot⟩ := x
      simp at hsp
      subst hsp
      rw [Addr.add_lit] at hc
      exact ⟨l, b, off, a', n', c', rfl, by rw [hc, hv], hb, by rw [hb.1]; exact hs⟩)
    refine ⟨ls, ⟨hls, hl, hm, fun i hi => ?_⟩, .inr ⟨_, _, hd.1, by simp, fun i hi => ?_⟩⟩
    · obtain ⟨b, off, ai, ni, ci, h1, h2, h3, _⟩ := hR i hi
      exact ⟨b, off, ai, ni, ci, h1, h2, h3⟩
    · obtain ⟨b, off, ai, ni, ci, _, _, _, h4⟩ := hR i hi
      exact ⟨D i, by simp [hi], h4⟩

/-- The form's own reach, of a slice of bytes. -/
theorem fits_bytes {H : Type} {ts : List TypeId} {ds : List (DataW H)} (h : (DataW.weightsEach Tryd.prog ts ds).all (· ≤ reachBytes) = true) {j : Nat} {d : DataW H} {n : Nat}
    (ht : (ts[j]?, ds[j]?) = (some 22, some d)) (hs : SizeOf d n) : Fits n := by
  simp only [Prod.mk.injEq] at ht
  rcases hs with ⟨rfl, rfl⟩ | ⟨elems, spare, rfl, rfl⟩
  · exact ⟨by omega⟩
  · have := sized_slice h (j := j) ht.1 ht.2 Tryd.underlying22
    rw [bytes8_] at this
    simp only [reachBytes] at this
    exact ⟨by omega⟩
end Go.Proofs.YtkbfefooaajhkaaDoor
