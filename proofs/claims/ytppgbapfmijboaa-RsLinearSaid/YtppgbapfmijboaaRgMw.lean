/- The walks of GfMatrices and GfSolves. -/
import Derived.Test.YtppgbapfmijboaaRgX
import Derived.Test.YtppgbapfmijboaaRgRi
import Derived.Test.YtppgbapfmijboaaRgK
set_option maxRecDepth 100000
namespace Go.Proofs.Ytppgbapfmijboaa
open Go.RowKit Go.Deep

theorem nth_map_range {α : Type} [Inhabited α] {n i : Nat} (F : Nat → α) (h : i < n) : nth ((List.range n).map F) i = F i := by
  rw [nth_eq _ (by simpa using h)]; simp
/-- An inverse undoes. -/
theorem solves {lm : List (List UInt8)} {lv : List UInt8} (h0 : Gf.invE lm = 0) (hl : lv.length = lm.length) :
    Gf.applyE lm lv = 0 ∧ Gf.applyE (Gf.invL lm) (Gf.applyL lm lv) = 0 ∧ Gf.applyL (Gf.invL lm) (Gf.applyL lm lv) = lv := by
  have hsq : Gf.sq lm = true := by
    cases h : Gf.sq lm with
    | true => rfl
    | false => rw [(inv_bad h).2] at h0; cases h0
  have hq := hsq
  unfold Gf.sq at hq
  rw [Bool.and_eq_true, decide_eq_true_eq] at hq
  obtain ⟨r1, r2, r3, r4, r5⟩ := right_spec hq.1
  obtain ⟨s, hs⟩ : ∃ s, Gf.gauss lm.length (at2 lm) lm.length = some s := by
    cases h : Gf.gauss lm.length (at2 lm) lm.length with
    | some s => exact ⟨s, rfl⟩
    | none => rw [(inv_none hsq rfl h).2] at h0; cases h0
  have hok : Gf.applyOk lm lv = true := by unfold Gf.applyOk; rw [hq.1, decide_eq_true (by omega)]; rfl
  obtain ⟨a1, a2⟩ := apply_good hok
  rw [(inv_some hsq rfl hs).1, a1, a2, hl]
  have hok2 : Gf.applyOk (mat lm.length lm.length s.2) ((List.range lm.length).map (fun i => Gf.sm lm.length (fun k => Gf.mul (at2 lm i k) (nth lv k)))) = true := by
    unfold Gf.applyOk
    rw [right_mat r1 r2 r1 r2, mat_row (by omega)]
    simp
  obtain ⟨b1, b2⟩ := apply_good hok2
  refine ⟨rfl, b2, ?_⟩
  rw [b1, mat_len]
  apply List.ext_getElem (by simp [hl])
  intro i h1 h2
  simp only [List.length_map, List.length_range, List.getElem_map, List.getElem_range]
  have hi : i < lm.length := by simpa using h1
  have := Gf.gauss_left hs (nth lv) hi
  rw [nth_eq lv h2] at this
  rw [← this]
  refine Gf.sm_congr fun j hj => ?_
  rw [at2_mat hi hj, nth_map_range _ hj]
  rfl
end Go.Proofs.Ytppgbapfmijboaa
