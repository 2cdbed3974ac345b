/- Matrices of bytes in memory of the call's own: a row of slices, each with a block of its own. -/
import Derived.Test.YtppgbapfmijboaaBytes
import Derived.Deep.OwnRows
set_option linter.unusedVariables false
set_option linter.unusedSimpArgs false
namespace Go.Proofs.Ytppgbapfmijboaa
open Go.RowKit Go.Deep

/-- Block b begins with n cells that hold 'f i'; none is frozen. -/
def rowTo (w : World) (b : Nat) (t : TypeId) (n : Nat) (f : Nat → Value) : Prop :=
  ∃ c : Array Value, w.heap[b]? = some (.cells c t (0, 0)) ∧ n ≤ c.size ∧ ∀ i, i < n → c[i]? = some (f i)
namespace rowTo
variable {w : World} {b : Nat} {t : TypeId} {n : Nat} {f g : Nat → Value}
theorem of_is (h : w.rowIs b t n f) : rowTo w b t n f := by
  obtain ⟨c, h1, h2, h3⟩ := h
  exact ⟨c, h1, by omega, h3⟩
theorem cell (h : rowTo w b t n f) {i : Nat} (hi : i < n) : w.cell? ⟨b, i, none⟩ = some (f i) := by
  obtain ⟨c, hb, _, hc⟩ := h
  simp [World.cell?, hb, hc i hi]
theorem frozen (h : rowTo w b t n f) (i : Nat) : w.frozen? ⟨b, i, none⟩ = false := by
  obtain ⟨c, hb, _, _⟩ := h
  simp [World.frozen?, hb]
theorem lt (h : rowTo w b t n f) : b < w.heap.size := by
  obtain ⟨c, hb, _, _⟩ := h
  obtain ⟨hlt, _⟩ := Array.getElem?_eq_some_iff.1 hb
  exact hlt
theorem congr (h : rowTo w b t n f) (e : ∀ i, i < n → f i = g i) : rowTo w b t n g := by
  obtain ⟨c, hb, hn, hc⟩ := h
  exact ⟨c, hb, hn, fun i hi => by rw [hc i hi, e i hi]⟩
theorem of_block {w' : World} (h : rowTo w b t n f) (e : w'.heap[b]? = w.heap[b]?) : rowTo w' b t n f := by
  obtain ⟨c, hb, hn, hc⟩ := h
  exact ⟨c, e.trans hb, hn, hc⟩
theorem below {w' : World} (h : rowTo w b t n f) (hb : Below w.heap.size w w') : rowTo w' b t n f := h.of_block (hb.block _ h.lt)
theorem set (h : rowTo w b t n f) (i : Nat) (v : Value) : rowTo (w.setCell ⟨b, i, none⟩ v) b t n (fun j => if j = i then v else f j) := by
  obtain ⟨c, hb, hn, hc⟩ := h
  refine ⟨c.setIfInBounds i v, ?_, by simpa using hn, fun j hj => ?_⟩
  · simp [World.setCell, Array.getElem?_modify, hb]
  · rw [Array.getElem?_setIfInBounds]
    by_cases e : j = i
    · subst e
      simp only [if_true]
      rw [if_pos (by omega)]
    · rw [if_neg (fun h => e h.symm)]
      show c[j]? = some (if j = i then v else f j)
      rw [if_neg e]
      exact hc j hj
theorem setOther (h : rowTo w b t n f) {a : Addr} (ha : b ≠ a.block) (v : Value) : rowTo (w.setCell a v) b t n f := h.of_block (blk_setCell_other _ _ _ _ ha)
theorem alloc (h : rowTo w b t n f) (o : Obj) : rowTo (w.alloc o) b t n f := h.of_block (blk_alloc_lt _ _ _ h.lt)
end rowTo

def mat (n C : Nat) (Z : Nat → Nat → UInt8) : List (List UInt8) := (List.range n).map fun i => (List.range C).map (Z i)
theorem mat_len (n C : Nat) (Z : Nat → Nat → UInt8) : (mat n C Z).length = n := by simp [mat]
theorem mat_row {n C : Nat} {Z : Nat → Nat → UInt8} {i : Nat} (h : i < n) : nth (mat n C Z) i = (List.range C).map (Z i) := by
  rw [nth_eq _ (by rw [mat_len]; exact h)]; simp [mat]
theorem mat_congr {n C : Nat} {Y Z : Nat → Nat → UInt8} (h : ∀ i j, i < n → j < C → Y i j = Z i j) : mat n C Y = mat n C Z := by
  unfold mat
  apply List.map_congr_left
  intro i hi
  apply List.map_congr_left
  intro j hj
  exact h i j (List.mem_range.1 hi) (List.mem_range.1 hj)

structure Mx (w : World) (B g n C : Nat) (bl : Nat → Nat) (Z : Nat → Nat → UInt8) : Prop where
  base : B ≤ g
  top : rowTo w g 22 n (fun i => .slice (some ⟨bl i, 0, none⟩) C C)
  row : ∀ i, i < n → B ≤ bl i ∧ bl i ≠ g ∧ rowTo w (bl i) 5 C (fun j => .int .u8 (n8 (Z i j)))
  apart : ∀ i j, i < n → j < n → bl i = bl j → i = j
namespace Mx
variable {w : World} {B g n C : Nat} {bl : Nat → Nat} {Z : Nat → Nat → UInt8}
theorem below {w' : World} (h : Mx w B g n C bl Z) (hb : Below w.heap.size w w') : Mx w' B g n C bl Z :=
  ⟨h.base, h.top.below hb, fun i hi => ⟨(h.row i hi).1, (h.row i hi).2.1, (h.row i hi).2.2.below hb⟩, h.apart⟩
theorem mono {B' : Nat} (h : Mx w B g n C bl Z) (hB : B' ≤ B) : Mx w B' g n C bl Z :=
  ⟨Nat.le_trans hB h.base, h.top, fun i hi => ⟨Nat.le_trans hB (h.row i hi).1, (h.row i hi).2⟩, h.apart⟩
theorem drewN (h : Mx w B g n C bl Z) (q : Nat) : Mx (w.drewN q) B g n C bl Z := h.below (below_drewN (Below.refl _ _) q)
theorem congr {Y : Nat → Nat → UInt8} (h : Mx w B g n C bl Z) (e : ∀ i j, i < n → j < C → Z i j = Y i j) : Mx w B g n C bl Y :=
  ⟨h.base, h.top, fun i hi => ⟨(h.row i hi).1, (h.row i hi).2.1, (h.row i hi).2.2.congr fun j hj => by rw [e i j hi hj]⟩, h.apart⟩
theorem set (h : Mx w B g n C bl Z) {i : Nat} (hi : i < n) (j : Nat) (v : UInt8) : Mx (w.setCell ⟨bl i, j, none⟩ (.int .u8 (n8 v))) B g n C bl (fun r c => if r = i ∧ c = j then v else Z r c) := by
  refine ⟨h.base, h.top.setOther (fun e => (h.row i hi).2.1 e.symm) _, fun r hr => ⟨(h.row r hr).1, (h.row r hr).2.1, ?_⟩, h.apart⟩
  by_cases e : r = i
  · subst e
    refine ((h.row r hr).2.2.set j _).congr fun c hc => ?_
    by_cases ec : c = j
    · simp [ec]
    · simp [ec]
  · refine ((h.row r hr).2.2.setOther (fun e' => e (h.apart r i hr hi e')) _).congr fun c hc => ?_
    simp [e]
theorem bss {c : Nat} (h : Mx w B g n C bl Z) (hc : n ≤ c) (hm : c ≤ maxLen) (hC : C ≤ maxLen) : Bss w (some ⟨g, 0, none⟩) n c (mat n C Z) := by
  refine ⟨mat_len _ _ _, hc, hm, fun i hi => ⟨g, 0, some ⟨bl i, 0, none⟩, C, C, rfl, by rw [Nat.zero_add]; exact h.top.cell hi, ?_⟩⟩
  rw [mat_row hi]
  refine ⟨by simp, Nat.le_refl _, hC, fun j v hv => ?_⟩
  have hj : j < C := by
    rcases Nat.lt_or_ge j C with h' | h'
    · exact h'
    · rw [List.getElem?_eq_none (by simp [vs]; omega)] at hv; cases hv
  refine ⟨bl i, 0, rfl, ?_⟩
  rw [Nat.zero_add, (h.row i hi).2.2.cell hj]
  simp [vs, hj] at hv
  rw [hv]
end Mx
theorem infoBs : (Try.prog.info? 22).map (fun i => (i.zero, i.size, i.bytes)) = some (some (.slice none 0 0), 1, 24) := by kernel_rfl
end Go.Proofs.Ytppgbapfmijboaa
