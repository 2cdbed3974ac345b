/- The reference's Rows. -/
import Derived.Test.YtppgbapfmijboaaRgY
set_option maxRecDepth 100000
namespace Go.Proofs.Ytppgbapfmijboaa
open Go.RowKit Go.Deep

theorem own_rowTo {w : World} {B n c : Nat} {a : Option Addr} {l : List UInt8} (h : Own w B a n c l) (hn : 0 < n) : ∃ g, a = some ⟨g, 0, none⟩ ∧ B ≤ g ∧ (n ≤ c ∧ c ≤ maxLen) ∧ rowTo w g 5 n (fun j => .int .u8 (n8 (nth l j))) := by
  have hb := h.bs
  rcases h.2 with ⟨h1, h2⟩ | ⟨g, cap, cur, h1, h2, h3, h4, h5, h6, h7⟩
  · cases h1; omega
  · cases h1
    refine ⟨g, rfl, h2, ⟨h4, h5⟩, cur, h3, by simp at h6; omega, fun i hi => ?_⟩
    have e : (List.take (n * 1) cur.toList)[i]? = (vs l)[i]? := by rw [h7]
    rw [List.getElem?_take] at e
    have hl := hb.1
    simp [vs, hi, nth_eq l (show i < l.length by omega), (show i < l.length by omega)] at e ⊢
    exact e
/-- What a new row brings: all the facts that its append wants. -/
structure NewRow (w w3 : World) (B : Nat) (a : Option Addr) (n c C : Nat) (bl cp : Nat → Nat) (Z : Nat → Nat → UInt8) (g3 c3 : Nat) : Prop where
  below : Below w.heap.size w w3
  le : w.heap.size ≤ g3
  cap : C ≤ c3 ∧ c3 ≤ maxLen
  mo : Mo (w3.alloc (.cells #[.slice (some ⟨g3, 0, none⟩) C c3] 22)) B a n c C bl cp Z
  row : rowTo (w3.alloc (.cells #[.slice (some ⟨g3, 0, none⟩) C c3] 22)) g3 5 C (fun j => .int .u8 (n8 (Z n j)))
  cell : (w3.alloc (.cells #[.slice (some ⟨g3, 0, none⟩) C c3] 22)).cell? ⟨w3.heap.size, 0, none⟩ = some (.slice (some ⟨g3, 0, none⟩) C c3)
  ne : (∀ x, a = some x → g3 ≠ x.block) ∧ ∀ i, i < n → bl i ≠ g3
theorem new_row {w w3 : World} {B : Nat} {a a3 : Option Addr} {n c C c3 : Nat} {bl cp : Nat → Nat} {Z : Nat → Nat → UInt8} {o : Obj} {l : List UInt8} (hm : Mo w B a n c C bl cp Z) (hB : B ≤ w.heap.size) (hC : 0 < C)
    (h3 : Own w3 w.heap.size a3 C c3 l) (hb3 : Below w.heap.size (w.alloc o) w3) (hl : ∀ j, j < C → nth l j = Z n j) : ∃ g3, a3 = some ⟨g3, 0, none⟩ ∧ NewRow w w3 B a n c C bl cp Z g3 c3 := by
  obtain ⟨g3, rfl, h4, h5, h6⟩ := own_rowTo h3 hC
  have hb := (below_alloc w o).trans hb3
  refine ⟨g3, rfl, hb, h4, h5, (hm.below hb).below (below_alloc w3 _), (h6.congr (fun j hj => by rw [hl j hj])).below (below_alloc w3 _), box_new w3 _ _, fun x hx e => ?_, fun i hi e => ?_⟩
  · have := (hm.own.new x hx).2; omega
  · have := (hm.row i hi).2.2.lt; omega
end Go.Proofs.Ytppgbapfmijboaa
