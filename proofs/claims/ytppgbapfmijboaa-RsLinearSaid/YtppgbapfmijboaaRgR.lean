/- gf's Rows. -/
import Derived.Test.YtppgbapfmijboaaRgQ
import Derived.Test.YtppgbapfmijboaaInts
namespace Go.Proofs.Ytppgbapfmijboaa
open Go.RowKit Go.Deep

def Gf.rowsOk (m : List (List UInt8)) (n : List Int) : Bool := Gf.right m && decide (1 ≤ n.length ∧ n.length ≤ 255 ∧ ∀ i, i < n.length → 0 ≤ nth n i ∧ nth n i < m.length)
def Gf.rowsL (m : List (List UInt8)) (n : List Int) : List (List UInt8) := if Gf.rowsOk m n = true then mat n.length (nth m 0).length (fun i j => at2 m (nth n i).toNat j) else []
def Gf.rowsE (m : List (List UInt8)) (n : List Int) : Int := if Gf.rowsOk m n = true then 0 else 1
theorem rows_bad {m : List (List UInt8)} {v : List Int} (h : Gf.rowsOk m v = false) : Gf.rowsL m v = [] ∧ Gf.rowsE m v = 1 := by
  unfold Gf.rowsL Gf.rowsE; rw [h]; exact ⟨rfl, rfl⟩
theorem rows_good {m : List (List UInt8)} {v : List Int} (h : Gf.rowsOk m v = true) : Gf.rowsL m v = mat v.length (nth m 0).length (fun i j => at2 m (nth v i).toNat j) ∧ Gf.rowsE m v = 0 := by
  unfold Gf.rowsL Gf.rowsE; rw [if_pos h, if_pos h]; exact ⟨rfl, rfl⟩
end Go.Proofs.Ytppgbapfmijboaa
