/- The reference's Apply, Rows. -/
import Derived.Test.YtppgbapfmijboaaRgW
set_option maxRecDepth 100000
namespace Go.Proofs.Ytppgbapfmijboaa
open Go.RowKit Go.Deep

theorem bs_row {w : World} {b n : Nat} {F : Nat → UInt8} (h : rowTo w b 5 n (fun j => .int .u8 (n8 (F j)))) (hn : n ≤ maxLen) : Bs w (some ⟨b, 0, none⟩) n n ((List.range n).map F) := by
  refine ⟨by simp, Nat.le_refl _, hn, fun j v hv => ?_⟩
  have hj : j < n := by
    rcases Nat.lt_or_ge j n with h' | h'
    · exact h'
    · rw [List.getElem?_eq_none (by simp [vs]; omega)] at hv; cases hv
  refine ⟨b, 0, rfl, ?_⟩
  rw [Nat.zero_add, h.cell hj]
  simp [vs, hj] at hv
  rw [hv]
/-- While a matrix is applied: the places before i, of place i the first k terms. -/
def Gf.partV (f : Nat → Nat → UInt8) (K i k : Nat) : Nat → UInt8 := fun r => if r < i then Gf.sm K (f r) else if r = i then Gf.sm k (f r) else 0
theorem partV_next (f : Nat → Nat → UInt8) (K i r : Nat) : Gf.partV f K i K r = Gf.partV f K (i + 1) 0 r := by
  unfold Gf.partV
  by_cases h1 : r < i
  · simp [h1, Nat.lt_succ_of_lt h1]
  · by_cases h2 : r = i
    · simp [h2]
    · rw [if_neg h1, if_neg h2, if_neg (by omega)]; split <;> rfl
theorem partV_term (f : Nat → Nat → UInt8) (K i k r : Nat) : (if r = i then Gf.partV f K i k i ^^^ f i k else Gf.partV f K i k r) = Gf.partV f K i (k + 1) r := by
  unfold Gf.partV
  by_cases h : r = i
  · subst h; simp [Gf.sm]
  · simp [h]
theorem partV_zero (f : Nat → Nat → UInt8) (K r : Nat) : Gf.partV f K 0 0 r = 0 := by unfold Gf.partV; simp [Gf.sm]
theorem partV_full (f : Nat → Nat → UInt8) (K R r : Nat) (hr : r < R) : Gf.partV f K R 0 r = Gf.sm K (f r) := by unfold Gf.partV; simp [hr]

end Go.Proofs.Ytppgbapfmijboaa
