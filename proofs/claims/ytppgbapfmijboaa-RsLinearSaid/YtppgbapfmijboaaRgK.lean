/- The chapter's examples hold. -/
import Derived.Test.YtppgbapfmijboaaRgD
namespace Go.Proofs.Ytppgbapfmijboaa
open Go.RowKit Go.Deep

theorem kdiv : n8 (Gf.div 1 2) = 142 ∧ Gf.divE 2 = 0 := by decide +kernel
theorem klog : Gf.log 1 = 0 ∧ Gf.logE 1 = 0 := by
  refine ⟨?_, rfl⟩
  unfold Gf.log
  rw [if_neg (by decide)]
  exact Gf.lg_pw 0
theorem kmul : n8 (Gf.mul 128 2) = 29 := by decide +kernel
theorem kcau : n8 (Gf.cau 2 0 0) = 142 ∧ n8 (Gf.cau 2 0 1) = 244 := by decide +kernel
end Go.Proofs.Ytppgbapfmijboaa
