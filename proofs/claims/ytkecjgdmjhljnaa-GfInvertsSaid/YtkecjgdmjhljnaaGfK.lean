/- The chapter's examples hold. -/
import Derived.Test.YtkecjgdmjhljnaaGfD
namespace Go.Proofs.Ytkecjgdmjhljnaa
open Go.RowKit Go.Deep

theorem kdiv : n8 (Gf.div 1 2) = 142 ∧ Gf.divE 2 = 0 := by decide +kernel
theorem klog : Gf.log 1 = 0 ∧ Gf.logE 1 = 0 := by
  refine ⟨?_, rfl⟩
  unfold Gf.log
  rw [if_neg (by decide)]
  exact Gf.lg_pw 0
theorem kmul : n8 (Gf.mul 128 2) = 29 := by decide +kernel
theorem kcau : n8 (Gf.cau 2 0 0) = 142 ∧ n8 (Gf.cau 2 0 1) = 244 := by decide +kernel
set_option maxHeartbeats 2000000 in
theorem known_any (w : World) :
    Calls Try.prog 11 #[] w fun e w' => e = .returned (.bool true) ∧ Below w.heap.size w w' := by
  go_enter Try.func11, Try.ntmps11
  go_wp2_with (first | (go_at_call 12; refine (div_any 1 2 _).mono ?_; rintro e w' ⟨rfl, rfl⟩; rw [kdiv.1, kdiv.2]) | (go_at_call 16; refine (log_any 1 _).mono ?_; rintro e w' ⟨rfl, rfl⟩; rw [klog.1, klog.2]))
  refine (cauchy_any 1 2 _ (by omega) (by omega) (by omega)).mono ?_
  rintro e w' ⟨⟨g, bl, rfl, hm⟩, hb⟩
  have c0 : w'.cell? ⟨g, 0, none⟩ = some (.slice (some ⟨bl 0, 0, none⟩) 2 2) := hm.top.cell (i := 0) (by omega)
  have c1 : w'.cell? ⟨bl 0, 0, none⟩ = some (.int .u8 142) := by rw [← kcau.1]; exact (hm.row 0 (by omega)).2.2.cell (i := 0) (by omega)
  have c2 : w'.cell? ⟨bl 0, 1, none⟩ = some (.int .u8 244) := by rw [← kcau.2]; exact (hm.row 0 (by omega)).2.2.cell (i := 1) (by omega)
  have HB := Lib.hid hb
  clear hm hb
  go_wp2_with (go_at_call 19; refine (mul_any 128 2 _).mono ?_; rintro e w' ⟨rfl, rfl⟩; rw [kmul])
  go_ret
  exact ⟨rfl, HB.out⟩
end Go.Proofs.Ytkecjgdmjhljnaa
