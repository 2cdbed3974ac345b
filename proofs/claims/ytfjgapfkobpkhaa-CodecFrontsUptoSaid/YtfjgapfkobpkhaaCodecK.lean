/- The chapter's examples hold. -/
import Derived.Test.YtfjgapfkobpkhaaCodecE
import Derived.Lib.SlBytesConst
namespace Go.Proofs.Ytfjgapfkobpkhaa
open Go.RowKit

theorem k_sum : Codec.sum [49, 50, 51, 52, 53, 54, 55, 56, 57] = 3808858755 := by decide +kernel
theorem k_dec : Codec.dec [172, 2] = (300, 2, 0) := by decide +kernel
theorem k_frame : Codec.frame [97] = [1, 48, 67, 208, 193, 97] := by
  have h : Codec.four (Codec.sum [97]) = [48, 67, 208, 193] := by decide +kernel
  unfold Codec.frame
  rw [h, Codec.enc_small (by decide)]
  rfl
set_option maxHeartbeats 1000000 in
theorem known_any (w : World) : Calls Try.prog 11 #[] w fun e w' => e = .returned (.bool true) ∧ Below w.heap.size w w' := by
  have h1 : Bs (w.alloc (.cells #[.int .u8 172, .int .u8 2] 5)) (some ⟨w.heap.size, 0, none⟩) 2 2 [172, 2] := Bs.lit w [172, 2] (by simp [maxLen])
  have kc := fun (w : World) (C : Array Value) (n c : Nat) => Lib.run_convert_bytes_const (P := Try.prog) w 28 5 C n c Try.underlying28 Try.underlying5
  go_enter Try.func11, Try.ntmps11
  go_wp2_with fail
  refine (readnum_any _ _ _ _ _ h1).mono ?_
  rintro e w1 ⟨rfl, hw⟩
  have hb1 : Below w.heap.size w w1 := by rw [← hw]; exact (Below.refl _ _).alloc (Nat.le_refl _) _
  clear hw h1
  rw [k_dec]
  go_wp2_with fail
  refine (frame_any _ _ _ [97] _ (Bs.litAt [97] (1, 2) rfl (by simp [maxLen])) ⟨by simp⟩).mono ?_
  rintro e w2 ⟨a2, n2, c2, rfl, ho, hb⟩
  rw [k_frame] at ho
  have hb2 : Below w.heap.size w w2 := (hb1.alloc hb1.size _).trans (hb.mono (by simp; have := hb1.size; omega))
  clear hb
  go_wp2_with fail
  refine (sum_any _ _ _ [[49, 50, 51, 52, 53, 54, 55, 56, 57]] _ (Bss.oneAt (by simp) (Bs.litAt [49, 50, 51, 52, 53, 54, 55, 56, 57] (9, 10) rfl (by simp [maxLen])))).mono ?_
  rintro e w3 ⟨rfl, hb⟩
  have hb23 : Below w2.heap.size w2 w3 := (((Below.refl _ _).alloc (Nat.le_refl _) _).alloc (by simp) _).trans (hb.mono (by simp; omega))
  have hb3 : Below w.heap.size w w3 := hb2.trans (hb23.mono hb2.size)
  have hc := conv_bytes (ho.below hb23).bs
  have es : Codec.sum [[49, 50, 51, 52, 53, 54, 55, 56, 57]].flatten = 3808858755 := k_sum
  rw [es]
  have e1 : (n32 3808858755 == 3808858755) = true := by decide
  have e2 : ((bstr [1, 48, 67, 208, 193, 97]).toList == [1, 48, 67, 208, 193, 97]) = true := by rw [bstr_toList]; rfl
  clear hb
  go_wp2
  go_ret
  exact ⟨rfl, hb3⟩
end Go.Proofs.Ytfjgapfkobpkhaa
