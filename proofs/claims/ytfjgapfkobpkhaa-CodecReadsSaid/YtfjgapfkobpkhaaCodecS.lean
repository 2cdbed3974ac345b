/- The walk of the law CodecReads. -/
import Derived.Test.YtfjgapfkobpkhaaCodecR
import Derived.Test.YtfjgapfkobpkhaaCodecK
namespace Go.Proofs.Ytfjgapfkobpkhaa
open Go.RowKit

set_option maxHeartbeats 4000000 in
theorem codecReads_walk (ab : Option Addr) (nb cb : Nat) (b : List UInt8) (most : Int) (w : World) (hb : Bs w ab nb cb b) (fb : Fits nb) (hm : -9223372036854775808 ≤ most ∧ most ≤ 9223372036854775807) :
    Calls Try.prog 9 #[.slice ab nb cb, .int .i64 most] w fun e w' => e = .returned (.bool true) ∧ Below w.heap.size w w' := by
  have hle := hb.le.1
  have HM := Lib.hid hm
  clear hm
  go_enter Try.func9, Try.ntmps9
  go_wp2_with fail
  refine (known_any _).mono ?_
  rintro e w1 ⟨rfl, hb1⟩
  by_cases g1 : 65536 < nb
  · have t1 : decide ((65536 : Int) < (nb : Int)) = true := decide_eq_true (by omega)
    go_wp2
    go_ret
    exact ⟨rfl, hb1⟩
  have t1 : decide ((65536 : Int) < (nb : Int)) = false := decide_eq_false (by omega)
  have hnb : nb ≤ 65536 := by omega
  clear g1
  have hne : ∀ k : Nat, ((k : Int) != (k : Int)) = false := fun k => by simp
  go_wp2_with fail
  refine (readnum_any _ _ _ b _ (hb.below hb1)).mono ?_
  rintro e w2 ⟨rfl, rfl⟩
  go_wp2_with fail
  refine (refreadnum_any _ _ _ b _ (hb.below hb1)).mono ?_
  rintro e w2 ⟨rfl, rfl⟩
  generalize Codec.dec b = r1
  obtain ⟨u1, k1, e1⟩ := r1
  dsimp only
  have s1 := hne u1
  have s2 := hne k1
  have s3 := hne e1
  go_wp2_with fail
  refine (readbytes_any _ _ _ b most _ (hb.below hb1) fb HM.out.1 HM.out.2).mono ?_
  rintro e w3 ⟨a3, n3, c3, rfl, h3, hb3⟩
  have hbl3 := hb1.trans (hb3.mono hb1.size)
  clear s1 s2 s3
  go_wp2_with fail
  refine (refreadbytes_any _ _ _ b most _ (hb.below hbl3) HM.out.2).mono ?_
  rintro e w4 ⟨a4, n4, c4, rfl, h4, hb4⟩
  have hbl4 := hbl3.trans (hb4.mono hbl3.size)
  have h3' := h3.below hb4
  clear h3 hb3 hb4 hbl3 hb1
  generalize Codec.rdBytes b most = r2 at *
  obtain ⟨l2, k2, e2⟩ := r2
  dsimp only at *
  have s2 := hne k2
  have s3 := hne e2
  go_wp2_with fail
  refine (same_any _ _ _ _ _ _ _ _ _ h3' h4).mono ?_
  rintro e w5 ⟨rfl, rfl⟩
  rw [show decide (l2 = l2) = true from decide_eq_true rfl]
  clear h3' h4
  go_wp2_with fail
  refine (readframe_any _ _ _ b _ (hb.below hbl4) fb).mono ?_
  rintro e w5 ⟨a5, n5, c5, rfl, h5, hb5⟩
  have hbl5 := hbl4.trans (hb5.mono hbl4.size)
  clear s2 s3
  go_wp2_with fail
  refine (refreadframe_any _ _ _ b _ (hb.below hbl5)).mono ?_
  rintro e w6 ⟨a6, n6, c6, rfl, h6, hb6⟩
  have hbl6 := hbl5.trans (hb6.mono hbl5.size)
  have h5' := h5.below hb6
  clear h5 hb5 hb6 hbl5 hbl4
  generalize Codec.rdFrame b = r3 at *
  obtain ⟨l3, k3, e3⟩ := r3
  dsimp only at *
  have s2 := hne k3
  have s3 := hne e3
  go_wp2_with fail
  refine (same_any _ _ _ _ _ _ _ _ _ h5' h6).mono ?_
  rintro e w7 ⟨rfl, rfl⟩
  rw [show decide (l3 = l3) = true from decide_eq_true rfl]
  clear h5' h6
  go_wp2_with fail
  refine (readframes_any _ _ _ b _ (hb.below hbl6) fb (by omega)).mono ?_
  rintro e w7 ⟨a7, n7, c7, rfl, h7, hb7⟩
  have hbl7 := hbl6.trans (hb7.mono hbl6.size)
  clear s2 s3
  go_wp2_with fail
  refine (refreadframes_any _ _ _ b _ (hb.below hbl7) (by omega)).mono ?_
  rintro e w8 ⟨a8, n8_, c8, rfl, h8, hb8⟩
  have hbl8 := hbl7.trans (hb8.mono hbl7.size)
  have h7' := (h7.below hb8).bss
  have h8' := h8.bss
  clear h7 h8 hb7 hb8 hbl7 hbl6
  generalize Codec.rdFrames b = r4 at *
  obtain ⟨ls, k4, e4⟩ := r4
  dsimp only at *
  have hn : n7 = n8_ := by rw [← h7'.1, ← h8'.1]
  subst hn
  have s2 := hne k4
  have s3 := hne e4
  have s5 := hne n7
  have hle7 := h7'.le.1
  go_wp2_with fail
  clear s2 s3 s5
  have HB := Lib.hid hbl8
  clear hbl8
  go_loopw [15] (fun i wr => ∃ k : Nat, k ≤ n7 ∧ i = .int .i64 k ∧ Below w8.heap.size w8 wr) (fun i _ => n7 - (intOf i).toNat)
  case atStart => exact ⟨0, by omega, rfl, Below.refl _ _⟩
  case round =>
    obtain ⟨k, hk, rfl, hbl⟩ := hrel
    by_cases hlt : k < n7
    · obtain ⟨b1, o1, a1, m1, d1, rfl, hc1, hr1⟩ := (h7'.below hbl).get hlt
      obtain ⟨b2, o2, a2, m2, d2, rfl, hc2, hr2⟩ := (h8'.below hbl).get hlt
      have H1 := Lib.hid (hr1.below (Below.refl _ _).drew)
      have H2 := Lib.hid (hr2.below (Below.refl _ _).drew)
      clear hr1 hr2
      go_wp2_with fail
      go_region_with (go_at_call 17; refine (same_any _ _ _ _ _ _ _ _ _ H1.out H2.out).mono ?_; rintro e w9 ⟨rfl, rfl⟩; rw [show decide (nth ls k = nth ls k) = true from decide_eq_true rfl])
      all_goals go_wp2
      all_goals go_roundw
      all_goals first | (simp [intOf]; omega) | exact ⟨k + 1, by omega, by go_num, hbl.drew⟩
    · obtain rfl : k = n7 := by omega
      go_wp2
      go_ret
      exact ⟨rfl, HB.out.trans (hbl.mono HB.out.size)⟩
end Go.Proofs.Ytfjgapfkobpkhaa
