/- The walk of the law CodecBack. -/
import Derived.Test.YtfjgapfkobpkhaaCodecH
import Derived.Test.YtfjgapfkobpkhaaCodecK
namespace Go.Proofs.Ytfjgapfkobpkhaa
open Go.RowKit

theorem rdFrame_len {l : List UInt8} (h : (Codec.rdFrame l).2.2 = 0) : (Codec.rdFrame l).1.length ≤ 67108864 ∧ (Codec.decFrame l).2.2 = 0 := by
  have h1 : (Codec.decFrame l).2.2 = 0 := by
    unfold Codec.rdFrame at h
    by_cases h0 : (Codec.decFrame l).2.2 = 0
    · exact h0
    · rw [if_neg h0] at h
      exact absurd h h0
  refine ⟨?_, h1⟩
  obtain ⟨n, k, _, hn, _, _, he, _, _⟩ := Codec.decFrame_ok h1
  unfold Codec.rdFrame
  rw [if_pos h1, he]
  simp
  omega

set_option maxHeartbeats 20000000 in
theorem codecBack_walk (v : Nat) (ax ab : Option Addr) (nx cx nb cb : Nat) (x b : List UInt8) (w : World) (hv : U64 v) (hx : Bs w ax nx cx x) (hb : Bs w ab nb cb b) (fx : Fits nx) (fb : Fits nb) :
    Calls Try.prog 6 #[.int .u64 v, .slice ax nx cx, .slice ab nb cb] w fun e w' => e = .returned (.bool true) ∧ Below w.heap.size w w' := by
  have hlex := hx.le.1
  have hleb := hb.le.1
  have hcb := hb.2.1
  have HX := Lib.hid hx.1
  have HB := Lib.hid hb.1
  go_enter Try.func6, Try.ntmps6
  go_wp2_with fail
  refine (known_any _).mono ?_
  rintro e w1 ⟨rfl, hb1⟩
  by_cases g1 : 65536 < nx
  · have t1 : decide ((65536 : Int) < (nx : Int)) = true := decide_eq_true (by omega)
    go_wp2
    go_ret
    exact ⟨rfl, hb1⟩
  have t1 : decide ((65536 : Int) < (nx : Int)) = false := decide_eq_false (by omega)
  by_cases g2 : 65536 < nb
  · have t2 : decide ((65536 : Int) < (nb : Int)) = true := decide_eq_true (by omega)
    go_wp2
    go_ret
    exact ⟨rfl, hb1⟩
  have t2 : decide ((65536 : Int) < (nb : Int)) = false := decide_eq_false (by omega)
  go_wp2_with fail
  refine (number_any _ _ _ [] v _ (Bs.nil _) hv ⟨by omega⟩).mono ?_
  rintro e w2 ⟨a2, n2, c2, rfl, ho2, hb2⟩
  have hb2' := hb1.trans (hb2.mono hb1.size)
  have l2 : (Codec.enc v).length = n2 := ho2.bs.1
  have e2 := Codec.enc_len10 hv.lt
  have hn2 : n2 ≤ 10 := by omega
  have L2 := Lib.hid l2
  clear l2 e2
  go_wp2_with (first | (at_builtin; refine app_own (l := []) rfl _ _ rfl w2.heap.size rfl (Own.lit w2 w2.heap.size [] (Nat.le_refl _) (by simp [maxLen])) rfl (ho2.bs.below ((Below.refl _ _).alloc (Nat.le_refl _) _)) (by simp; omega) (le_alloc (Nat.le_refl _)) ?_; intro a3 c3 w3 h3 hb3 _; simp only [List.length_nil, Nat.zero_add, List.nil_append] at h3; have hb3' := ((Below.refl w2.heap.size w2).alloc (Nat.le_refl _) _).trans hb3) | (at_builtin; refine app_own rfl _ _ rfl w2.heap.size rfl h3 rfl (hb.below (hb2'.trans (hb3'.mono hb2'.size))) (by omega) hb3'.size ?_; intro a4 c4 w4 h4 hb4 _))
  have hb4' := hb3'.trans hb4
  have hbw4 := hb2'.trans (hb4'.mono hb2'.size)
  refine (readnum_any _ _ _ _ _ h4.bs).mono ?_
  rintro e w5 ⟨rfl, rfl⟩
  have d5 : Codec.dec (Codec.enc v ++ b) = (v, n2, 0) := by rw [Codec.dec_enc hv.lt, L2.out]
  rw [d5]
  have t5 : ((v : Int) != (v : Int)) = false := by simp
  have t6 : ((n2 : Int) != (n2 : Int)) = false := by simp
  go_wp2_with fail
  refine (frame_any _ _ _ x _ (hx.below hbw4) ⟨by omega⟩).mono ?_
  rintro e w6 ⟨a6, n6, c6, rfl, ho6, hb6⟩
  have hbw6 := hbw4.trans (hb6.mono hbw4.size)
  have l6 : (Codec.frame x).length = n6 := ho6.bs.1
  have e6 := frame_len (x := x) ⟨by rw [HX.out]; omega⟩
  have hn6 : n6 ≤ nx + 14 := by have := HX.out; omega
  have L6 := Lib.hid l6
  clear l6 e6 h3 h4 hb3 hb4 hb3' hb4'
  go_wp2_with (first | (at_builtin; refine app_own (l := []) rfl _ _ rfl w6.heap.size rfl (Own.lit w6 w6.heap.size [] (Nat.le_refl _) (by simp [maxLen])) rfl (ho6.bs.below ((Below.refl _ _).alloc (Nat.le_refl _) _)) (by simp; omega) (le_alloc (Nat.le_refl _)) ?_; intro a7 c7 w7 h7 hb7 _; simp only [List.length_nil, Nat.zero_add, List.nil_append] at h7; have hb7' := ((Below.refl w6.heap.size w6).alloc (Nat.le_refl _) _).trans hb7) | (at_builtin; refine app_own rfl _ _ rfl w6.heap.size rfl h7 rfl (hb.below (hbw6.trans (hb7'.mono hbw6.size))) (by omega) hb7'.size ?_; intro a8 c8 w8 h8 hb8 _))
  have hb8' := hb7'.trans hb8
  have hbw8 := hbw6.trans (hb8'.mono hbw6.size)
  refine (readframe_any _ _ _ _ _ h8.bs ⟨by omega⟩).mono ?_
  rintro e w9 ⟨a9, n9, c9, rfl, h9, hb9⟩
  have d9 : Codec.rdFrame (Codec.frame x ++ b) = (x, n6, 0) := by
    rw [(Codec.decFrame_frame (by rw [HX.out]; omega) b).2, L6.out]
  rw [d9] at h9 ⊢
  have hbw9 := hbw8.trans (hb9.mono hbw8.size)
  go_wp2_with fail
  refine (same_any _ _ _ _ _ _ _ _ _ h9 (hx.below hbw9)).mono ?_
  rintro e w10 ⟨rfl, rfl⟩
  have s10 : decide (((x, n6, 0) : List UInt8 × Nat × Nat).1 = x) = true := by simp
  rw [s10]
  have t7 : ((n6 : Int) != (n6 : Int)) = false := by simp
  clear h7 h8 hb7 hb8 hb7' hb8' h9
  go_wp2_with fail
  refine (readnum_any _ _ _ _ _ (hb.below hbw9)).mono ?_
  rintro e w11 ⟨rfl, rfl⟩
  obtain ⟨u, k, er, hd⟩ : ∃ u k er, Codec.dec b = (u, k, er) := ⟨_, _, _, rfl⟩
  rw [hd]
  have HW := Lib.hid hbw9
  clear hbw9 hbw8 hbw6 hbw4 hb1 hb2 hb2' ho2 ho6 hb6 hb9 t1 t2 t5 t6 t7 g1 g2 s10 d5 d9 L2 L6 hn2 hn6 hx HX fx hv hlex
  by_cases he : er = 0
  · subst he
    obtain ⟨henc, hk0, hkl, hk10, hu64⟩ := Codec.dec_back hd
    rw [HB.out] at hkl
    have HENC := Lib.hid henc
    have hu : U64 u := ⟨hu64⟩
    have hsl0 := fun w => slice_h ab nb cb (hi := (k : Int)) (hi' := k) rfl (by omega) w
    clear hd henc hu64
    have hf0 : Fits 0 := ⟨by omega⟩
    have s13 : Hid (decide ([] ++ Codec.enc u = List.take k b) = true) := decide_eq_true HENC.out
    go_wp2_with fail
    go_region_with (first | (go_at_call 16; refine (number_any _ _ _ [] u _ (Bs.nil _) hu hf0).mono ?_; rintro e w12 ⟨a12, n12, c12, rfl, ho12, hb12⟩) | (go_at_call 17; refine (same_any _ _ _ _ _ _ _ _ _ ho12.bs ((hb.below (HW.out.drew.trans (hb12.mono HW.out.size))).take hkl)).mono ?_; rintro e w13 ⟨rfl, rfl⟩; rw [s13.out]))
    have hbw12 : Below w.heap.size w w12 := HW.out.drew.trans (hb12.mono HW.out.size)
    clear HW hsl0
    have HW := Lib.hid hbw12
    clear hbw12
    -- the frame that is read
    go_wp2_with fail
    refine (readframe_any _ _ _ _ _ (hb.below HW.out) fb).mono ?_
    rintro e w15 ⟨a15, n15, c15, rfl, h15, hb15⟩
    have hbw15 := HW.out.trans (hb15.mono HW.out.size)
    have L15 := Lib.hid h15.1
    by_cases hf : (Codec.rdFrame b).2.2 = 0
    · obtain ⟨hrl, hdf⟩ := rdFrame_len hf
      obtain ⟨hbk, hrk⟩ := Codec.rdFrame_back hdf
      obtain ⟨n', k', _, hnm, hnl, _, hdd, _, hkl⟩ := Codec.decFrame_ok hdf
      have hk1 : (Codec.rdFrame b).2.1 ≤ nb := by rw [hrk, hdd, ← HB.out]; exact hkl
      have hrw : Codec.frame (Codec.rdFrame b).1 = b.take (Codec.rdFrame b).2.1 := by rw [hbk, hrk]
      rw [hf]
      generalize (Codec.rdFrame b).2.1 = kk at *
      have HRW := Lib.hid hrw
      have hn15 : n15 ≤ 67108864 := by have h1 := L15.out; omega
      have hsl := fun w => slice_h ab nb cb (hi := (kk : Int)) (hi' := kk) rfl (by omega) w
      clear hf hrl hdf hbk hrk hnm hnl hdd hkl hrw
      have f15 : Fits (n15 + 20) := ⟨by omega⟩
      have H15 := Lib.hid (h15.below (Below.refl _ _).drew)
      have HB15 := Lib.hid hbw15
      have s17 : Hid (decide (Codec.frame (Codec.rdFrame b).1 = List.take kk b) = true) := decide_eq_true HRW.out
      clear h15 hb15 hbw15
      go_wp2_with fail
      go_region_with (first | (go_at_call 22; refine (frame_any _ _ _ _ _ H15.out f15).mono ?_; rintro e w16 ⟨a16, n16, c16, rfl, ho16, hb16⟩) | (go_at_call 17; refine (same_any _ _ _ _ _ _ _ _ _ ho16.bs ((hb.below (HB15.out.drew.trans (hb16.mono HB15.out.size))).take hk1)).mono ?_; rintro e w17 ⟨rfl, rfl⟩; rw [s17.out]))
      have hbw16 : Below w.heap.size w w16 := HB15.out.drew.trans (hb16.mono HB15.out.size)
      go_wp2
      go_ret
      exact ⟨rfl, hbw16⟩
    · have t9 : (((Codec.rdFrame b).2.2 : Int) != 0) = true := by simp; omega
      generalize (Codec.rdFrame b).2.2 = er at *
      clear hf
      go_wp2_with fail
      go_quiet (fail)
      go_wp2
      go_ret
      exact ⟨rfl, below_drewN hbw15 _⟩
  · have t8 : ((er : Int) == 0) = false := by simp; omega
    clear hd
    go_wp2_with fail
    go_quiet (fail)
    have HW0 := HW.out
    clear HW
    have HW := Lib.hid (below_drewN HW0 nq)
    clear HW0
    -- the frame that is read
    go_wp2_with fail
    refine (readframe_any _ _ _ _ _ (hb.below HW.out) fb).mono ?_
    rintro e w15 ⟨a15, n15, c15, rfl, h15, hb15⟩
    have hbw15 := HW.out.trans (hb15.mono HW.out.size)
    have L15 := Lib.hid h15.1
    by_cases hf : (Codec.rdFrame b).2.2 = 0
    · obtain ⟨hrl, hdf⟩ := rdFrame_len hf
      obtain ⟨hbk, hrk⟩ := Codec.rdFrame_back hdf
      obtain ⟨n', k', _, hnm, hnl, _, hdd, _, hkl⟩ := Codec.decFrame_ok hdf
      have hk1 : (Codec.rdFrame b).2.1 ≤ nb := by rw [hrk, hdd, ← HB.out]; exact hkl
      have hrw : Codec.frame (Codec.rdFrame b).1 = b.take (Codec.rdFrame b).2.1 := by rw [hbk, hrk]
      rw [hf]
      generalize (Codec.rdFrame b).2.1 = kk at *
      have HRW := Lib.hid hrw
      have hn15 : n15 ≤ 67108864 := by have h1 := L15.out; omega
      have hsl := fun w => slice_h ab nb cb (hi := (kk : Int)) (hi' := kk) rfl (by omega) w
      clear hf hrl hdf hbk hrk hnm hnl hdd hkl hrw
      have f15 : Fits (n15 + 20) := ⟨by omega⟩
      have H15 := Lib.hid (h15.below (Below.refl _ _).drew)
      have HB15 := Lib.hid hbw15
      have s17 : Hid (decide (Codec.frame (Codec.rdFrame b).1 = List.take kk b) = true) := decide_eq_true HRW.out
      clear h15 hb15 hbw15
      go_wp2_with fail
      go_region_with (first | (go_at_call 22; refine (frame_any _ _ _ _ _ H15.out f15).mono ?_; rintro e w16 ⟨a16, n16, c16, rfl, ho16, hb16⟩) | (go_at_call 17; refine (same_any _ _ _ _ _ _ _ _ _ ho16.bs ((hb.below (HB15.out.drew.trans (hb16.mono HB15.out.size))).take hk1)).mono ?_; rintro e w17 ⟨rfl, rfl⟩; rw [s17.out]))
      have hbw16 : Below w.heap.size w w16 := HB15.out.drew.trans (hb16.mono HB15.out.size)
      go_wp2
      go_ret
      exact ⟨rfl, hbw16⟩
    · have t9 : (((Codec.rdFrame b).2.2 : Int) != 0) = true := by simp; omega
      generalize (Codec.rdFrame b).2.2 = er at *
      clear hf
      go_wp2_with fail
      go_quiet (fail)
      go_wp2
      go_ret
      exact ⟨rfl, below_drewN hbw15 _⟩
end Go.Proofs.Ytfjgapfkobpkhaa
