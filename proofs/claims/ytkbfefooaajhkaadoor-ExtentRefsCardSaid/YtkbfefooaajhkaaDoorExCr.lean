/- Chunks, the reference's. -/
import Derived.Test.YtkbfefooaajhkaaDoorExC
import Derived.Test.YtkbfefooaajhkaaDoorXdH
set_option maxRecDepth 100000
set_option linter.unusedVariables false
set_option linter.unusedSimpArgs false
namespace Go.Proofs.YtkbfefooaajhkaaDoor
open Go.RowKit

theorem good_iff {b dl : List UInt8} (hd : b.drop 4 = dl) (h4 : 4 ≤ b.length) : Codec.four (Codec.sum dl) = b.take 4 ↔ Codec.sum dl = Codec.rf4 (nth b 0) (nth b 1) (nth b 2) (nth b 3) := by
  rw [Codec.rf4_iff, take4 b h4]
  exact eq_comm
set_option maxHeartbeats 1000000 in
theorem rchunk_any (bk id k : Nat) (L : List Wr) (h : Hd) (w : World) (hu : U64 id) (hk : KeysAt w bk L) (ok : h.Ok) (hkc : k * h.chunk < h.size) :
    Calls Tryd.prog 48 #[.pointer (some ⟨bk, 0, none⟩), .int .u64 id, hval h, .int .i64 k] w (ChR w (Ex.chunk L id h k)) := by
  have hk32 : k < 4294967296 := by
    have h1 := Nat.mul_le_mul_left k ok.pos
    have h2 := ok.size
    omega
  obtain ⟨v, hv, hg⟩ := get_any bk L (Ex.ck id k) w hk
  have HG := Lib.hid hg
  have hlk : Ex.chunk L id h k = Ex.pick h k (Kv.get L (Ex.ck id k)) := rfl
  rw [hlk]
  clear hlk hg hk
  have hcells := hd_cells w h 55
  obtain ⟨w1, hw1⟩ : ∃ w1, w.alloc (.cells #[.int .i64 h.size, .int .i64 h.chunk, .int .i64 h.refs, .int .u32 (n32 h.sum)] 55) = w1 := ⟨_, rfl⟩
  have hb1 : Below w.heap.size w w1 := by rw [← hw1]; exact below_alloc1 _ _
  rw [hw1] at hcells
  have HB1 := Lib.hid hb1
  have HW1 := Lib.hid hw1
  obtain ⟨c0, c1, c2, c3⟩ := hcells
  have HKEY := Lib.hid (fun W : World => by have := rck_any id (k : Int) hu (by omega) W; rw [low_nat hk32] at this; exact this)
  have hll := len_le h k ok
  obtain ⟨m, hm⟩ : ∃ m, m = k * h.chunk := ⟨_, rfl⟩
  have e2 : (k : Int) * (h.chunk : Int) = (m : Int) := by rw [hm, Int.natCast_mul]
  have hok1 := ok.size
  have hok2 := ok.chunk
  rw [← hm] at hkc
  obtain ⟨d, hd⟩ : ∃ d, d = h.size - m := ⟨_, rfl⟩
  have e3 : (h.size : Int) - (m : Int) = (d : Int) := by omega
  have hNd : h.len k = min h.chunk d := by unfold Hd.len; rw [hd, hm]
  have HVAL : Hid (hval h = .agg #[.int .i64 h.size, .int .i64 h.chunk, .int .i64 h.refs, .int .u32 (n32 h.sum)]) := Lib.hid rfl
  rw [HVAL.out]
  have HPN1 := Lib.hid (fun (b : List UInt8) (q : b.length ≠ 4 + h.len k) => pick_no (h := h) (k := k) (b := b) (fun g => q g.1))
  have HPN2 := Lib.hid (fun (b : List UInt8) (q : ¬ Codec.four (Codec.sum (b.drop 4)) = b.take 4) => pick_no (h := h) (k := k) (b := b) (fun g => q g.2))
  have HPY := Lib.hid (fun (b : List UInt8) (q1 : b.length = 4 + h.len k) (q : Codec.four (Codec.sum (b.drop 4)) = b.take 4) => pick_yes (h := h) (k := k) (b := b) ⟨q1, q⟩)
  generalize h.len k = N at *
  clear hm hd hw1 hb1 HVAL
  have HPQ : Hid (∀ o, Ex.pick h k o = Ex.pick h k o) := Lib.hid fun _ => rfl
  generalize h.size = S at *
  generalize h.chunk = C at *
  generalize h.refs = R at *
  have HNIL : Hid (Ex.pick h k none = none) := Lib.hid rfl
  generalize hE : Ex.pick h k = PK at *
  clear hE HPQ
  have HVS := Lib.hid (fun (W : World) (q : Below w1.heap.size w1 W) => And.intro (cell_later q c0) (cell_later q c1))
  by_cases hdc : C < d
  case pos =>
    have t1 : decide (C < d) = true := decide_eq_true hdc
    obtain rfl : N = C := by omega
    clear hNd
    rcases hv with ⟨hno, rfl⟩ | ⟨a, c, b, hyes, rfl, hbs⟩
    · rw [hno]
      clear hno
      go_enter Tryd.func48, Tryd.ntmps48
      go_upto_region 1 with fail
      rw [HW1.out]
      go_wp2_with fail
      refine (HKEY.out _).mono ?_
      rintro e w2 ⟨rfl, hb2⟩
      have HB2 := Lib.hid (HB1.out.trans (hb2.mono HB1.out.size))
      clear hb2
      go_wp2_with fail
      refine (HG.out _ HB2.out).mono ?_
      rintro e w3 ⟨rfl, rfl⟩
      go_wp2
      go_ret2
      exact ⟨.inl ⟨HNIL.out, rfl⟩, HB2.out⟩
    · rw [hyes]
      clear hyes
      have HBS0 := Lib.hid hbs
      have hbl := hbs.le.1
      have hbn : b.length ≤ c := hbs.2.1
      clear hbs
      by_cases hlen : b.length = 4 + N
      case neg =>
        have HP := Lib.hid (HPN1.out b hlen)
        have t2 : ((b.length : Int) != (N : Int) + 4) = true := by simp; omega
        have e5 : IntKind.i64.wrap ((N : Int) + 4) = (N : Int) + 4 := by rw [IntKind.wrap_i64]; omega
        clear hlen
        go_enter Tryd.func48, Tryd.ntmps48
        go_upto_region 1 with fail
        rw [HW1.out]
        go_wp2_with fail
        refine (HKEY.out _).mono ?_
        rintro e w2 ⟨rfl, hb2⟩
        have HB2 := Lib.hid (HB1.out.trans (hb2.mono HB1.out.size))
        clear hb2
        go_wp2_with fail
        refine (HG.out _ HB2.out).mono ?_
        rintro e w3 ⟨rfl, rfl⟩
        go_wp2
        go_ret2
        exact ⟨.inl ⟨HP.out, rfl⟩, HB2.out⟩
      have HPY2 := Lib.hid (HPY.out b hlen)
      have HPN3 := Lib.hid (HPN2.out b)
      have HGI := Lib.hid (good_iff (b := b) rfl (by omega))
      have HB4 : Hid (4 ≤ b.length) := Lib.hid (by omega)
      have t2 : ((b.length : Int) != (N : Int) + 4) = false := by simp; omega
      have hsl : ∀ W, (Instr.slice 22 (.slice a b.length c) (some (.int .i64 4)) none none).run Tryd.prog W = .ok (.slice (subA a c 4) N (c - 4)) W := fun W => by
        have := slice_l a b.length c (lo := 4) (lo' := 4) rfl (by omega) W
        rw [this, show b.length - 4 = N by omega]
      have HDR : Hid (Bs w (subA a c 4) N (c - 4) (b.drop 4)) := Lib.hid (by have := HBS0.out.drop (k := 4) (by omega); rwa [show b.length - 4 = N by omega] at this)
      have HNL : Hid ((b.drop 4).length = N) := Lib.hid (by rw [List.length_drop]; omega)
      generalize subA a c 4 = ab at *
      generalize c - 4 = cb at *
      generalize b.drop 4 = dl at *
      generalize b.take 4 = tk at *
      have HRF := Lib.hid (fun (W : World) (hb : Bs W a b.length c b) => readfour_any a b.length c b W hb HB4.out)
      generalize Codec.rf4 (nth b 0) (nth b 1) (nth b 2) (nth b 3) = rv at *
      have e5 : IntKind.i64.wrap ((N : Int) + 4) = (N : Int) + 4 := by rw [IntKind.wrap_i64]; omega
      clear hlen
      have walk := True.intro
      by_cases hsum : Codec.sum dl = rv
      case pos =>
        have t5 : (Codec.sum dl == rv) = true := by simp [hsum]
        have HP := Lib.hid (HPY2.out (HGI.out.2 hsum))
        clear hsum
        go_enter Tryd.func48, Tryd.ntmps48
        go_upto_region 1 with fail
        rw [HW1.out]
        go_wp2_with fail
        refine (HKEY.out _).mono ?_
        rintro e w2 ⟨rfl, hb2⟩
        have HB2 := Lib.hid (HB1.out.trans (hb2.mono HB1.out.size))
        clear hb2
        go_wp2_with fail
        refine (HG.out _ HB2.out).mono ?_
        rintro e w3 ⟨rfl, rfl⟩
        go_wp2_with fail
        refine (refsum_any ab N cb dl _ (HDR.out.below HB2.out)).mono ?_
        rintro e w4 ⟨rfl, rfl⟩
        go_wp2_with fail
        refine (HRF.out _ (HBS0.out.below HB2.out)).mono ?_
        rintro e w5 ⟨rfl, hb5⟩
        have HB5 := Lib.hid (HB2.out.trans (hb5.mono HB2.out.size))
        clear hb5
        go_wp2
        go_ret2
        exact ⟨.inr ⟨ab, cb, dl, HP.out, by rw [HNL.out]; rfl, by rw [HNL.out]; exact HDR.out.below HB5.out⟩, HB5.out⟩
      case neg =>
        have t5 : (Codec.sum dl == rv) = false := by simp [hsum]
        have HP := Lib.hid (HPN3.out (fun q => hsum (HGI.out.1 q)))
        clear hsum
        go_enter Tryd.func48, Tryd.ntmps48
        go_upto_region 1 with fail
        rw [HW1.out]
        go_wp2_with fail
        refine (HKEY.out _).mono ?_
        rintro e w2 ⟨rfl, hb2⟩
        have HB2 := Lib.hid (HB1.out.trans (hb2.mono HB1.out.size))
        clear hb2
        go_wp2_with fail
        refine (HG.out _ HB2.out).mono ?_
        rintro e w3 ⟨rfl, rfl⟩
        go_wp2_with fail
        refine (refsum_any ab N cb dl _ (HDR.out.below HB2.out)).mono ?_
        rintro e w4 ⟨rfl, rfl⟩
        go_wp2_with fail
        refine (HRF.out _ (HBS0.out.below HB2.out)).mono ?_
        rintro e w5 ⟨rfl, hb5⟩
        have HB5 := Lib.hid (HB2.out.trans (hb5.mono HB2.out.size))
        clear hb5
        go_wp2
        go_ret2
        exact ⟨.inl ⟨HP.out, rfl⟩, HB5.out⟩
  case neg =>
    have t1 : decide (C < d) = false := decide_eq_false hdc
    obtain rfl : N = d := by omega
    clear hNd
    rcases hv with ⟨hno, rfl⟩ | ⟨a, c, b, hyes, rfl, hbs⟩
    · rw [hno]
      clear hno
      go_enter Tryd.func48, Tryd.ntmps48
      go_upto_region 1 with fail
      rw [HW1.out]
      go_wp2_with fail
      refine (HKEY.out _).mono ?_
      rintro e w2 ⟨rfl, hb2⟩
      have HB2 := Lib.hid (HB1.out.trans (hb2.mono HB1.out.size))
      clear hb2
      go_wp2_with fail
      refine (HG.out _ HB2.out).mono ?_
      rintro e w3 ⟨rfl, rfl⟩
      go_wp2
      go_ret2
      exact ⟨.inl ⟨HNIL.out, rfl⟩, HB2.out⟩
    · rw [hyes]
      clear hyes
      have HBS0 := Lib.hid hbs
      have hbl := hbs.le.1
      have hbn : b.length ≤ c := hbs.2.1
      clear hbs
      by_cases hlen : b.length = 4 + N
      case neg =>
        have HP := Lib.hid (HPN1.out b hlen)
        have t2 : ((b.length : Int) != (N : Int) + 4) = true := by simp; omega
        have e5 : IntKind.i64.wrap ((N : Int) + 4) = (N : Int) + 4 := by rw [IntKind.wrap_i64]; omega
        clear hlen
        go_enter Tryd.func48, Tryd.ntmps48
        go_upto_region 1 with fail
        rw [HW1.out]
        go_wp2_with fail
        refine (HKEY.out _).mono ?_
        rintro e w2 ⟨rfl, hb2⟩
        have HB2 := Lib.hid (HB1.out.trans (hb2.mono HB1.out.size))
        clear hb2
        go_wp2_with fail
        refine (HG.out _ HB2.out).mono ?_
        rintro e w3 ⟨rfl, rfl⟩
        go_wp2
        go_ret2
        exact ⟨.inl ⟨HP.out, rfl⟩, HB2.out⟩
      have HPY2 := Lib.hid (HPY.out b hlen)
      have HPN3 := Lib.hid (HPN2.out b)
      have HGI := Lib.hid (good_iff (b := b) rfl (by omega))
      have HB4 : Hid (4 ≤ b.length) := Lib.hid (by omega)
      have t2 : ((b.length : Int) != (N : Int) + 4) = false := by simp; omega
      have hsl : ∀ W, (Instr.slice 22 (.slice a b.length c) (some (.int .i64 4)) none none).run Tryd.prog W = .ok (.slice (subA a c 4) N (c - 4)) W := fun W => by
        have := slice_l a b.length c (lo := 4) (lo' := 4) rfl (by omega) W
        rw [this, show b.length - 4 = N by omega]
      have HDR : Hid (Bs w (subA a c 4) N (c - 4) (b.drop 4)) := Lib.hid (by have := HBS0.out.drop (k := 4) (by omega); rwa [show b.length - 4 = N by omega] at this)
      have HNL : Hid ((b.drop 4).length = N) := Lib.hid (by rw [List.length_drop]; omega)
      generalize subA a c 4 = ab at *
      generalize c - 4 = cb at *
      generalize b.drop 4 = dl at *
      generalize b.take 4 = tk at *
      have HRF := Lib.hid (fun (W : World) (hb : Bs W a b.length c b) => readfour_any a b.length c b W hb HB4.out)
      generalize Codec.rf4 (nth b 0) (nth b 1) (nth b 2) (nth b 3) = rv at *
      have e5 : IntKind.i64.wrap ((N : Int) + 4) = (N : Int) + 4 := by rw [IntKind.wrap_i64]; omega
      clear hlen
      have walk := True.intro
      by_cases hsum : Codec.sum dl = rv
      case pos =>
        have t5 : (Codec.sum dl == rv) = true := by simp [hsum]
        have HP := Lib.hid (HPY2.out (HGI.out.2 hsum))
        clear hsum
        go_enter Tryd.func48, Tryd.ntmps48
        go_upto_region 1 with fail
        rw [HW1.out]
        go_wp2_with fail
        refine (HKEY.out _).mono ?_
        rintro e w2 ⟨rfl, hb2⟩
        have HB2 := Lib.hid (HB1.out.trans (hb2.mono HB1.out.size))
        clear hb2
        go_wp2_with fail
        refine (HG.out _ HB2.out).mono ?_
        rintro e w3 ⟨rfl, rfl⟩
        go_wp2_with fail
        refine (refsum_any ab N cb dl _ (HDR.out.below HB2.out)).mono ?_
        rintro e w4 ⟨rfl, rfl⟩
        go_wp2_with fail
        refine (HRF.out _ (HBS0.out.below HB2.out)).mono ?_
        rintro e w5 ⟨rfl, hb5⟩
        have HB5 := Lib.hid (HB2.out.trans (hb5.mono HB2.out.size))
        clear hb5
        go_wp2
        go_ret2
        exact ⟨.inr ⟨ab, cb, dl, HP.out, by rw [HNL.out]; rfl, by rw [HNL.out]; exact HDR.out.below HB5.out⟩, HB5.out⟩
      case neg =>
        have t5 : (Codec.sum dl == rv) = false := by simp [hsum]
        have HP := Lib.hid (HPN3.out (fun q => hsum (HGI.out.1 q)))
        clear hsum
        go_enter Tryd.func48, Tryd.ntmps48
        go_upto_region 1 with fail
        rw [HW1.out]
        go_wp2_with fail
        refine (HKEY.out _).mono ?_
        rintro e w2 ⟨rfl, hb2⟩
        have HB2 := Lib.hid (HB1.out.trans (hb2.mono HB1.out.size))
        clear hb2
        go_wp2_with fail
        refine (HG.out _ HB2.out).mono ?_
        rintro e w3 ⟨rfl, rfl⟩
        go_wp2_with fail
        refine (refsum_any ab N cb dl _ (HDR.out.below HB2.out)).mono ?_
        rintro e w4 ⟨rfl, rfl⟩
        go_wp2_with fail
        refine (HRF.out _ (HBS0.out.below HB2.out)).mono ?_
        rintro e w5 ⟨rfl, hb5⟩
        have HB5 := Lib.hid (HB2.out.trans (hb5.mono HB2.out.size))
        clear hb5
        go_wp2
        go_ret2
        exact ⟨.inl ⟨HP.out, rfl⟩, HB5.out⟩
end Go.Proofs.YtkbfefooaajhkaaDoor
