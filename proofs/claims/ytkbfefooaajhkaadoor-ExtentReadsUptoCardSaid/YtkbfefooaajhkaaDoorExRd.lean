/- The walk of ExtentReads. -/
import Derived.Test.YtkbfefooaajhkaaDoorExBk
import Derived.Test.YtkbfefooaajhkaaDoorExWr
set_option maxRecDepth 100000
set_option linter.unusedVariables false
set_option linter.unusedSimpArgs false
namespace Go.Proofs.YtkbfefooaajhkaaDoor
open Go.RowKit

set_option maxHeartbeats 8000000 in
theorem extentReads_walk (al : Option Addr) (nl cl : Nat) (l : List Wr) (id : Nat) (f t mo : Int) (w : World) (h : Ws w al nl cl l) (hc : Wr.costs l ≤ 1000000000) (hu : U64 id) (bf : -9223372036854775808 ≤ f ∧ f ≤ 9223372036854775807) (bt : -9223372036854775808 ≤ t ∧ t ≤ 9223372036854775807) (bm : -9223372036854775808 ≤ mo ∧ mo ≤ 9223372036854775807) (hL : Laid w) :
    Calls Tryd.prog 6 #[.slice al nl cl, .int .u64 id, .int .i64 f, .int .i64 t, .int .i64 mo] w fun e w' => e = .returned (.bool true) ∧ Below w.heap.size w w' := by
  have HLD := Lib.hid hL
  have HE := Lib.hid h
  have hle := h.le.1
  have HN := Lib.hid h.1
  clear h hL
  go_enter Tryd.func6, Tryd.ntmps6
  go_wp2_with fail
  refine (known_any w HLD.out).mono ?_
  rintro e w1 ⟨rfl, hb1⟩
  have HB1 := Lib.hid hb1
  clear hb1
  have HFW := Lib.hid (few_any al nl cl l w1 (HE.out.below HB1.out) hc)
  have HFB : Hid (Wr.fewB l = true → nl ≤ 500) := Lib.hid (fun hb => by
    unfold Wr.fewB at hb
    have h1 := (Bool.and_eq_true_iff.1 hb).1
    have h2 := of_decide_eq_true h1
    have h3 := HN.out
    omega)
  generalize Wr.fewB l = fb at *
  cases fb with
  | false =>
    go_wp2_with fail
    refine HFW.out.mono ?_
    rintro e w2 ⟨rfl, hb2⟩
    have HB2 := Lib.hid (HB1.out.trans (hb2.mono HB1.out.size))
    clear hb2
    go_wp2
    go_ret
    exact ⟨rfl, HB2.out⟩
  | true =>
  have hn5 := HFB.out rfl
  go_wp2_with fail
  refine HFW.out.mono ?_
  rintro e w1 ⟨rfl, hb2⟩
  replace HB1 := Lib.hid (HB1.out.trans (hb2.mono HB1.out.size))
  clear hb2 HFW HFB
  have HB2 : Hid (Below w.heap.size w (w1.alloc (.cells #[.slice none 0 0] 27))) := Lib.hid (HB1.out.alloc HB1.out.size _)
  have HK2 := Lib.hid (keys_new w1)
  have HG : Hid (w.heap.size ≤ w1.heap.size) := Lib.hid HB1.out.size
  go_wp2_with fail
  refine (do_any w1.heap.size al nl cl [] l _ HK2.out (HE.out.below HB2.out) (by simp; omega)).mono ?_
  rintro e w4 ⟨rfl, hk4, ho4⟩
  have HB4 := Lib.hid (HB2.out.trans (ho4.below HB2.out.size (fun x hx => by cases hx; exact HG.out)))
  have HK4 := Lib.hid hk4
  clear hk4 ho4
  generalize Kv.does [] l = K at *
  have HSM := Lib.hid (small_any w1.heap.size id K w4 hu HK4.out)
  generalize Ex.smallB K id = sb at *
  cases sb with
  | false =>
    go_wp2_with fail
    refine HSM.out.mono ?_
    rintro e w5 ⟨rfl, hb5⟩
    have HB5 := Lib.hid (HB4.out.trans (hb5.mono HB4.out.size))
    clear hb5
    go_wp2
    go_ret
    exact ⟨rfl, HB5.out⟩
  | true =>
  go_wp2_with fail
  refine HSM.out.mono ?_
  rintro e w5 ⟨rfl, hb5⟩
  have HB5 := Lib.hid (HB4.out.trans (hb5.mono HB4.out.size))
  have HK5 := Lib.hid (HK4.out.below hb5)
  clear hb5 HSM
  have HLK1 := Lib.hid (fun W (hb : Below w5.heap.size w5 W) => look_any w1.heap.size id K W hu (HK5.out.below hb) (HLD.out.below (HB5.out.trans (hb.mono HB5.out.size))))
  have HLK2 := Lib.hid (fun W (hb : Below w5.heap.size w5 W) => rlook_any w1.heap.size id K W hu (HK5.out.below hb))
  have HRD1 := Lib.hid (fun W (hb : Below w5.heap.size w5 W) => read_any w1.heap.size id K W hu (HK5.out.below hb) (HLD.out.below (HB5.out.trans (hb.mono HB5.out.size))))
  have HRD2 := Lib.hid (fun W (hb : Below w5.heap.size w5 W) => rread_any w1.heap.size id K W hu (HK5.out.below hb))
  have HPT1 := Lib.hid (fun W (hb : Below w5.heap.size w5 W) => part_any w1.heap.size id K f t W hu (HK5.out.below hb) (HLD.out.below (HB5.out.trans (hb.mono HB5.out.size))) bf bt)
  have HPT2 := Lib.hid (fun W (hb : Below w5.heap.size w5 W) => rpart_any w1.heap.size id K f t W hu (HK5.out.below hb) bf bt)
  have HRF1 := Lib.hid (fun W (hb : Below w5.heap.size w5 W) => ref_any w1.heap.size id K mo W hu (HK5.out.below hb) (HLD.out.below (HB5.out.trans (hb.mono HB5.out.size))) bm)
  have HRF2 := Lib.hid (fun W (hb : Below w5.heap.size w5 W) => rref_any w1.heap.size id K mo W hu (HK5.out.below hb) bm)
  have HFR1 := Lib.hid (fun W (hb : Below w5.heap.size w5 W) => free_any w1.heap.size id K W hu (HK5.out.below hb) (HLD.out.below (HB5.out.trans (hb.mono HB5.out.size))))
  have HFR2 := Lib.hid (fun W (hb : Below w5.heap.size w5 W) => rfree_any w1.heap.size id K W hu (HK5.out.below hb))
  unfold src at *
  generalize Ex.look K id = x at *
  generalize Ex.rd K id = R at *
  generalize Ex.part K id f t = P at *
  generalize Ex.ref K id mo = F at *
  generalize Ex.free K id = G at *
  obtain ⟨hd, e0⟩ := x
  obtain ⟨rl, e1⟩ := R
  obtain ⟨pl, e2⟩ := P
  obtain ⟨fl, e3⟩ := F
  obtain ⟨gl, e4⟩ := G
  unfold LookV hval at HLK1 HLK2
  dsimp only at *
  clear HE HN
  have s0 : ((e0 : Int) != (e0 : Int)) = false := by simp
  have s1 : ((e1 : Int) != (e1 : Int)) = false := by simp
  have s2 : ((e2 : Int) != (e2 : Int)) = false := by simp
  have s3 : ((e3 : Int) != (e3 : Int)) = false := by simp
  have s4 : ((e4 : Int) == (e4 : Int)) = true := by simp
  have s5 : ((bstr rl).toList == (bstr rl).toList) = true := by simp
  have s6 : ((bstr pl).toList == (bstr pl).toList) = true := by simp
  go_wp2_with fail
  refine (HLK1.out w5 (Below.refl _ _)).mono ?_
  rintro e w6 ⟨rfl, hb6⟩
  obtain ⟨w7, hw7⟩ : ∃ w7, w6.alloc (.cells #[.int .i64 hd.size, .int .i64 hd.chunk, .int .i64 hd.refs, .int .u32 (n32 hd.sum)] 52) = w7 := ⟨_, rfl⟩
  have hr7 := heap_alloc_new w6 (.cells #[.int .i64 hd.size, .int .i64 hd.chunk, .int .i64 hd.refs, .int .u32 (n32 hd.sum)] 52)
  rw [hw7] at hr7
  have HB7 : Hid (Below w5.heap.size w5 w7) := Lib.hid (by rw [← hw7]; exact hb6.alloc hb6.size _)
  have HW7 := Lib.hid hw7
  have HR7 := Lib.hid hr7
  clear hw7 hr7 hb6
  go_upto_region 10 with fail
  rw [HW7.out]
  go_wp2_with fail
  refine (HLK2.out w7 HB7.out).mono ?_
  rintro e w8 ⟨rfl, hb8⟩
  obtain ⟨w9, hw9⟩ : ∃ w9, w8.alloc (.cells #[.int .i64 hd.size, .int .i64 hd.chunk, .int .i64 hd.refs, .int .u32 (n32 hd.sum)] 55) = w9 := ⟨_, rfl⟩
  have hr9 := heap_alloc_new w8 (.cells #[.int .i64 hd.size, .int .i64 hd.chunk, .int .i64 hd.refs, .int .u32 (n32 hd.sum)] 55)
  rw [hw9] at hr9
  have hb79 : Below w7.heap.size w7 w9 := by rw [← hw9]; exact hb8.alloc hb8.size _
  have HB9 : Hid (Below w5.heap.size w5 w9) := Lib.hid (HB7.out.trans (hb79.mono HB7.out.size))
  have hr7 := (hb79.block _ (Array.getElem?_eq_some_iff.1 HR7.out).1).trans HR7.out
  obtain ⟨k0, k1, k2, k3, kf⟩ := cells4 hr7
  obtain ⟨j0, j1, j2, j3, jf⟩ := cells4 hr9
  have HW9 := Lib.hid hw9
  clear hw9 hr9 hb8 hb79 hr7
  go_upto_region 11 with fail
  rw [HW9.out]
  go_wp2_with fail
  clear k0 k1 k2 k3 kf j0 j1 j2 j3 jf
  refine (HRD1.out w9 HB9.out).mono ?_
  rintro e w10 ⟨a10, n10, c10, rfl, ho10, hb10⟩
  have HO10 := Lib.hid ho10
  have HB10 := Lib.hid (HB9.out.trans (hb10.mono HB9.out.size))
  clear ho10 hb10
  go_wp2_with fail
  refine (HRD2.out w10 HB10.out).mono ?_
  rintro e w11 ⟨a11, n11, c11, rfl, ho11, hb11⟩
  have HB11 := Lib.hid (HB10.out.trans (hb11.mono HB10.out.size))
  have v10 := conv_bytes (HO10.out.below hb11).bs
  have v11 := conv_bytes ho11.bs
  clear ho11 hb11
  go_wp2_with fail
  clear v10 v11
  refine (HPT1.out w11 HB11.out).mono ?_
  rintro e w12 ⟨a12, n12, c12, rfl, ho12, hb12⟩
  have HO12 := Lib.hid ho12
  have HB12 := Lib.hid (HB11.out.trans (hb12.mono HB11.out.size))
  clear ho12 hb12
  go_wp2_with fail
  refine (HPT2.out w12 HB12.out).mono ?_
  rintro e w13 ⟨a13, n13, c13, rfl, ho13, hb13⟩
  have HB13 := Lib.hid (HB12.out.trans (hb13.mono HB12.out.size))
  have v12 := conv_bytes (HO12.out.below hb13).bs
  have v13 := conv_bytes ho13.bs
  clear ho13 hb13
  go_wp2_with fail
  clear v12 v13
  refine (HRF1.out w13 HB13.out).mono ?_
  rintro e w14 ⟨a14, n14, c14, rfl, hm14, hb14⟩
  have HM14 := Lib.hid hm14
  have HB14 := Lib.hid (HB13.out.trans (hb14.mono HB13.out.size))
  clear hm14 hb14
  go_wp2_with fail
  refine (HRF2.out w14 HB14.out).mono ?_
  rintro e w15 ⟨a15, n15, c15, rfl, hm15, hb15⟩
  have HM15 := Lib.hid hm15
  have HM14 := Lib.hid (HM14.out.below hb15)
  have HB15 := Lib.hid (HB14.out.trans (hb15.mono HB14.out.size))
  clear hm15 hb15
  go_wp2_with fail
  refine (writes_any a14 a15 n14 c14 n15 c15 fl fl w15 HM14.out.acc.ws HM15.out.acc.ws).mono ?_
  rw [decide_eq_true (rfl : fl = fl)]
  rintro e w16 ⟨rfl, hb16⟩
  have HB16 := Lib.hid (HB15.out.trans (hb16.mono HB15.out.size))
  clear hb16
  go_wp2_with fail
  refine (HFR1.out w16 HB16.out).mono ?_
  rintro e w17 ⟨a17, n17, c17, rfl, hm17, hb17⟩
  have HM17 := Lib.hid hm17
  have HB17 := Lib.hid (HB16.out.trans (hb17.mono HB16.out.size))
  clear hm17 hb17
  go_wp2_with fail
  refine (HFR2.out w17 HB17.out).mono ?_
  rintro e w18 ⟨a18, n18, c18, rfl, hm18, hb18⟩
  have HM18 := Lib.hid hm18
  have HM17 := Lib.hid (HM17.out.below hb18)
  have HB18 := Lib.hid (HB17.out.trans (hb18.mono HB17.out.size))
  clear hm18 hb18
  go_wp2_with fail
  refine (writes_any a17 a18 n17 c17 n18 c18 gl gl w18 HM17.out.acc.ws HM18.out.acc.ws).mono ?_
  rw [decide_eq_true (rfl : gl = gl)]
  rintro e w19 ⟨rfl, hb19⟩
  have HB19 := Lib.hid (HB18.out.trans (hb19.mono HB18.out.size))
  clear hb19
  go_wp2
  go_ret
  exact ⟨rfl, HB5.out.trans (HB19.out.mono HB5.out.size)⟩
end Go.Proofs.YtkbfefooaajhkaaDoor
