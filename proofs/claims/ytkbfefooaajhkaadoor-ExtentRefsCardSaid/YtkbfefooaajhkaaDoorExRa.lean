/- Read, the program's. -/
import Derived.Test.YtkbfefooaajhkaaDoorExR
set_option maxRecDepth 100000
set_option linter.unusedVariables false
set_option linter.unusedSimpArgs false
namespace Go.Proofs.YtkbfefooaajhkaaDoor
open Go.RowKit

theorem cut_end {w0 w : World} {g : Nat} {t : TypeId} {x0 x1 x2 x3 v0 v1 v2 v3 : Value} (h : w.heap[g]? = some (.cells #[x0, x1, x2, x3] t (0, 0))) (hb : Below w0.heap.size w0 w) (hg : w0.heap.size ≤ g) :
    ((((w.setCell ⟨g, 0, none⟩ v0).setCell ⟨g, 1, none⟩ v1).setCell ⟨g, 2, none⟩ v2).setCell ⟨g, 3, none⟩ v3).heap[g]? = some (.cells #[v0, v1, v2, v3] t (0, 0)) ∧ Below w0.heap.size w0 ((((w.setCell ⟨g, 0, none⟩ v0).setCell ⟨g, 1, none⟩ v1).setCell ⟨g, 2, none⟩ v2).setCell ⟨g, 3, none⟩ v3) :=
  ⟨(set4 v0 v1 v2 v3 h).1, hb.trans ((set4 v0 v1 v2 v3 h).2.below hb.size (fun x hx => by cases hx; exact hg))⟩
set_option maxHeartbeats 2000000 in
theorem read_any (bk id : Nat) (L : List Wr) (w : World) (hu : U64 id) (h : KeysAt w bk L) (hL : Laid w) :
    Calls Tryd.prog 12 #[src bk, .int .u64 id] w (RetP (Ex.rd L id) w) := by
  have HLK := Lib.hid (look_any bk id L w hu h hL)
  have HPT := Lib.hid (fun W (hb : Below w.heap.size w W) (t : Int) (ht : -9223372036854775808 ≤ t ∧ t ≤ 9223372036854775807) => part_any bk id L 0 t W hu (h.below hb) (hL.below hb) (by omega) ht)
  have HOK := Lib.hid (read_ok (b := Kv.get L (Ex.key id)))
  have hp : Ex.rd L id = Ex.readOf (Ex.look L id) L id := rfl
  rw [hp]
  clear hp
  have HOK2 : Hid ((Ex.look L id).2 = 0 → (Ex.look L id).1.Ok) := Lib.hid (fun h => (HOK.out h).1)
  unfold Ex.part at HPT
  generalize Ex.look L id = x at *
  clear HOK
  obtain ⟨hd, er⟩ := x
  unfold LookV hval at HLK
  dsimp only at *
  clear h hL
  unfold src at *
  by_cases h0 : er = 0
  case neg =>
    have HP := Lib.hid (readOf_err L id (x := (hd, er)) h0)
    have t1 : ((er : Int) != 0) = true := by simp; omega
    rw [HP.out]
    go_enter Tryd.func12, Tryd.ntmps12
    go_wp2_with fail
    refine HLK.out.mono ?_
    rintro e w1 ⟨rfl, hb1⟩
    have HB1 := Lib.hid hb1
    clear hb1
    go_wp2
    go_ret2
    exact retp_nil (HB1.out.alloc HB1.out.size _)
  subst h0
  have ok := HOK2.out rfl
  have hszb : (hd.size : Int) ≤ 9223372036854775807 := by have := ok.size; omega
  have HPQ := Lib.hid (fun W hb => HPT.out W hb (hd.size : Int) (by omega))
  have HRP := Lib.hid (fun r => readOf_part (hd := hd) L id (r := r))
  have HRS := Lib.hid (fun r => readOf_sum (hd := hd) L id (r := r))
  have HRK := Lib.hid (fun r => readOf_ok (hd := hd) L id (r := r))
  have HFL := Lib.hid (part_full (L := L) (id := id) ok)
  generalize hRR : Ex.readOf (hd, 0) L id = RR at *
  generalize hPP : Ex.partOf (hd, 0) L id 0 (hd.size : Int) = PP at *
  clear hRR hPP HPT HOK2
  obtain ⟨bl, pe⟩ := PP
  have HRP := Lib.hid (HRP.out _ rfl)
  have HRS := Lib.hid (HRS.out _ rfl)
  have HRK := Lib.hid (HRK.out _ rfl)
  go_enter Tryd.func12, Tryd.ntmps12
  go_wp2_with fail
  refine HLK.out.mono ?_
  rintro e w1 ⟨rfl, hb1⟩
  have hcells := hd_cells w1 hd 52
  obtain ⟨w2, hw2⟩ : ∃ w2, w1.alloc (.cells #[.int .i64 hd.size, .int .i64 hd.chunk, .int .i64 hd.refs, .int .u32 (n32 hd.sum)] 52) = w2 := ⟨_, rfl⟩
  have HB2 : Hid (Below w.heap.size w w2) := Lib.hid (by rw [← hw2]; exact hb1.alloc hb1.size _)
  rw [hw2] at hcells
  have VS := Lib.hid (fun (W : World) (k : Below w2.heap.size w2 W) => And.intro (cell_later k hcells.1) (And.intro (cell_later k hcells.2.1) (And.intro (cell_later k hcells.2.2.1) (cell_later k hcells.2.2.2))))
  have HW2 := Lib.hid hw2
  clear hcells hw2 hb1
  go_upto_region 2 with fail
  rw [HW2.out]
  obtain ⟨c0, c1, c2, c3⟩ := VS.out w2 (Below.refl _ _)
  go_wp2_with fail
  clear c0 c1 c2 c3
  refine (HPQ.out _ HB2.out).mono ?_
  rintro e w3 ⟨a3, n3, k3, rfl, ho3, hb3⟩
  dsimp only at ho3 ⊢
  have HB3 := Lib.hid hb3
  have HB3W := Lib.hid (HB2.out.trans (hb3.mono HB2.out.size))
  have HO3 := Lib.hid (ho3.mono HB2.out.size)
  have hn3 := ho3.bs.1
  have HN3 := Lib.hid hn3
  have hle3 := ho3.bs.le.1
  clear hb3 ho3 hn3
  obtain ⟨c0, c1, c2, c3⟩ := VS.out w3 HB3.out
  go_upto_region 5 with fail
  go_cut [9] (fun p9 wx => ∃ g9 : Nat, p9 = .pointer (some ⟨g9, 0, none⟩) ∧ Hid (wx.heap[g9]? = some (.cells #[.int .i64 (n3 : Nat), .int .i64 hd.chunk, .int .i64 hd.refs, .int .u32 (n32 (Codec.sum bl))] 52 (0, 0)) ∧ Below w3.heap.size w3 wx))
  case first =>
    have HBD : Hid (Below w3.heap.size w3 w3.drew) := Lib.hid (Below.refl _ _).drew
    refine wp_region_steps [11] 11 11 (by kernel_rfl) (by kernel_rfl) rfl (fun W' => ∃ V : BW w3, W' = V.w) ?_
    refine anyT_pull [0, 1, 2, 3, 4, 5, 6] 11 4 (by intro c a d v w h; cases d <;> exact h) (by kernel_rfl) ⟨⟨w3.drew, (Below.refl _ _).drew⟩, rfl⟩ ?_
    simp only [opsAt, List.filterMap_cons, List.filterMap_nil, List.getElem?_cons_zero, List.getElem?_cons_succ]
    iterate 7
      apply held_step
      · kernel_rfl
      · rintro _ ⟨V, rfl⟩
        have m0 := BW.cell c0 V
        have m1 := BW.cell c1 V
        have m2 := BW.cell c2 V
        have m3 := BW.cell c3 V
        go_simp
        rfl
    refine held_nil ?_
    refine anyT_two 7 10 rfl rfl (by kernel_rfl) (by kernel_rfl) (by kernel_rfl) (fun K hK => ?_) (fun K hK => ?_)
    · go_simp
      have HB7 : Hid (Below w3.heap.size w3 (w3.drew.alloc (.cells #[.slice a3 n3 k3] 22))) := Lib.hid (HBD.out.alloc HBD.out.size _)
      refine hK _ _ ⟨⟨_, HB7.out⟩, rfl⟩ ?_
      clear hK
      refine anyT_two 8 10 rfl rfl (by kernel_rfl) (by kernel_rfl) (by kernel_rfl) (fun K hK => ?_) (fun K hK => ?_)
      · go_simp
        refine (sum_any _ 1 1 [bl] ((w3.drew.alloc (.cells #[.slice a3 n3 k3] 22))) (Bss.one (HO3.out.bs.below (Below.refl _ _).drew))).mono ?_
        rintro e w8 ⟨rfl, hb⟩
        rw [show ([bl] : List (List UInt8)).flatten = bl by simp]
        have HB8 : Hid (Below w3.heap.size w3 w8) := Lib.hid (HB7.out.trans (hb.mono HB7.out.size))
        have HBX : Hid (Below ((w3.drew.alloc (.cells #[.slice a3 n3 k3] 22))).heap.size ((w3.drew.alloc (.cells #[.slice a3 n3 k3] 22))) w8) := Lib.hid hb
        refine hK _ _ ⟨⟨_, HB8.out⟩, rfl⟩ ?_
        clear hK hb
        refine anyT_pull [9] 11 1 (by intro c a d v w h; cases d <;> exact h) (by kernel_rfl) ⟨⟨_, HB8.out⟩, rfl⟩ ?_
        simp only [opsAt, List.filterMap_cons, List.filterMap_nil, List.getElem?_cons_zero, List.getElem?_cons_succ]
        apply held_step
        · kernel_rfl
        · rintro _ ⟨V, rfl⟩
          go_simp
          rfl
        refine held_nil ?_
        apply anyT_one 10
        · rfl
        · kernel_rfl
        · kernel_rfl
        intro K hK
        go_simp
        have HG9 : Hid ((w8.alloc (.cells #[.int .i64 0, .int .i64 0, .int .i64 0, .int .u32 0] 52)).heap[w8.heap.size]? = some (.cells #[.int .i64 0, .int .i64 0, .int .i64 0, .int .u32 0] 52 (0, 0))) := Lib.hid (heap_alloc_new _ _)
        have HGE : Hid (w3.heap.size ≤ w8.heap.size) := Lib.hid HB8.out.size
        have HBE : Hid (Below w3.heap.size w3 (w8.alloc (.cells #[.int .i64 0, .int .i64 0, .int .i64 0, .int .u32 0] 52))) := Lib.hid (HB8.out.alloc HB8.out.size _)
        refine hK _ _ ⟨⟨_, HBE.out⟩, rfl⟩ ?_
        clear hK
        generalize World.alloc w8 _ = wE at *
        refine anyT_done (by kernel_rfl) ?_
        simp only [opsAt, List.filterMap_cons, List.filterMap_nil, List.getElem?_cons_zero, List.getElem?_cons_succ]
        obtain ⟨k0, k1, k2, k3', kf⟩ := cells4 HG9.out
        clear c0 c1 c2 c3
        go_wp2
        go_meet
        exact ⟨_, rfl, Lib.hid (cut_end HG9.out HBE.out HGE.out)⟩
      · go_simp
        have HG9 : Hid (((w3.drew.alloc (.cells #[.slice a3 n3 k3] 22)).alloc (.cells #[.int .i64 0, .int .i64 0, .int .i64 0, .int .u32 0] 52)).heap[(w3.drew.alloc (.cells #[.slice a3 n3 k3] 22)).heap.size]? = some (.cells #[.int .i64 0, .int .i64 0, .int .i64 0, .int .u32 0] 52 (0, 0))) := Lib.hid (heap_alloc_new _ _)
        have HGE : Hid (w3.heap.size ≤ (w3.drew.alloc (.cells #[.slice a3 n3 k3] 22)).heap.size) := Lib.hid HB7.out.size
        have HB7a : Hid (Below w3.heap.size w3 ((w3.drew.alloc (.cells #[.slice a3 n3 k3] 22)).alloc (.cells #[.int .i64 0, .int .i64 0, .int .i64 0, .int .u32 0] 52))) := Lib.hid (HB7.out.alloc HB7.out.size _)
        refine hK _ _ ⟨⟨_, HB7a.out⟩, rfl⟩ ?_
        clear hK
        rw [show (w3.drew.alloc (.cells #[.slice a3 n3 k3] 22)).heap.size = w3.heap.size + 1 by simp] at HG9 HGE
        apply anyT_one 8
        · rfl
        · kernel_rfl
        · kernel_rfl
        intro K hK
        go_simp
        refine (sum_any _ 1 1 [bl] (((w3.drew.alloc (.cells #[.slice a3 n3 k3] 22)).alloc (.cells #[.int .i64 0, .int .i64 0, .int .i64 0, .int .u32 0] 52))) ((Bss.one (HO3.out.bs.below (Below.refl _ _).drew)).below (below_alloc1 _ _))).mono ?_
        rintro e w8 ⟨rfl, hb⟩
        rw [show ([bl] : List (List UInt8)).flatten = bl by simp]
        have HBE : Hid (Below w3.heap.size w3 w8) := Lib.hid (HB7a.out.trans (hb.mono HB7a.out.size))
        have HBX : Hid (Below (((w3.drew.alloc (.cells #[.slice a3 n3 k3] 22)).alloc (.cells #[.int .i64 0, .int .i64 0, .int .i64 0, .int .u32 0] 52))).heap.size (((w3.drew.alloc (.cells #[.slice a3 n3 k3] 22)).alloc (.cells #[.int .i64 0, .int .i64 0, .int .i64 0, .int .u32 0] 52))) w8) := Lib.hid hb
        refine hK _ _ ⟨⟨_, HBE.out⟩, rfl⟩ ?_
        clear hK hb
        replace HG9 := Lib.hid ((HBX.out.block _ (Array.getElem?_eq_some_iff.1 HG9.out).1).trans HG9.out)
        refine anyT_pull [9] 11 0 (by intro c a d v w h; cases d <;> exact h) (by kernel_rfl) ⟨⟨_, HBE.out⟩, rfl⟩ ?_
        simp only [opsAt, List.filterMap_cons, List.filterMap_nil, List.getElem?_cons_zero, List.getElem?_cons_succ]
        apply held_step
        · kernel_rfl
        · rintro _ ⟨V, rfl⟩
          go_simp
          rfl
        refine held_nil ?_
        refine anyT_done (by kernel_rfl) ?_
        simp only [opsAt, List.filterMap_cons, List.filterMap_nil, List.getElem?_cons_zero, List.getElem?_cons_succ]
        obtain ⟨k0, k1, k2, k3', kf⟩ := cells4 HG9.out
        clear c0 c1 c2 c3
        go_wp2
        go_meet
        exact ⟨_, rfl, Lib.hid (cut_end HG9.out HBE.out HGE.out)⟩
    · go_simp
      have HG9 : Hid ((w3.drew.alloc (.cells #[.int .i64 0, .int .i64 0, .int .i64 0, .int .u32 0] 52)).heap[w3.drew.heap.size]? = some (.cells #[.int .i64 0, .int .i64 0, .int .i64 0, .int .u32 0] 52 (0, 0))) := Lib.hid (heap_alloc_new _ _)
      have HGE : Hid (w3.heap.size ≤ w3.drew.heap.size) := Lib.hid HBD.out.size
      have HBa : Hid (Below w3.heap.size w3 (w3.drew.alloc (.cells #[.int .i64 0, .int .i64 0, .int .i64 0, .int .u32 0] 52))) := Lib.hid (HBD.out.alloc HBD.out.size _)
      refine hK _ _ ⟨⟨_, HBa.out⟩, rfl⟩ ?_
      clear hK
      rw [show w3.drew.heap.size = w3.heap.size from rfl] at HG9 HGE
      apply anyT_one 7
      · rfl
      · kernel_rfl
      · kernel_rfl
      intro K hK
      go_simp
      have HB7 : Hid (Below w3.heap.size w3 ((w3.drew.alloc (.cells #[.int .i64 0, .int .i64 0, .int .i64 0, .int .u32 0] 52)).alloc (.cells #[.slice a3 n3 k3] 22))) := Lib.hid (HBa.out.alloc HBa.out.size _)
      refine hK _ _ ⟨⟨_, HB7.out⟩, rfl⟩ ?_
      clear hK
      apply anyT_one 8
      · rfl
      · kernel_rfl
      · kernel_rfl
      intro K hK
      go_simp
      refine (sum_any _ 1 1 [bl] (((w3.drew.alloc (.cells #[.int .i64 0, .int .i64 0, .int .i64 0, .int .u32 0] 52)).alloc (.cells #[.slice a3 n3 k3] 22))) (Bss.oneAt (by simp) (HO3.out.bs.below ((Below.refl _ _).drew.alloc (Nat.le_refl _) _)))).mono ?_
      rintro e w8 ⟨rfl, hb⟩
      rw [show ([bl] : List (List UInt8)).flatten = bl by simp]
      have HBE : Hid (Below w3.heap.size w3 w8) := Lib.hid (HB7.out.trans (hb.mono HB7.out.size))
      have HBX : Hid (Below (((w3.drew.alloc (.cells #[.int .i64 0, .int .i64 0, .int .i64 0, .int .u32 0] 52)).alloc (.cells #[.slice a3 n3 k3] 22))).heap.size (((w3.drew.alloc (.cells #[.int .i64 0, .int .i64 0, .int .i64 0, .int .u32 0] 52)).alloc (.cells #[.slice a3 n3 k3] 22))) w8) := Lib.hid hb
      refine hK _ _ ⟨⟨_, HBE.out⟩, rfl⟩ ?_
      clear hK hb
      replace HG9 := Lib.hid ((HBX.out.block _ (by simp; omega)).trans (((below_alloc1 (w3.drew.alloc (.cells #[.int .i64 0, .int .i64 0, .int .i64 0, .int .u32 0] 52)) (.cells #[.slice a3 n3 k3] 22)).block _ (by simp)).trans HG9.out))
      refine anyT_pull [9] 11 0 (by intro c a d v w h; cases d <;> exact h) (by kernel_rfl) ⟨⟨_, HBE.out⟩, rfl⟩ ?_
      simp only [opsAt, List.filterMap_cons, List.filterMap_nil, List.getElem?_cons_zero, List.getElem?_cons_succ]
      apply held_step
      · kernel_rfl
      · rintro _ ⟨V, rfl⟩
        go_simp
        rfl
      refine held_nil ?_
      refine anyT_done (by kernel_rfl) ?_
      simp only [opsAt, List.filterMap_cons, List.filterMap_nil, List.getElem?_cons_zero, List.getElem?_cons_succ]
      obtain ⟨k0, k1, k2, k3', kf⟩ := cells4 HG9.out
      clear c0 c1 c2 c3
      go_wp2
      go_meet
      exact ⟨_, rfl, Lib.hid (cut_end HG9.out HBE.out HGE.out)⟩
  case rest =>
    obtain ⟨g9, rfl, hc⟩ := hcut
    obtain ⟨hr, hbc⟩ := hc.out
    have HBC := Lib.hid hbc
    have HBCW := Lib.hid (HB3W.out.trans (hbc.mono HB3W.out.size))
    have HOC := Lib.hid (HO3.out.below hbc)
    clear c0 c1 c2 c3
    obtain ⟨c0, c1, c2, c3⟩ := VS.out wc (HB3.out.trans (hbc.mono HB3.out.size))
    obtain ⟨k0, k1, k2, k3', kf⟩ := cells4 hr
    clear hc hr hbc
    by_cases hpe : pe = 0
    case neg =>
      have HP := Lib.hid (HRP.out hpe)
      have t1 : ((pe : Int) != 0) = true := by simp; omega
      go_wp2
      go_ret2
      rw [HP.out]
      exact retp_nil HBCW.out
    subst hpe
    obtain rfl : n3 = hd.size := HN3.out.symm.trans (HFL.out rfl)
    by_cases hsum : Codec.sum bl = hd.sum
    · have HP := Lib.hid (HRK.out rfl hsum)
      rw [hsum] at k3'
      clear hsum
      go_wp2
      go_ret2
      rw [HP.out]
      exact ⟨a3, hd.size, k3, rfl, HOC.out, HBCW.out⟩
    · have HP := Lib.hid (HRS.out rfl hsum)
      have t2 : (Codec.sum bl == hd.sum) = false := by simp [hsum]
      clear hsum
      go_wp2
      go_ret2
      rw [HP.out]
      exact retp_nil HBCW.out
end Go.Proofs.YtkbfefooaajhkaaDoor
