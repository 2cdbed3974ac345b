/- Cold stripes: the law's known stripe, walked. -/
import Derived.Test.YtfgifndpglgjkaaGreatDoorZCdN
set_option linter.unusedVariables false
set_option linter.unusedSimpArgs false
set_option maxRecDepth 100000
set_option linter.unusedVariables false
set_option linter.unusedSimpArgs false
namespace Go.Proofs.YtfgifndpglgjkaaGreatDoor
open Go.RowKit

theorem conv3 (W : World) {k : Nat} (hk : k = W.heap.size) : (convert 25 25 (.slice (some ⟨k, 0, none⟩) 3 3)).run Tryz.prog (W.alloc (.cells #[.int .u8 97, .int .u8 98, .int .u8 99] 5)) = .ok (.slice (some ⟨k, 0, none⟩) 3 3) (W.alloc (.cells #[.int .u8 97, .int .u8 98, .int .u8 99] 5 (3, 4))) :=
  Joins.run_convert_bytes_const_at (P := Tryz.prog) W 25 5 #[.int .u8 97, .int .u8 98, .int .u8 99] 3 3 k hk Tryz.underlying25 Tryz.underlying5
theorem abc_bs {W : World} {k : Nat} (hk : k = W.heap.size) : Bs (W.alloc (.cells #[.int .u8 97, .int .u8 98, .int .u8 99] 5 (3, 4))) (some ⟨k, 0, none⟩) 3 3 Cd.abc := Bs.litAt [97, 98, 99] (3, 4) hk (by simp [maxLen])
theorem kq_zero : Cd.kq.p.stripe = 9 ∧ Cd.kq.nodes = [4, 5, 6] := ⟨rfl, rfl⟩
set_option maxHeartbeats 8000000 in
theorem known_any (w : World) (hc : Cst w) : Calls Tryz.prog 6 #[] w fun e w' => e = .returned (.bool true) ∧ Below w.heap.size w w' := by
  have HC := Lib.hid hc
  obtain ⟨W0, hW0⟩ : ∃ W0, w.alloc (.cells #[.string ⟨#[98]⟩, .string ⟨#[107]⟩, .int .u64 9, .int .i64 3] 24) = W0 := ⟨_, rfl⟩
  have hs0 : W0.heap.size = w.heap.size + 1 := by rw [← hW0]; simp
  have hb0 : Below w.heap.size w W0 := by rw [← hW0]; exact below_alloc1 w _
  have HW0 := Lib.hid hW0
  have k1 := conv3 W0 (k := w.heap.size + 1) hs0.symm
  have hbs1 := abc_bs (W := W0) (k := w.heap.size + 1) hs0.symm
  obtain ⟨W1, hW1⟩ : ∃ W1, W0.alloc (.cells #[.int .u8 97, .int .u8 98, .int .u8 99] 5 (3, 4)) = W1 := ⟨_, rfl⟩
  have hs1 : W1.heap.size = w.heap.size + 2 := by rw [← hW1]; simp [hs0]
  have hb1 : Below w.heap.size w W1 := by rw [← hW1]; exact hb0.trans ((below_alloc1 W0 _).mono hb0.size)
  rw [hW1] at hbs1
  have HW1 := Lib.hid hW1
  have his := is_lit (w := W1) (k := w.heap.size + 2) [4, 5, 6] hs1.symm (by simp [maxLen]) (by intro z hz; simp at hz; rcases hz with rfl | rfl | rfl <;> exact ⟨by omega, by omega⟩)
  have hbs2 := hbs1.below (below_alloc1 W1 (.cells (zv [4, 5, 6]).toArray 3))
  have hb2 : Below w.heap.size w (W1.alloc (.cells (zv [4, 5, 6]).toArray 3)) := hb1.trans ((below_alloc1 W1 _).mono hb1.size)
  have HPT : Hid (Calls Tryz.prog 8 #[.agg #[.string ⟨#[98]⟩, .string ⟨#[107]⟩, .int .u64 9, .int .i64 3], .slice (some ⟨w.heap.size + 1, 0, none⟩) 3 3, .int .i64 2, .int .i64 1, .slice (some ⟨w.heap.size + 2, 0, none⟩) 3 3] (W1.alloc (.cells #[.int .i64 4, .int .i64 5, .int .i64 6] 3)) (RetPt (W1.alloc (.cells #[.int .i64 4, .int .i64 5, .int .i64 6] 3)) Cd.kq 3 0)) :=
    Lib.hid (point_yes [98] [107] 9 2 1 (some ⟨w.heap.size + 1, 0, none⟩) 3 3 Cd.abc (some ⟨w.heap.size + 2, 0, none⟩) 3 3 [4, 5, 6] _ hbs2 his (by omega) (by omega) (by omega) rfl (by decide))
  have HB2 : Hid (Below w.heap.size w (W1.alloc (.cells #[.int .i64 4, .int .i64 5, .int .i64 6] 3))) := Lib.hid hb2
  obtain ⟨z0, z1, z2, z3⟩ : W0.cell? ⟨w.heap.size, 0, none⟩ = some (.string ⟨#[98]⟩) ∧ W0.cell? ⟨w.heap.size, 1, none⟩ = some (.string ⟨#[107]⟩) ∧ W0.cell? ⟨w.heap.size, 2, none⟩ = some (.int .u64 9) ∧ W0.cell? ⟨w.heap.size, 3, none⟩ = some (.int .i64 3) := by
    rw [← hW0]
    have hr := heap_alloc_new w (.cells #[.string ⟨#[98]⟩, .string ⟨#[107]⟩, .int .u64 9, .int .i64 3] 24)
    exact ⟨(cell_of_row _ _ 0 _ _ _ hr).trans rfl, (cell_of_row _ _ 1 _ _ _ hr).trans rfl, (cell_of_row _ _ 2 _ _ _ hr).trans rfl, (cell_of_row _ _ 3 _ _ _ hr).trans rfl⟩
  clear hbs1 hbs2 his hb0 hb1 hb2 hW0
  obtain ⟨hq9, hqn⟩ := kq_zero
  have HFIT := Lib.hid kq_fit
  have HG1 := Lib.hid kq_gath1
  have HG2 := Lib.hid kq_gath2
  have HQS : Hid (Cd.kq.p.sum = Codec.sum Cd.abc) := Lib.hid (by unfold Cd.kq Cd.mk; exact Eq.refl _)
  have HQ9 := Lib.hid hq9
  have HQN := Lib.hid hqn
  clear hq9 hqn hc
  generalize Cd.kq = q at *
  go_enter Tryz.func6, Tryz.ntmps6
  go_upto_region 2 with fail
  rw [HW0.out]
  go_wp2_with fail
  refine HPT.out.mono ?_
  rintro e w3 ⟨a3, c3, rfl, ha3, hb3⟩
  have HB3 := Lib.hid (HB2.out.trans (hb3.mono HB2.out.size))
  have HA3 := Lib.hid ha3
  clear ha3 hb3 HPT HB2 k1 hs1 hs0 hW1 z0 z1 z2 z3
  unfold Cd.pv
  go_upto_region 3 with fail
  have hb4 := below_alloc1 w3 (.cells (Cd.pcells q a3 3 c3) 31)
  have hp4 := Cd.PAt.new w3 q a3 3 c3
  have hs4 : (w3.alloc (.cells (Cd.pcells q a3 3 c3) 31)).heap.size = w3.heap.size + 1 := by simp
  unfold Cd.pcells at hb4 hp4 hs4
  generalize w3.alloc (.cells #[.string (bstr q.bucket), .string (bstr q.key), .int .u64 q.version, .int .u64 q.p.stripe, .int .i64 q.p.K, .int .i64 q.p.M, .int .i64 q.p.size, .int .u32 (n32 q.p.sum), .slice a3 3 c3] 31) = w4 at *
  have HB4 := Lib.hid (HB3.out.trans (hb4.mono HB3.out.size))
  have HP4 := Lib.hid hp4
  have HS4 := Lib.hid hs4
  have HI4 := Lib.hid (HA3.out.below hb4).is
  have HX3 := Lib.hid HB3.out.size
  generalize hbx : w3.heap.size = bx at *
  clear hb4 hs4 hbx HA3
  have k2 := conv3 w4 rfl
  have HBA := Lib.hid (below_alloc1 w4 (.cells #[.int .u8 97, .int .u8 98, .int .u8 99] 5 (3, 4)))
  have HDA := Lib.hid (abc_bs (W := w4) rfl)
  have hp := hp4
  have c0 := hp.c0
  have c1 := hp.c1
  have c2 := hp.c2
  have c3' := hp.c3
  have c4 := hp.c4
  have c5 := hp.c5
  have c6 := hp.c6
  have c7 := hp.c7
  have c8 := hp.c8
  clear hp hp4
  have HSH := Lib.hid (cshards_yes q a3 3 c3 2 1 (some ⟨w4.heap.size, 0, none⟩) 3 3 Cd.abc _ (HC.out.below (HB4.out.trans (HBA.out.mono HB4.out.size))) HFIT.out (HI4.out.below HBA.out) HDA.out rfl HQS.out)
  unfold Cd.pv at HSH
  go_wp2_with fail
  refine HSH.out.mono ?_
  rintro e w5 ⟨a5, c5', rfl, ha5, hb5⟩
  have HBB := Lib.hid (HBA.out.trans (hb5.mono HBA.out.size))
  have HB5 := Lib.hid (HB4.out.trans (HBB.out.mono HB4.out.size))
  have HP5 := Lib.hid (HP4.out.below HBB.out)
  clear c0 c1 c2 c3' c4 c5 c6 c7 c8 hb5 k2 HSH
  obtain ⟨g, rfl, _, hat⟩ := ha5.at0 (by omega)
  obtain ⟨f1, d1, hc1, ho1⟩ := hat 1 (by omega)
  obtain ⟨f2, d2, hc2, ho2⟩ := hat 2 (by omega)
  have hl3 : (Rs.all 2 1 Cd.abc).length = 3 := rall_len 2 1 Cd.abc
  rw [shs_at (by rw [hl3]; omega)] at hc1 ho1 hc2 ho2
  have p1 := hc1 0 _ rfl
  have p2 := hc1 2 _ rfl
  have p3 := hc1 3 _ rfl
  have p4 := hc2 3 _ rfl
  simp only [belS, Cd.sh, HQ9.out, HQN.out, Nat.reduceMul, Nat.reduceAdd] at p1 p2 p3 p4 ho1 ho2
  have en : nth ([4, 5, 6] : List Int) 1 = 5 := rfl
  rw [en] at p1
  have ef1 := file_len q.p 1 (nth (Rs.all 2 1 Cd.abc) 1) (by rw [HQ9.out]; omega) (by rw [rall_row _ (by omega)]; decide)
  have ef2 := file_len q.p 2 (nth (Rs.all 2 1 Cd.abc) 2) (by rw [HQ9.out]; omega) (by rw [rall_row _ (by omega)]; decide)
  rw [rall_row _ (by omega)] at ef1 ef2
  have ew : Rs.wd 2 Cd.abc.length = 2 := rfl
  rw [ew] at ef1 ef2
  have i1 : ((1 : Nat) : Int) = 1 := rfl
  have i2 : ((2 : Nat) : Int) = 2 := rfl
  rw [i1] at p2 p3 ho1
  rw [i2] at p4 ho2
  rw [name_known] at p2
  clear hc1 hc2 hat ha5 hl3 ew en i1 i2
  generalize Cd.file q.p 1 (nth (Rs.all 2 1 Cd.abc) 1) = fl1 at *
  generalize Cd.file q.p 2 (nth (Rs.all 2 1 Cd.abc) 2) = fl2 at *
  have HO1 := Lib.hid ho1.bs
  have HO2 := Lib.hid ho2.bs
  have HE1 := Lib.hid ef1
  have HE2 := Lib.hid ef2
  generalize fl1.length = n1 at *
  generalize fl2.length = n2 at *
  have HPC : Hid (∀ V : BW w5, V.w.cell? ⟨g, 4, none⟩ = some (.int .i64 5) ∧ V.w.cell? ⟨g, 6, none⟩ = some (.string ⟨#[115, 45, 48, 48, 48, 48, 48, 48, 48, 48, 48, 48, 48, 48, 48, 48, 48, 57, 45, 48, 48, 49]⟩) ∧ V.w.cell? ⟨g, 7, none⟩ = some (.slice f1 n1 d1) ∧ V.w.cell? ⟨g, 11, none⟩ = some (.slice f2 n2 d2)) := Lib.hid fun V => ⟨cell_later V.b p1, cell_later V.b p2, cell_later V.b p3, cell_later V.b p4⟩
  clear p1 p2 p3 p4 ho1 ho2 ef1 ef2 HBA HDA HBB
  go_upto_region 6 with fail
  refine wp_region_steps [15] 15 15 (by kernel_rfl) (by kernel_rfl) rfl (fun W' => ∃ V : BW w5, W' = V.w) ?_
  have HBD : Hid (Below w5.heap.size w5 w5.drew) := Lib.hid (Below.refl _ _).drew
  generalize w5.drew = wD at *
  refine anyT_pull [0, 1, 2, 3, 4, 5, 6, 7, 8] 15 6 (by intro c a d v w h; cases d <;> exact h) (by kernel_rfl) ⟨⟨_, HBD.out⟩, rfl⟩ ?_
  simp only [opsAt, List.filterMap_cons, List.filterMap_nil, List.getElem?_cons_zero, List.getElem?_cons_succ]
  iterate 9
    apply held_step
    · kernel_rfl
    · rintro _ ⟨V, rfl⟩
      have hp := HP5.out.below V.b
      have c0 := hp.c0
      have c1 := hp.c1
      have c2 := hp.c2
      have c3 := hp.c3
      have c4 := hp.c4
      have c5 := hp.c5
      have c6 := hp.c6
      have c7 := hp.c7
      have c8 := hp.c8
      obtain ⟨e1, e2, e3, e4⟩ := HPC.out V
      go_simp
      rfl
  refine held_nil ?_
  apply anyT_one 9
  · rfl
  · kernel_rfl
  · kernel_rfl
  intro K' hK
  go_simp
  have HBE := Lib.hid (HBD.out.trans ((below_alloc1 wD (.cells #[.slice none 0 0, .slice f1 n1 d1, .slice f2 n2 d2] 25)).mono HBD.out.size))
  have HSE := Lib.hid (bss3 (Bs.nil wD) (HO1.out.below HBD.out) (HO2.out.below HBD.out))
  refine hK _ _ ⟨⟨_, HBE.out⟩, rfl⟩ ?_
  clear hK
  generalize wD.alloc (.cells #[.slice none 0 0, .slice f1 n1 d1, .slice f2 n2 d2] 25) = wE at *
  apply anyT_one 10
  · rfl
  · kernel_rfl
  · kernel_rfl
  intro K' hK
  go_simp
  have hg := gather_any q a3 3 c3 2 1 3 _ 3 3 [[], fl1, fl2] wE HFIT.out (by omega) HSE.out (by omega) (fun i hi => by
    have h1 := HO1.out.1
    have h2 := HO2.out.1
    have h3 := HE1.out
    have h4 := HE2.out
    match i, hi with
    | 0, _ => exact Nat.zero_le _
    | 1, _ => show fl1.length ≤ _; omega
    | 2, _ => show fl2.length ≤ _; omega)
  rw [HG1.out] at hg
  unfold Cd.pv at hg
  refine hg.mono ?_
  rintro e w6 ⟨⟨a6, n6, k6, rfl, hs6⟩, hb6⟩
  have HB6 := Lib.hid (HBE.out.trans (hb6.mono HBE.out.size))
  have HS6 := Lib.hid hs6
  refine hK _ _ ⟨⟨_, HB6.out⟩, rfl⟩ ?_
  clear hK hg hs6 hb6
  refine anyT_pull [11, 12, 13] 15 1 (by intro c a d v w h; cases d <;> exact h) (by kernel_rfl) ⟨⟨_, HB6.out⟩, rfl⟩ ?_
  simp only [opsAt, List.filterMap_cons, List.filterMap_nil, List.getElem?_cons_zero, List.getElem?_cons_succ]
  iterate 3
    apply held_step
    · kernel_rfl
    · rintro _ ⟨V, rfl⟩
      go_simp
      rfl
  refine held_nil ?_
  apply anyT_one 14
  · rfl
  · kernel_rfl
  · kernel_rfl
  intro K' hK
  go_simp
  refine hK _ _ ⟨⟨_, HB6.out⟩, rfl⟩ ?_
  clear hK
  refine anyT_done (by kernel_rfl) ?_
  simp only [opsAt, List.filterMap_cons, List.filterMap_nil, List.getElem?_cons_zero, List.getElem?_cons_succ]
  go_upto_region 7 with fail
  refine wp_region_steps [11] 11 11 (by kernel_rfl) (by kernel_rfl) rfl (fun W' => ∃ V : BW w5, W' = V.w) ?_
  have HBF := Lib.hid (HB6.out.drew)
  have HS7 := Lib.hid (HS6.out.below ((Below.refl w6.heap.size w6).drew))
  generalize w6.drew = wF at *
  have HZF := Lib.hid (Below.refl wF.heap.size wF)
  refine anyT_pull [0, 1, 2, 3, 4] 11 6 (by intro c a d v w h; cases d <;> exact h) (by kernel_rfl) ⟨⟨_, HBF.out⟩, rfl⟩ ?_
  simp only [opsAt, List.filterMap_cons, List.filterMap_nil, List.getElem?_cons_zero, List.getElem?_cons_succ]
  iterate 5
    apply held_step
    · kernel_rfl
    · rintro _ ⟨V, rfl⟩
      have hp := HP5.out.below V.b
      have c0 := hp.c0
      have c1 := hp.c1
      have c2 := hp.c2
      have c3 := hp.c3
      have c4 := hp.c4
      have c5 := hp.c5
      have c6 := hp.c6
      have c7 := hp.c7
      have c8 := hp.c8
      obtain ⟨e1, e2, e3, e4⟩ := HPC.out V
      go_simp
      rfl
  refine held_nil ?_
  apply anyT_one 5
  · rfl
  · kernel_rfl
  · kernel_rfl
  intro K' hK
  go_simp
  have HBG := Lib.hid (HBF.out.trans ((below_alloc1 wF (.cells #[.slice none 0 0, .slice none 0 0, .slice f2 n2 d2] 25)).mono HBF.out.size))
  have HSG := Lib.hid (bss3 (Bs.nil wF) (Bs.nil wF) (HO2.out.below HBF.out))
  have HS8 := Lib.hid (HS7.out.below (below_alloc1 wF (.cells #[.slice none 0 0, .slice none 0 0, .slice f2 n2 d2] 25)))
  refine hK _ _ ⟨⟨_, HBG.out⟩, rfl⟩ ?_
  clear hK
  generalize wF.alloc (.cells #[.slice none 0 0, .slice none 0 0, .slice f2 n2 d2] 25) = wG at *
  apply anyT_one 6
  · rfl
  · kernel_rfl
  · kernel_rfl
  intro K' hK
  go_simp
  have hg := gather_any q a3 3 c3 2 1 3 _ 3 3 [[], [], fl2] wG HFIT.out (by omega) HSG.out (by omega) (fun i hi => by
    have h2 := HO2.out.1
    have h4 := HE2.out
    match i, hi with
    | 0, _ => exact Nat.zero_le _
    | 1, _ => exact Nat.zero_le _
    | 2, _ => show fl2.length ≤ _; omega)
  rw [HG2.out] at hg
  unfold Cd.pv at hg
  refine hg.mono ?_
  rintro e w9 ⟨⟨a9, n9, k9, rfl, hs9⟩, hb9⟩
  have HB9 := Lib.hid (HBG.out.trans (hb9.mono HBG.out.size))
  have HS9 := Lib.hid (HS8.out.below hb9)
  refine hK _ _ ⟨⟨_, HB9.out⟩, rfl⟩ ?_
  clear hK hg hs9 hb9
  refine anyT_pull [7, 8, 9] 11 1 (by intro c a d v w h; cases d <;> exact h) (by kernel_rfl) ⟨⟨_, HB9.out⟩, rfl⟩ ?_
  simp only [opsAt, List.filterMap_cons, List.filterMap_nil, List.getElem?_cons_zero, List.getElem?_cons_succ]
  iterate 3
    apply held_step
    · kernel_rfl
    · rintro _ ⟨V, rfl⟩
      go_simp
      rfl
  refine held_nil ?_
  apply anyT_one 10
  · rfl
  · kernel_rfl
  · kernel_rfl
  intro K' hK
  go_simp
  refine hK _ _ ⟨⟨_, HB9.out⟩, rfl⟩ ?_
  clear hK
  refine anyT_done (by kernel_rfl) ?_
  simp only [opsAt, List.filterMap_cons, List.filterMap_nil, List.getElem?_cons_zero, List.getElem?_cons_succ]
  go_upto_region 8 with fail
  have cv := conv_bytes HS9.out
  rw [show bstr (Cd.abc, (0 : Int)).1 = ⟨#[97, 98, 99]⟩ from rfl] at cv
  obtain ⟨e1, e2, _, _⟩ := HPC.out ⟨w9, HB9.out⟩
  dsimp only at e1 e2
  go_wp2
  go_ret
  exact ⟨rfl, HB5.out.trans (HB9.out.mono HB5.out.size)⟩
end Go.Proofs.YtfgifndpglgjkaaGreatDoor
