/- Cold stripes: Good, Gather. -/
import Derived.Test.YtfgifndpglgjkaaGreatDoorZCdK
import Derived.Test.YtfgifndpglgjkaaGreatDoorZQRsL
import Derived.Lib.SmallJoins
set_option linter.unusedVariables false
set_option linter.unusedSimpArgs false
section
set_option maxRecDepth 100000
set_option linter.unusedVariables false
set_option linter.unusedSimpArgs false
namespace Go.Proofs.YtfgifndpglgjkaaGreatDoor
open Go.RowKit

theorem rd_len (p : Cd.Ptr) (W : Nat) (i : Int) (b : List UInt8) : (Cd.rd p W i b).1.length ≤ W := by
  unfold Cd.rd
  split
  · simp
  split
  · simp
  split
  · simp
  · rename_i h
    have h3 : ¬ (Codec.rdBytes ((Codec.rdFrame b).1.drop (Cd.head p i).length) 67108864).1.length ≠ W := fun e => h (.inr (.inr e))
    simp only [ne_eq, Decidable.not_not] at h3
    show (Codec.rdBytes ((Codec.rdFrame b).1.drop (Cd.head p i).length) 67108864).1.length ≤ W
    omega
theorem gds_at {p : Cd.Ptr} {W : Nat} {fs : List (List UInt8)} {i : Nat} (h : i < fs.length) : nth (Cd.gds p W fs) i = Cd.gd p W fs i := nth_map_range _ h
theorem gds_len (p : Cd.Ptr) (W : Nat) (fs : List (List UInt8)) : (Cd.gds p W fs).length = fs.length := by simp [Cd.gds]
/-- Which files are good. -/
def Cd.goods (ls : List (List UInt8)) (n k : Nat) : List Int := ((List.range k).filter fun i => decide (0 < (nth ls i).length) && decide (i < n)).map Int.ofNat
theorem goods_yes {ls : List (List UInt8)} {n k : Nat} (h1 : 0 < (nth ls k).length) (h2 : k < n) : Cd.goods ls n (k + 1) = Cd.goods ls n k ++ [(k : Int)] := by
  unfold Cd.goods
  rw [List.range_succ, List.filter_append, List.map_append]
  simp [h1, h2]
theorem goods_no {ls : List (List UInt8)} {n k : Nat} (h : ¬ (0 < (nth ls k).length ∧ k < n)) : Cd.goods ls n (k + 1) = Cd.goods ls n k := by
  unfold Cd.goods
  rw [List.range_succ, List.filter_append, List.map_append]
  have : (decide (0 < (nth ls k).length) && decide (k < n)) = false := by
    rw [← Bool.decide_and]; exact decide_eq_false h
  simp [this]
theorem goods_len (ls : List (List UInt8)) (n k : Nat) : (Cd.goods ls n k).length ≤ k := by
  unfold Cd.goods
  rw [List.length_map]
  refine Nat.le_trans (List.length_filter_le _ _) ?_
  simp
set_option maxHeartbeats 4000000 in
theorem cGood_any (q : Cd.Full) (an : Option Addr) (nn cn K M N : Nat) (al : Option Addr) (nl cl : Nat) (fs : List (List UInt8)) (w : World) (hf : Cd.Fit q K M N) (hl : Bss w al nl cl fs) (hb : nl ≤ 1000) (hbig : ∀ i, i < nl → (nth fs i).length ≤ 100000000) :
    Calls Tryz.prog 51 #[Cd.pv q an nn cn, .slice al nl cl] w fun e w' => ∃ a m c, e = .returned (.slice a m c) ∧ AccI w' w.heap.size a m c (Cd.goods (Cd.gds q.p (Rs.wd K N) fs) (K + M) nl) ∧ Below w.heap.size w w' := by
  have hb0 := below_alloc1 w (.cells (Cd.pcells q an nn cn) 31)
  have hp0 := Cd.PAt.new w q an nn cn
  have HF := Lib.hid hf
  have HCG := Lib.hid fun W (k : Below w.heap.size w W) => cgood_any q an nn cn K M N al nl cl fs W hf (hl.below k) hb hbig
  have hle := hl.le
  have hkm := hf.km
  have HLN := Lib.hid hl.1
  clear hf hl hbig
  unfold Cd.pv at HCG
  unfold Cd.pv
  go_enter Tryz.func51, Tryz.ntmps51
  go_upto_region 1 with fail
  unfold Cd.pcells at hb0 hp0
  generalize w.alloc (.cells #[.string (bstr q.bucket), .string (bstr q.key), .int .u64 q.version, .int .u64 q.p.stripe, .int .i64 q.p.K, .int .i64 q.p.M, .int .i64 q.p.size, .int .u32 (n32 q.p.sum), .slice an nn cn] 31) = w1 at *
  have HB1 := Lib.hid hb0
  have HP1 := Lib.hid hp0
  have hp := hp0
  have c0 := hp.c0
  have c1 := hp.c1
  have c2 := hp.c2
  have c3 := hp.c3
  have c4 := hp.c4
  have c5 := hp.c5
  have c6 := hp.c6
  have c7 := hp.c7
  have c8 := hp.c8
  clear hb0 hp0 hp
  go_wp2_with fail
  refine (HCG.out w1 HB1.out).mono ?_
  rintro e w2 ⟨a2, k2, rfl, ha2, hb2⟩
  have HB2 := Lib.hid (HB1.out.trans (hb2.mono HB1.out.size))
  have HP2 := Lib.hid (HP1.out.below hb2)
  have HG2 := Lib.hid ha2.bss
  obtain ⟨G, hG⟩ : ∃ G, Cd.gds q.p (Rs.wd K N) fs = G := ⟨_, rfl⟩
  rw [hG] at HG2
  have HGQ := Lib.hid hG
  clear hG
  clear c0 c1 c2 c3 c4 c5 c6 c7 c8 ha2 hb2 HCG
  go_wp2_with fail
  go_loopw [5, 12] (fun av iv wr => ∃ (k m : Nat) (a : Option Addr) (c : Nat), k ≤ nl ∧ m ≤ k ∧ iv = .int .i64 k ∧ av = .slice a m c ∧ Hid (AccI wr w2.heap.size a m c (Cd.goods G (K + M) k)) ∧ Hid (Below w2.heap.size w2 wr)) (fun _ iv _ => nl - (intOf iv).toNat)
  case atStart => exact ⟨0, 0, none, 0, by omega, by omega, rfl, rfl, Lib.hid (AccI.nil _ _), Lib.hid (Below.refl _ _)⟩
  case round =>
    obtain ⟨k, m, a, c, hk, hm, rfl, rfl, HA, HB⟩ := hrel
    by_cases hlt : k < nl
    · have t1 : decide ((k : Int) < (nl : Int)) = true := decide_eq_true (by omega)
      have t2 : decide (k < nl) = true := decide_eq_true hlt
      obtain ⟨b1, o1, ai, ni, ci, rfl, hc1, hbs1⟩ := (HG2.out.below HB.out).get hlt
      have hni := hbs1.1
      obtain ⟨d4, d5, d6⟩ := fit_cells HF.out (HP2.out.below HB.out)
      have HY := Lib.hid (fun h1 h2 => goods_yes (ls := G) (n := K + M) (k := k) h1 h2)
      have HN := Lib.hid (fun h => goods_no (ls := G) (n := K + M) (k := k) h)
      rw [hni] at HY HN
      clear hbs1 hni
      by_cases h0 : 0 < ni
      · have t3 : decide ((0 : Int) < (ni : Int)) = true := decide_eq_true (by omega)
        have t4 : decide (0 < ni) = true := decide_eq_true h0
        by_cases h1 : k < K + M
        · have t5 : decide ((k : Int) < (K : Int) + (M : Int)) = true := decide_eq_true (by omega)
          have HA5 := Lib.hid (HA.out.below (below_alloc1 wr (.cells #[.int .i64 k] 3)))
          have HB5 := Lib.hid (HB.out.trans ((below_alloc1 wr (.cells #[.int .i64 k] 3)).mono HB.out.size))
          have HC5 : Hid ((wr.alloc (.cells #[.int .i64 k] 3)).cell? ⟨wr.heap.size, 0, none⟩ = some (.int .i64 (k : Int))) := Lib.hid ((cell_of_row _ _ 0 _ _ _ (heap_alloc_new wr (.cells #[.int .i64 k] 3))).trans rfl)
          have HYY := Lib.hid (HY.out h0 h1)
          have hki : I64 (k : Int) := ⟨by omega, by omega⟩
          have HKI := Lib.hid hki
          clear HY HN hki
          go_upto_region 6 with fail
          go_wp2_with (at_builtin; refine app_i rfl _ _ rfl rfl HA5.out HKI.out rfl HC5.out (by omega) HB5.out.size ?_; intro a9 c9 w9 h9 hb9 hev9; have HB9 := Lib.hid (HB5.out.trans hb9); rw [← HYY.out] at h9; have HA9 := Lib.hid h9; clear h9 hb9 hev9)
          go_roundw
          case rel => exact ⟨k + 1, m + 1, a9, c9, by omega, by omega, by go_num, rfl, HA9, HB9⟩
          case measure => simp [intOf]; omega
        · have t5 : decide ((k : Int) < (K : Int) + (M : Int)) = false := decide_eq_false (by omega)
          have HNN := Lib.hid (HN.out (fun h => h1 h.2))
          clear HY HN
          go_wp2
          go_roundw
          case rel => exact ⟨k + 1, m, a, c, by omega, by omega, by go_num, rfl, by rw [HNN.out]; exact HA, HB⟩
          case measure => simp [intOf]; omega
      · have t3 : decide ((0 : Int) < (ni : Int)) = false := decide_eq_false (by omega)
        have t4 : decide (0 < ni) = false := decide_eq_false h0
        have HNN := Lib.hid (HN.out (fun h => h0 h.1))
        clear HY HN
        go_wp2
        go_roundw
        case rel => exact ⟨k + 1, m, a, c, by omega, by omega, by go_num, rfl, by rw [HNN.out]; exact HA, HB⟩
        case measure => simp [intOf]; omega
    · obtain rfl : k = nl := by omega
      go_wp2
      go_ret
      exact ⟨a, m, c, rfl, by rw [HGQ.out]; exact HA.out.mono HB2.out.size, HB2.out.trans (HB.out.mono HB2.out.size)⟩
end Go.Proofs.YtfgifndpglgjkaaGreatDoor
end

section
set_option maxRecDepth 100000
set_option linter.unusedVariables false
set_option linter.unusedSimpArgs false
namespace Go.Proofs.YtfgifndpglgjkaaGreatDoor
open Go.RowKit

/-- What Gather tells, of as many files as the stripe has. -/
def Cd.gath (q : Cd.Full) (K M N : Nat) (fs : List (List UInt8)) : List UInt8 × Int :=
  if (Cd.goods (Cd.gds q.p (Rs.wd K N) fs) (K + M) fs.length).length < K then ([], 16)
  else if Rs.decE K M N (Cd.gds q.p (Rs.wd K N) fs) ≠ 0 then ([], Rs.decE K M N (Cd.gds q.p (Rs.wd K N) fs))
  else if Codec.sum (Rs.decL K M N (Cd.gds q.p (Rs.wd K N) fs)) ≠ q.p.sum then ([], 13)
  else (Rs.decL K M N (Cd.gds q.p (Rs.wd K N) fs), 0)
set_option maxHeartbeats 8000000 in
theorem gather_any (q : Cd.Full) (an : Option Addr) (nn cn K M N : Nat) (al : Option Addr) (nl cl : Nat) (fs : List (List UInt8)) (w : World) (hf : Cd.Fit q K M N) (hN : N ≤ 2000000) (hl : Bss w al nl cl fs) (hnl : nl = K + M) (hbig : ∀ i, i < nl → (nth fs i).length ≤ 100000000) :
    Calls Tryz.prog 19 #[Cd.pv q an nn cn, .slice al nl cl] w (VRes (Cd.gath q K M N fs).1 (Cd.gath q K M N fs).2 w) := by
  have hb0 := below_alloc1 w (.cells (Cd.pcells q an nn cn) 31)
  have hp0 := Cd.PAt.new w q an nn cn
  have HF := Lib.hid hf
  have hk1 := hf.k1
  have hkm := hf.km
  have hbb : nl ≤ 1000 := by omega
  have HCG := Lib.hid fun W (k : Below w.heap.size w W) => cgood_any q an nn cn K M N al nl cl fs W hf (hl.below k) hbb hbig
  have HGD := Lib.hid fun W (k : Below w.heap.size w W) => cGood_any q an nn cn K M N al nl cl fs W hf (hl.below k) hbb hbig
  have hle := hl.le
  have t1 : ((nl : Int) != (K : Int) + (M : Int)) = false := by rw [bne_eq_false_iff_eq]; omega
  have HGA : Hid (Cd.gath q K M N fs = if (Cd.goods (Cd.gds q.p (Rs.wd K N) fs) (K + M) nl).length < K then ([], 16)
    else if Rs.decE K M N (Cd.gds q.p (Rs.wd K N) fs) ≠ 0 then ([], Rs.decE K M N (Cd.gds q.p (Rs.wd K N) fs))
    else if Codec.sum (Rs.decL K M N (Cd.gds q.p (Rs.wd K N) fs)) ≠ q.p.sum then ([], 13)
    else (Rs.decL K M N (Cd.gds q.p (Rs.wd K N) fs), 0)) := Lib.hid (by unfold Cd.gath; rw [hl.1])
  have HGS : Hid (∀ i, i < nl → (nth (Cd.gds q.p (Rs.wd K N) fs) i).length ≤ 3000000) := Lib.hid fun i hi => by
    rw [gds_at (by rw [hl.1]; exact hi)]
    refine Nat.le_trans (rd_len _ _ _ _) ?_
    have := rwd_le K N
    omega
  generalize Cd.gath q K M N fs = R at *
  clear hf hl hnl hbig
  unfold Cd.pv at HCG HGD
  unfold Cd.pv
  go_enter Tryz.func19, Tryz.ntmps19
  go_upto_region 1 with fail
  unfold Cd.pcells at hb0 hp0
  generalize w.alloc (.cells #[.string (bstr q.bucket), .string (bstr q.key), .int .u64 q.version, .int .u64 q.p.stripe, .int .i64 q.p.K, .int .i64 q.p.M, .int .i64 q.p.size, .int .u32 (n32 q.p.sum), .slice an nn cn] 31) = w1 at *
  have HB1 := Lib.hid hb0
  have HP1 := Lib.hid hp0
  clear hb0 hp0
  obtain ⟨d4, d5, d6⟩ := fit_cells HF.out HP1.out
  go_wp2_with fail
  refine (new_any K M w1 hk1 hkm).mono ?_
  rintro e w2 ⟨⟨bc, rfl, hco⟩, hb2⟩
  have HB2 := Lib.hid (HB1.out.trans (hb2.mono HB1.out.size))
  have HP2 := Lib.hid (HP1.out.below hb2)
  have HCO := Lib.hid hco
  clear hb2 hco d4 d5 d6
  obtain ⟨d4, d5, d6⟩ := fit_cells HF.out HP2.out
  have hp := HP2.out
  have c0 := hp.c0
  have c1 := hp.c1
  have c2 := hp.c2
  have c3 := hp.c3
  have c7 := hp.c7
  have c8 := hp.c8
  go_upto_region 4 with fail
  clear d4 d5 d6
  have c4 := hp.c4
  have c5 := hp.c5
  have c6 := hp.c6
  clear hp
  go_wp2_with fail
  refine (HCG.out w2 HB2.out).mono ?_
  rintro e w3 ⟨a3, k3, rfl, ha3, hb3⟩
  have HB3 := Lib.hid (HB2.out.trans (hb3.mono HB2.out.size))
  have HP3 := Lib.hid (HP2.out.below hb3)
  have HG3 := Lib.hid ha3.bss
  have HCO3 := Lib.hid (HCO.out.below hb3)
  clear c0 c1 c2 c3 c4 c5 c6 c7 c8 ha3 hb3 HCG
  go_upto_region 5 with fail
  refine wp_region_steps [6] 6 6 (by kernel_rfl) (by kernel_rfl) rfl (fun W' => ∃ V : BW w3, W' = V.w) ?_
  have HBD : Hid (Below w3.heap.size w3 w3.drew) := Lib.hid (Below.refl _ _).drew
  generalize w3.drew = wD at *
  refine anyT_pull [0, 1, 4, 5] 6 2 (by intro c a d v w h; cases d <;> exact h) (by kernel_rfl) ⟨⟨_, HBD.out⟩, rfl⟩ ?_
  simp only [opsAt, List.filterMap_cons, List.filterMap_nil, List.getElem?_cons_zero, List.getElem?_cons_succ]
  apply held_step
  · kernel_rfl
  · rintro _ ⟨V, rfl⟩
    have hp := HP3.out.below V.b
    have c0 := hp.c0
    have c1 := hp.c1
    have c2 := hp.c2
    have c3 := hp.c3
    have c4 := hp.c4
    have c5 := hp.c5
    have c6 := hp.c6
    have c7 := hp.c7
    have c8 := hp.c8
    go_simp
    rfl
  iterate 3
    apply held_step
    · kernel_rfl
    · rintro _ ⟨V, rfl⟩
      obtain ⟨c4, c5, c6⟩ := fit_cells HF.out (HP3.out.below V.b)
      go_simp
      rfl
  refine held_nil ?_
  apply anyT_one 2
  · rfl
  · kernel_rfl
  · kernel_rfl
  intro K' hK
  go_simp
  refine (HGD.out wD (HB3.out.trans (HBD.out.mono HB3.out.size))).mono ?_
  rintro e w4 ⟨a4, m4, k4, rfl, ha4, hb4⟩
  have HB4 := Lib.hid (HBD.out.trans (hb4.mono HBD.out.size))
  have HML := Lib.hid ha4.1
  have hm4 : m4 ≤ 1000 := by
    have h1 := ha4.1
    have h2 := goods_len (Cd.gds q.p (Rs.wd K N) fs) (K + M) nl
    omega
  refine hK _ _ ⟨⟨_, HB4.out⟩, rfl⟩ ?_
  clear hK ha4 hb4 HGD
  rw [HML.out] at HGA
  clear HML
  refine anyT_pull [3] 6 0 (by intro c a d v w h; cases d <;> exact h) (by kernel_rfl) ⟨⟨_, HB4.out⟩, rfl⟩ ?_
  simp only [opsAt, List.filterMap_cons, List.filterMap_nil, List.getElem?_cons_zero, List.getElem?_cons_succ]
  apply held_step
  · kernel_rfl
  · rintro _ ⟨V, rfl⟩
    go_simp
    rfl
  refine held_nil ?_
  refine anyT_done (by kernel_rfl) ?_
  simp only [opsAt, List.filterMap_cons, List.filterMap_nil, List.getElem?_cons_zero, List.getElem?_cons_succ]
  have HP4 := Lib.hid (HP3.out.below HB4.out)
  have HG4 := Lib.hid (HG3.out.below HB4.out)
  have HCO4 := Lib.hid (HCO3.out.below HB4.out)
  have HX4 := Lib.hid (HB3.out.trans (HB4.out.mono HB3.out.size))
  by_cases hm : m4 < K
  · have t2 : decide ((m4 : Int) < (K : Int)) = true := decide_eq_true (by omega)
    have t3 : decide (m4 < K) = true := decide_eq_true hm
    have HR := Lib.hid (HGA.out.trans (if_pos hm))
    clear hm
    go_wp2
    go_ret2
    rw [HR.out]
    exact ⟨⟨none, 0, 0, rfl, Bs.nil _⟩, HX4.out⟩
  have t2 : decide ((m4 : Int) < (K : Int)) = false := decide_eq_false (by omega)
  have t3 : decide (m4 < K) = false := decide_eq_false hm
  have HGB := Lib.hid (HGA.out.trans (if_neg hm))
  clear hm HGA
  obtain ⟨c4, c5, c6⟩ := fit_cells HF.out HP4.out
  have HDE := Lib.hid (decode_any bc K M (N : Int) a3 nl k3 (Cd.gds q.p (Rs.wd K N) fs) w4 HCO4.out HG4.out hk1 hkm (by omega) HGS.out ⟨by omega, by omega⟩)
  generalize Rs.decE K M N (Cd.gds q.p (Rs.wd K N) fs) = er at *
  generalize Rs.decL K M N (Cd.gds q.p (Rs.wd K N) fs) = dl at *
  go_wp2_with fail
  refine HDE.out.mono ?_
  rintro e w5 ⟨⟨a5, n5, k5, rfl, hs5⟩, hb5⟩
  have HB5 := Lib.hid (HX4.out.trans (hb5.mono HX4.out.size))
  have HP5 := Lib.hid (HP4.out.below hb5)
  have HS5 := Lib.hid hs5
  clear hb5 hs5 c4 c5 c6 HDE
  by_cases her : er = 0
  case neg =>
    have ter : (er != 0) = true := by rw [bne_iff_ne]; exact her
    have HR := Lib.hid (HGB.out.trans (if_pos her))
    clear her
    go_wp2
    go_ret2
    rw [HR.out]
    exact ⟨⟨none, 0, 0, rfl, Bs.nil _⟩, HB5.out⟩
  have HGC := Lib.hid (HGB.out.trans (if_neg (fun h => h her)))
  subst her
  clear HGB
  go_upto_region 10 with fail
  refine wp_region_steps [8] 8 8 (by kernel_rfl) (by kernel_rfl) rfl (fun W' => ∃ V : BW w5, W' = V.w) ?_
  have HBE : Hid (Below w5.heap.size w5 w5.drew) := Lib.hid (Below.refl _ _).drew
  generalize w5.drew = wE at *
  refine anyT_pull [0, 4, 5] 8 5 (by intro c a d v w h; cases d <;> exact h) (by kernel_rfl) ⟨⟨_, HBE.out⟩, rfl⟩ ?_
  simp only [opsAt, List.filterMap_cons, List.filterMap_nil, List.getElem?_cons_zero, List.getElem?_cons_succ]
  iterate 3
    apply held_step
    · kernel_rfl
    · rintro _ ⟨V, rfl⟩
      have c7 := (HP5.out.below V.b).c7
      go_simp
      rfl
  refine held_nil ?_
  apply anyT_one 1
  · rfl
  · kernel_rfl
  · kernel_rfl
  intro K' hK
  go_simp
  have HBF := Lib.hid (HBE.out.trans ((below_alloc1 wE (.cells #[.slice a5 n5 k5] 25)).mono HBE.out.size))
  have HO := Lib.hid (Bss.one (HS5.out.below HBE.out))
  refine hK _ _ ⟨⟨_, HBF.out⟩, rfl⟩ ?_
  clear hK
  generalize wE.alloc (.cells #[.slice a5 n5 k5] 25) = wF at *
  apply anyT_one 2
  · rfl
  · kernel_rfl
  · kernel_rfl
  intro K' hK
  go_simp
  refine (sum_any _ 1 1 [dl] wF HO.out).mono ?_
  rintro e wG ⟨rfl, hbg⟩
  rw [show ([dl] : List (List UInt8)).flatten = dl by simp]
  have HBG := Lib.hid (HBF.out.trans (hbg.mono HBF.out.size))
  refine hK _ _ ⟨⟨_, HBG.out⟩, rfl⟩ ?_
  clear hK hbg
  generalize Codec.sum dl = s at *
  apply anyT_one 3
  · rfl
  · kernel_rfl
  · kernel_rfl
  intro K' hK
  go_simp
  refine (cfour_any s wG).mono ?_
  rintro e wH ⟨rfl, hbh⟩
  have HBH := Lib.hid (HBG.out.trans (hbh.mono HBG.out.size))
  refine hK _ _ ⟨⟨_, HBH.out⟩, rfl⟩ ?_
  clear hK hbh
  apply anyT_one 6
  · rfl
  · kernel_rfl
  · kernel_rfl
  intro K' hK
  go_simp
  refine (cfour_any q.p.sum wH).mono ?_
  rintro e wI ⟨rfl, hbi⟩
  have HBI := Lib.hid (HBH.out.trans (hbi.mono HBH.out.size))
  refine hK _ _ ⟨⟨_, HBI.out⟩, rfl⟩ ?_
  clear hK hbi
  have HBX := Lib.hid (HB5.out.trans (HBI.out.mono HB5.out.size))
  have HSI := Lib.hid (HS5.out.below HBI.out)
  by_cases hs : s = q.p.sum
  · have heq : ∀ W, (Op.equalIn 10000 74 (.agg (Cd.fourV s)) (.agg (Cd.fourV q.p.sum))).run Tryz.prog W = .ok true W := fun W => by rw [fourV_eq, decide_eq_true hs]
    have HR := Lib.hid (HGC.out.trans (if_neg (fun h => h hs)))
    clear hs HGC
    refine anyT_pull [7] 8 0 (by intro c a d v w h; cases d <;> exact h) (by kernel_rfl) ⟨⟨_, HBI.out⟩, rfl⟩ ?_
    simp only [opsAt, List.filterMap_cons, List.filterMap_nil, List.getElem?_cons_zero, List.getElem?_cons_succ]
    apply held_step
    · kernel_rfl
    · rintro _ ⟨V, rfl⟩
      go_simp
      rfl
    refine held_nil ?_
    refine anyT_done (by kernel_rfl) ?_
    simp only [opsAt, List.filterMap_cons, List.filterMap_nil, List.getElem?_cons_zero, List.getElem?_cons_succ]
    clear heq
    go_wp2
    go_ret2
    rw [HR.out]
    exact ⟨⟨a5, n5, k5, rfl, HSI.out⟩, HBX.out⟩
  · have heq : ∀ W, (Op.equalIn 10000 74 (.agg (Cd.fourV s)) (.agg (Cd.fourV q.p.sum))).run Tryz.prog W = .ok false W := fun W => by rw [fourV_eq, decide_eq_false hs]
    have HR := Lib.hid (HGC.out.trans (if_pos hs))
    clear hs HGC
    refine anyT_pull [7] 8 0 (by intro c a d v w h; cases d <;> exact h) (by kernel_rfl) ⟨⟨_, HBI.out⟩, rfl⟩ ?_
    simp only [opsAt, List.filterMap_cons, List.filterMap_nil, List.getElem?_cons_zero, List.getElem?_cons_succ]
    apply held_step
    · kernel_rfl
    · rintro _ ⟨V, rfl⟩
      go_simp
      rfl
    refine held_nil ?_
    refine anyT_done (by kernel_rfl) ?_
    simp only [opsAt, List.filterMap_cons, List.filterMap_nil, List.getElem?_cons_zero, List.getElem?_cons_succ]
    clear heq
    go_wp2
    go_ret2
    rw [HR.out]
    exact ⟨⟨none, 0, 0, rfl, Bs.nil _⟩, HBX.out⟩
end Go.Proofs.YtfgifndpglgjkaaGreatDoor
end

section
set_option maxRecDepth 100000
set_option linter.unusedVariables false
set_option linter.unusedSimpArgs false
namespace Go.Proofs.YtfgifndpglgjkaaGreatDoor

theorem goods_thr (ls : List (List UInt8)) (n : Nat) : (Cd.goods ls n n).length = (Rs.thr ls n).length := by
  unfold Cd.goods Rs.thr
  rw [List.length_map]
  congr 1
  apply List.filter_congr
  intro i hi
  have := List.mem_range.1 hi
  simp [this]
/-- Files of a stripe; those of G are bad. -/
structure Cd.Files (q : Cd.Full) (K M : Nat) (d : List UInt8) (G : List Nat) (fs : List (List UInt8)) : Prop where
  len : fs.length = K + M
  bad : ∀ i, i < K + M → i ∈ G → (Cd.rd q.p (Rs.wd K d.length) i (nth fs i)).1 = []
  good : ∀ i, i < K + M → i ∉ G → nth fs i = Cd.file q.p i (nth (Rs.all K M d) i)
theorem gds_gone {q : Cd.Full} {K M : Nat} {d : List UInt8} {G : List Nat} {fs : List (List UInt8)} (hs : q.p.stripe < 18446744073709551616) (hd : Rs.wd K d.length ≤ 67108000) (h : Cd.Files q K M d G fs) : Cd.gds q.p (Rs.wd K d.length) fs = Rs.gone K M d G := by
  refine list_ext_n (by rw [gds_len, gone_len, h.len]) fun i hi => ?_
  rw [gds_len] at hi
  have hi' : i < K + M := by rw [← h.len]; exact hi
  rw [gds_at hi, gone_at hi']
  unfold Cd.gd
  by_cases e : i ∈ G
  · rw [if_pos e, h.bad i hi' e]
  · have hw := all_len (d := d) hi'
    rw [if_neg e, h.good i hi' e, Cd.rd_file hs (by rw [hw]; exact hd) hw]
theorem gath_back {q : Cd.Full} {K M : Nat} {d : List UInt8} {G : List Nat} {fs : List (List UInt8)} (hf : Cd.Fit q K M d.length) (hN : d.length ≤ 2000000) (hsum : q.p.sum = Codec.sum d) (hn : G.Nodup) (hb : ∀ g ∈ G, g < K + M) (h : Cd.Files q K M d G fs) (hG : G.length ≤ M) : Cd.gath q K M d.length fs = (d, 0) := by
  have hk := hf.k1
  have hkm := hf.km
  have hg := gds_gone hf.ok.s.lt (by have := rwd_le K d.length; omega) h
  have ht := gone_thr (d := d) hn hb
  have hl := gone_lost (d := d) hn hb
  rw [decide_eq_false (by omega)] at hl
  obtain ⟨h1, h2⟩ := dec_is hk hkm (gone_sub K M d G) hl
  unfold Cd.gath
  rw [hg, h.len, goods_thr, if_neg (by omega), h1, if_neg (by simp), h2, if_neg (by simp [hsum])]
theorem gath_lost {q : Cd.Full} {K M : Nat} {d : List UInt8} {G : List Nat} {fs : List (List UInt8)} (hf : Cd.Fit q K M d.length) (hN : d.length ≤ 2000000) (hn : G.Nodup) (hb : ∀ g ∈ G, g < K + M) (h : Cd.Files q K M d G fs) (hG : M < G.length) : Cd.gath q K M d.length fs = ([], 16) := by
  have hk := hf.k1
  have hkm := hf.km
  have hg := gds_gone hf.ok.s.lt (by have := rwd_le K d.length; omega) h
  have ht := gone_thr (d := d) hn hb
  unfold Cd.gath
  rw [hg, h.len, goods_thr, if_pos (by omega)]
/-- What Point makes of an object that may be. -/
theorem mk_fit {bk key : List UInt8} {v K M : Nat} {d : List UInt8} {l : List Int} (hv : U64 v) (h1 : 1 ≤ K) (h2 : K + M ≤ 255) (hd : d.length ≤ 2000000) : Cd.Fit (Cd.mk bk key v K M d.length d l) K M d.length :=
  ⟨⟨hv, hv, ⟨by show (-9223372036854775808 : Int) ≤ (K : Int); omega, by show (K : Int) ≤ 9223372036854775807; omega⟩, ⟨by show (-9223372036854775808 : Int) ≤ (M : Int); omega, by show (M : Int) ≤ 9223372036854775807; omega⟩, ⟨by show (-9223372036854775808 : Int) ≤ (d.length : Int); omega, by show (d.length : Int) ≤ 9223372036854775807; omega⟩⟩, rfl, rfl, rfl, h1, h2, by omega⟩
theorem shs_len (q : Cd.Full) (ls : List (List UInt8)) : (Cd.shs q ls).length = ls.length := by simp [Cd.shs]
theorem shs_at {q : Cd.Full} {ls : List (List UInt8)} {i : Nat} (h : i < ls.length) : nth (Cd.shs q ls) i = Cd.sh q ls i := nth_map_range _ h
end Go.Proofs.YtfgifndpglgjkaaGreatDoor
end

section
set_option maxRecDepth 100000
set_option linter.unusedVariables false
set_option linter.unusedSimpArgs false
namespace Go.Proofs.YtfgifndpglgjkaaGreatDoor
open Go.RowKit

theorem AccB.at0 {α : Type} [Inhabited α] {C : Bel α} {T : TypeId} {w : World} {B n c : Nat} {a : Option Addr} {l : List α} (h : AccB C T w B a n c l) (hn : 0 < n) : ∃ g, a = some ⟨g, 0, none⟩ ∧ B ≤ g ∧ ∀ i, i < n → ∃ ai ci, (∀ j v, (C.f (nth l i) ai ci)[j]? = some v → w.cell? ⟨g, i * C.s + j, none⟩ = some v) ∧ Own w 0 ai (C.v (nth l i)).length ci (C.v (nth l i)) := by
  obtain ⟨cs, h1, h2⟩ := h.row
  have hr := Row.of_own h1
  rcases h1.2 with g | ⟨g, cap, cur, g1, g2, g3, g4⟩
  · obtain ⟨g, h0⟩ := g; omega
  · cases g1
    refine ⟨g, rfl, g2, fun i hi => ?_⟩
    obtain ⟨ai, ci, k1, k2⟩ := h2 i hi
    refine ⟨ai, ci, fun j v hj => ?_, k2⟩
    obtain ⟨b', off', e, k⟩ := hr _ _ (k1 j v hj)
    cases e
    simpa using k
theorem is_lit {w : World} {k : Nat} (l : List Int) (hk : k = w.heap.size) (hl : l.length ≤ maxLen) (h : ∀ z ∈ l, I64 z) : Is (w.alloc (.cells (zv l).toArray 3)) (some ⟨k, 0, none⟩) l.length l.length l := by
  subst hk
  exact ⟨rfl, Nat.le_refl _, hl, by simpa using Row.new w (zv l).toArray 3, h⟩
theorem file_len (p : Cd.Ptr) (i : Int) (s : List UInt8) (hp : p.stripe < 18446744073709551616) (hs : s.length ≤ 67108000) : (Cd.file p i s).length ≤ s.length + 100 := by
  have h1 := Cd.body_len p i s hp hs
  have h2 := Codec.enc_len10 (v := (Cd.head p i ++ Cd.lp s).length) (by omega)
  have h3 : (Codec.four (Codec.sum (Cd.head p i ++ Cd.lp s))).length = 4 := rfl
  unfold Cd.file Codec.frame
  rw [List.length_append, List.length_append, h3]
  omega
theorem bss3 {w : World} {a0 a1 a2 : Option Addr} {n0 n1 n2 c0 c1 c2 : Nat} {l0 l1 l2 : List UInt8} (h0 : Bs w a0 n0 c0 l0) (h1 : Bs w a1 n1 c1 l1) (h2 : Bs w a2 n2 c2 l2) :
    Bss (w.alloc (.cells #[.slice a0 n0 c0, .slice a1 n1 c1, .slice a2 n2 c2] 25)) (some ⟨w.heap.size, 0, none⟩) 3 3 [l0, l1, l2] := by
  have hb := below_alloc1 w (.cells #[.slice a0 n0 c0, .slice a1 n1 c1, .slice a2 n2 c2] 25)
  have hr := heap_alloc_new w (.cells #[.slice a0 n0 c0, .slice a1 n1 c1, .slice a2 n2 c2] 25)
  refine ⟨rfl, Nat.le_refl _, by simp [maxLen], fun i hi => ?_⟩
  match i, hi with
  | 0, _ => exact ⟨_, 0, a0, n0, c0, rfl, (cell_of_row _ _ 0 _ _ _ hr).trans rfl, h0.below hb⟩
  | 1, _ => exact ⟨_, 0, a1, n1, c1, rfl, (cell_of_row _ _ 1 _ _ _ hr).trans rfl, h1.below hb⟩
  | 2, _ => exact ⟨_, 0, a2, n2, c2, rfl, (cell_of_row _ _ 2 _ _ _ hr).trans rfl, h2.below hb⟩
theorem name_known : Cd.name 9 1 = [115, 45, 48, 48, 48, 48, 48, 48, 48, 48, 48, 48, 48, 48, 48, 48, 48, 57, 45, 48, 48, 49] := by
  have h : Lib.decDigits 1 = [49] := by rw [Lib.decDigits, dif_pos (by omega)]; rfl
  have t : Cd.three 1 = 1 := by decide
  unfold Cd.name Cd.d3
  rw [t, h]
  decide +kernel
def Cd.abc : List UInt8 := [97, 98, 99]
def Cd.kq : Cd.Full := Cd.mk [98] [107] 9 2 1 3 Cd.abc [4, 5, 6]
theorem kq_fit : Cd.Fit Cd.kq 2 1 3 := mk_fit (d := Cd.abc) (K := 2) (M := 1) ⟨by omega⟩ (by omega) (by omega) (by decide)
theorem kq_files1 : Cd.Files Cd.kq 2 1 Cd.abc [0] [[], Cd.file Cd.kq.p 1 (nth (Rs.all 2 1 Cd.abc) 1), Cd.file Cd.kq.p 2 (nth (Rs.all 2 1 Cd.abc) 2)] where
  len := rfl
  bad i hi h := by
    have : i = 0 := by simpa using h
    subst this
    exact (Cd.rd_nil _ _ _).1
  good i hi h := by
    have h0 : i ≠ 0 := by simpa using h
    match i, hi, h0 with
    | 1, _, _ => rfl
    | 2, _, _ => rfl
theorem kq_files2 : Cd.Files Cd.kq 2 1 Cd.abc [0, 1] [[], [], Cd.file Cd.kq.p 2 (nth (Rs.all 2 1 Cd.abc) 2)] where
  len := rfl
  bad i hi h := by
    have : i = 0 ∨ i = 1 := by simpa using h
    rcases this with rfl | rfl
    · exact (Cd.rd_nil _ _ _).1
    · exact (Cd.rd_nil _ _ _).1
  good i hi h := by
    have h0 : i ≠ 0 ∧ i ≠ 1 := by simpa using h
    match i, hi, h0 with
    | 2, _, _ => rfl
theorem abc_len : Cd.abc.length = 3 := rfl
theorem kq_gath1 : Cd.gath Cd.kq 2 1 3 [[], Cd.file Cd.kq.p 1 (nth (Rs.all 2 1 Cd.abc) 1), Cd.file Cd.kq.p 2 (nth (Rs.all 2 1 Cd.abc) 2)] = (Cd.abc, 0) := by
  have hf := kq_fit
  rw [← abc_len] at hf ⊢
  have hs : Cd.kq.p.sum = Codec.sum Cd.abc := by unfold Cd.kq Cd.mk; exact Eq.refl _
  exact gath_back hf (by rw [abc_len]; omega) hs (by simp) (by simp) kq_files1 (by simp)
theorem kq_gath2 : Cd.gath Cd.kq 2 1 3 [[], [], Cd.file Cd.kq.p 2 (nth (Rs.all 2 1 Cd.abc) 2)] = ([], 16) := by
  have hf := kq_fit
  rw [← abc_len] at hf ⊢
  exact gath_lost hf (by rw [abc_len]; omega) (by simp) (by simp) kq_files2 (by simp)
end Go.Proofs.YtfgifndpglgjkaaGreatDoor
end
