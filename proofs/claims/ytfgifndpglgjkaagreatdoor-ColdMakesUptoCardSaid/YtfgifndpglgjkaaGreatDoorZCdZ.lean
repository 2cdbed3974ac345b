/- Cold stripes: ColdMakes, walked. -/
import Derived.Test.YtfgifndpglgjkaaGreatDoorZCdY
set_option linter.unusedVariables false
set_option linter.unusedSimpArgs false
set_option maxRecDepth 100000
set_option linter.unusedVariables false
set_option linter.unusedSimpArgs false
namespace Go.Proofs.YtfgifndpglgjkaaGreatDoor
open Go.RowKit

theorem hot_cells {w : World} {b : Nat} {t : TypeId} {v0 v1 v2 v3 : Value} (h : w.heap[b]? = some (.cells #[v0, v1, v2, v3] t (0, 0))) :
    w.cell? ⟨b, 0, none⟩ = some v0 ∧ w.cell? ⟨b, 1, none⟩ = some v1 ∧ w.cell? ⟨b, 2, none⟩ = some v2 ∧ w.cell? ⟨b, 3, none⟩ = some v3 :=
  ⟨(cell_of_row _ _ 0 _ _ _ h).trans rfl, (cell_of_row _ _ 1 _ _ _ h).trans rfl, (cell_of_row _ _ 2 _ _ _ h).trans rfl, (cell_of_row _ _ 3 _ _ _ h).trans rfl⟩
set_option maxHeartbeats 16000000 in
theorem makes_walk (bk key : List UInt8) (v : Nat) (size : Int) (ad : Option Addr) (nd cd : Nat) (k m : Int) (an : Option Addr) (nn cn : Nat) (idx : Int) (as_ : Option Addr) (ns cs : Nat) (s : List UInt8) (w : World)
    (hs : Bs w as_ ns cs s) (hv : U64 v) (hk : I64 k) (hm : I64 m) (hi : Cd.I64 idx) (hc : Cst w) (hnd : nd ≤ 50000000) (hns : ns ≤ 50000000) (hnn : nn ≤ 50000000)
    (q : Cd.Full) (NN nl : Nat) (er er2 : Int) (L : List Cd.Shard) (hq : q.Ok) (hNN : NN ≤ 1000000) (hnl : nl ≤ 1000000)
    (hP : nn ≤ 600 → ∀ W, Below w.heap.size w W → Calls Tryz.prog 8 #[Cd.hv bk key v size, .slice ad nd cd, .int .i64 k, .int .i64 m, .slice an nn cn] W fun e W' => ∃ a c, e = .returned (.tuple #[Cd.pv q a NN c, .int .i64 er]) ∧ Is W' a NN c q.nodes ∧ Below W.heap.size W W')
    (hR : nn ≤ 600 → ∀ W, Below w.heap.size w W → Calls Tryz.prog 9 #[Cd.hv bk key v size, .slice ad nd cd, .int .i64 k, .int .i64 m, .slice an nn cn] W fun e W' => ∃ a c, e = .returned (.tuple #[Cd.pv q a NN c, .int .i64 er]) ∧ Is W' a NN c q.nodes ∧ Below W.heap.size W W')
    (hS : ∀ W a c, Below w.heap.size w W → Is W a NN c q.nodes → Calls Tryz.prog 15 #[Cd.pv q a NN c, .slice ad nd cd] W fun e W' => ∃ a' c', e = .returned (.tuple #[.slice a' nl c', .int .i64 er2]) ∧ AccB belS 51 W' W.heap.size a' nl c' L ∧ Below W.heap.size W W')
    (hT : ∀ W a c, Below w.heap.size w W → Is W a NN c q.nodes → Calls Tryz.prog 16 #[Cd.pv q a NN c, .slice ad nd cd] W fun e W' => ∃ a' c', e = .returned (.tuple #[.slice a' nl c', .int .i64 er2]) ∧ AccB belS 84 W' W.heap.size a' nl c' L ∧ Below W.heap.size W W') :
    Calls Tryz.prog 3 #[Cd.hv bk key v size, .slice ad nd cd, .int .i64 k, .int .i64 m, .slice an nn cn, .int .i64 idx, .slice as_ ns cs] w fun e w' => e = .returned (.bool true) ∧ Below w.heap.size w w' := by
  have hb0 := below_alloc1 w (.cells #[.string (bstr bk), .string (bstr key), .int .u64 v, .int .i64 size] 24)
  have hg0 := heap_alloc_new w (.cells #[.string (bstr bk), .string (bstr key), .int .u64 v, .int .i64 size] 24)
  have HSS : Hid (∀ W, Below w.heap.size w W → Bs W as_ ns cs s) := Lib.hid fun W k => hs.below k
  have HC := Lib.hid hc
  have HP := Lib.hid hP
  have HR := Lib.hid hR
  have HS := Lib.hid hS
  have HT := Lib.hid hT
  have HV := Lib.hid hv
  have HI := Lib.hid hi
  have HQ := Lib.hid hq
  have HK := Lib.hid hk
  have HM := Lib.hid hm
  clear hs hc hP hR hS hT hv hi hq hk hm
  unfold Cd.hv at HP HR
  unfold Cd.pv at HP HR HS HT
  unfold Cd.hv
  go_enter Tryz.func3, Tryz.ntmps3
  go_upto_region 1 with fail
  generalize w.alloc (.cells #[.string (bstr bk), .string (bstr key), .int .u64 v, .int .i64 size] 24) = w1 at *
  have HB1 := Lib.hid hb0
  have HG1 := Lib.hid hg0
  have HZ1 : Hid (w.heap.size < w1.heap.size) := Lib.hid (Array.getElem?_eq_some_iff.1 hg0).1
  clear hb0 hg0
  have HKN := Lib.hid (known_any w1 (HC.out.below HB1.out))
  go_wp2_with fail
  refine HKN.out.mono ?_
  rintro e w2 ⟨rfl, hb2⟩
  have HB2 := Lib.hid (HB1.out.trans (hb2.mono HB1.out.size))
  have HG2 := Lib.hid ((hb2.block _ HZ1.out).trans HG1.out)
  have HZ2 : Hid (w.heap.size < w2.heap.size) := Lib.hid (Nat.lt_of_lt_of_le HZ1.out hb2.size)
  clear hb2 HKN
  have hb3 := below_alloc1 w2 (.cells #[.slice ad nd cd, .slice as_ ns cs] 25)
  have hr3 := heap_alloc_new w2 (.cells #[.slice ad nd cd, .slice as_ ns cs] 25)
  have k0 := (cell_of_row _ _ 0 _ _ _ hr3).trans rfl
  have k1 := (cell_of_row _ _ 1 _ _ _ hr3).trans rfl
  have HF2 := Lib.hid (few2_any k m w2.heap.size ad nd cd as_ ns cs _ k0 k1 HK.out HM.out (by omega) (by omega))
  clear k0 k1 hr3
  go_wp2_with fail
  refine HF2.out.mono ?_
  rintro e w3 ⟨t, rfl, _, rfl⟩
  clear HF2
  generalize w2.alloc (.cells #[.slice ad nd cd, .slice as_ ns cs] 25) = w3 at *
  have HB3 := Lib.hid (HB2.out.trans (hb3.mono HB2.out.size))
  have HG3 := Lib.hid ((hb3.block _ HZ2.out).trans HG2.out)
  have HZ3 : Hid (w.heap.size < w3.heap.size) := Lib.hid (Nat.lt_of_lt_of_le HZ2.out hb3.size)
  clear hb3
  cases t with
  | false =>
    dsimp only [Bool.not_false]
    go_wp2
    go_ret
    exact ⟨rfl, HB3.out⟩
  | true =>
  dsimp only [Bool.not_true]
  by_cases h6 : 600 < nn
  · have t6 : decide ((600 : Int) < (nn : Int)) = true := decide_eq_true (by omega)
    have t6' : decide (600 < nn) = true := decide_eq_true h6
    go_wp2
    go_ret
    exact ⟨rfl, HB3.out⟩
  have t6 : decide ((600 : Int) < (nn : Int)) = false := decide_eq_false (by omega)
  have t6' : decide (600 < nn) = false := decide_eq_false h6
  have H6 : Hid (nn ≤ 600) := Lib.hid (by omega)
  clear h6
  obtain ⟨c0, c1, c2, c3⟩ := hot_cells HG3.out
  go_wp2_with fail
  refine (HP.out H6.out w3 HB3.out).mono ?_
  rintro e w4 ⟨a4, k4, rfl, hi4, hb4⟩
  have HI4 := Lib.hid hi4
  have HB4 := Lib.hid (HB3.out.trans (hb4.mono HB3.out.size))
  have HG4 := Lib.hid ((hb4.block _ HZ3.out).trans HG3.out)
  have HZ4 : Hid (w.heap.size < w4.heap.size) := Lib.hid (Nat.lt_of_lt_of_le HZ3.out hb4.size)
  clear hb4 hi4 c0 c1 c2 c3 t6 t6'
  go_upto_region 6 with fail
  have hb5 := below_alloc1 w4 (.cells (Cd.pcells q a4 NN k4) 31)
  have hp5 := Cd.PAt.new w4 q a4 NN k4
  unfold Cd.pcells at hb5 hp5
  generalize w4.alloc (.cells #[.string (bstr q.bucket), .string (bstr q.key), .int .u64 q.version, .int .u64 q.p.stripe, .int .i64 q.p.K, .int .i64 q.p.M, .int .i64 q.p.size, .int .u32 (n32 q.p.sum), .slice a4 NN k4] 31) = w5 at *
  generalize hx4 : w4.heap.size = x4 at *
  have hb5' : Below w4.heap.size w4 w5 := by rw [hx4]; exact hb5
  have hz4' : w.heap.size < w4.heap.size := by rw [hx4]; exact HZ4.out
  have HB5 := Lib.hid (HB4.out.trans (hb5'.mono HB4.out.size))
  have HP5 := Lib.hid hp5
  have HI5 := Lib.hid (HI4.out.below hb5')
  have HG5 := Lib.hid ((hb5'.block _ hz4').trans HG4.out)
  have HZ5 : Hid (w.heap.size < w5.heap.size) := Lib.hid (Nat.lt_of_lt_of_le hz4' hb5'.size)
  clear hb5 hp5 hx4 hb5' hz4'
  obtain ⟨c0, c1, c2, c3⟩ := hot_cells HG5.out
  go_wp2_with fail
  refine (HR.out H6.out w5 HB5.out).mono ?_
  rintro e w6 ⟨a6, k6, rfl, hi6, hb6⟩
  have HI6 := Lib.hid hi6
  have HB6 := Lib.hid (HB5.out.trans (hb6.mono HB5.out.size))
  have HP6 := Lib.hid (HP5.out.below hb6)
  have HJ6 := Lib.hid (HI5.out.below hb6)
  have HG6 := Lib.hid ((hb6.block _ HZ5.out).trans HG5.out)
  have HZ6 : Hid (w.heap.size < w6.heap.size) := Lib.hid (Nat.lt_of_lt_of_le HZ5.out hb6.size)
  clear hb6 hi6 c0 c1 c2 c3
  go_upto_region 7 with fail
  have hb7 := below_alloc1 w6 (.cells (Cd.pcells q a6 NN k6) 31)
  have hp7 := Cd.PAt.new w6 q a6 NN k6
  unfold Cd.pcells at hb7 hp7
  generalize w6.alloc (.cells #[.string (bstr q.bucket), .string (bstr q.key), .int .u64 q.version, .int .u64 q.p.stripe, .int .i64 q.p.K, .int .i64 q.p.M, .int .i64 q.p.size, .int .u32 (n32 q.p.sum), .slice a6 NN k6] 31) = w7 at *
  generalize hx6 : w6.heap.size = x6 at *
  have hb7' : Below w6.heap.size w6 w7 := by rw [hx6]; exact hb7
  have hz6' : w.heap.size < w6.heap.size := by rw [hx6]; exact HZ6.out
  have HB7 := Lib.hid (HB6.out.trans (hb7'.mono HB6.out.size))
  have HP7 := Lib.hid (HP6.out.below hb7')
  have HQ7 := Lib.hid hp7
  have HJ7 := Lib.hid (HJ6.out.below hb7')
  have HI7 := Lib.hid (HI6.out.below hb7')
  have HG7 := Lib.hid ((hb7'.block _ hz6').trans HG6.out)
  clear hb7 hb7' hp7 hx6 hz6'
  have hg2 := (hot_cells HG7.out).2.2.1
  have p2 := BW.cell hg2
  have HSM := Lib.hid fun W (h : Below w7.heap.size w7 W) => same_any q a4 a6 NN k4 k6 W (HJ7.out.below h) (HI7.out.below h) hNN
  have HNA := Lib.hid fun W (h : Below w7.heap.size w7 W) => name_any v idx HV.out HI.out W (HC.out.below (HB7.out.trans (h.mono HB7.out.size)))
  have HNR := Lib.hid fun W => rname_any v idx HV.out HI.out W
  have HFA := Lib.hid fun W (h : Below w7.heap.size w7 W) => file_any q a6 NN k6 idx as_ ns cs s W (HSS.out W (HB7.out.trans (h.mono HB7.out.size))) HQ.out HI.out (by omega)
  have HFR := Lib.hid fun W (h : Below w7.heap.size w7 W) => rfile_any q a6 NN k6 idx as_ ns cs s W (HSS.out W (HB7.out.trans (h.mono HB7.out.size))) HQ.out HI.out (by omega)
  unfold Cd.pv at HSM HFA HFR
  have e1 : ((bstr (Cd.name v idx)).toList == (bstr (Cd.name v idx)).toList) = true := by simp
  have e2 : ((bstr (Cd.file q.p idx s)).toList == (bstr (Cd.file q.p idx s)).toList) = true := by simp
  have e3 : (er != er) = false := by simp
  generalize Cd.name v idx = nm at *
  generalize Cd.file q.p idx s = fl at *
  go_upto_region 7 with fail
  clear hg2
  refine wp_region_steps [32] 32 32 (by kernel_rfl) (by kernel_rfl) rfl (fun W' => ∃ V : BW w7, W' = V.w) ?_
  have HBD : Hid (Below w7.heap.size w7 w7.drew) := Lib.hid (Below.refl _ _).drew
  generalize w7.drew = wD at *
  refine anyT_pull [0, 1] 32 30 (by intro c a d v w h; cases d <;> exact h) (by kernel_rfl) ⟨⟨_, HBD.out⟩, rfl⟩ ?_
  simp only [opsAt, List.filterMap_cons, List.filterMap_nil, List.getElem?_cons_zero, List.getElem?_cons_succ]
  iterate 2
    apply held_step
    · kernel_rfl
    · rintro _ ⟨V, rfl⟩
      have hp := HP7.out.below V.b
      have c0 := hp.c0
      have c1 := hp.c1
      have c2 := hp.c2
      have c3 := hp.c3
      have c4 := hp.c4
      have c5 := hp.c5
      have c6 := hp.c6
      have c7 := hp.c7
      have c8 := hp.c8
      have hp2 := HQ7.out.below V.b
      have d0 := hp2.c0
      have d1 := hp2.c1
      have d2 := hp2.c2
      have d3 := hp2.c3
      have d4 := hp2.c4
      have d5 := hp2.c5
      have d6 := hp2.c6
      have d7 := hp2.c7
      have d8 := hp2.c8
      go_simp
      rfl
  refine held_nil ?_
  apply anyT_one 2
  · rfl
  · kernel_rfl
  · kernel_rfl
  intro K' hK
  go_simp
  refine (HSM.out wD HBD.out).mono ?_
  rintro e wE ⟨rfl, hbe⟩
  have HBE' := Lib.hid (HBD.out.trans (hbe.mono HBD.out.size))
  refine hK _ _ ⟨⟨_, HBE'.out⟩, rfl⟩ ?_
  clear hK hbe HSM
  refine anyT_pull [3, 4, 5, 6, 7, 8, 9, 10, 11, 12, 14, 15, 16] 32 16 (by intro c a d v w h; cases d <;> exact h) (by kernel_rfl) ⟨⟨_, HBE'.out⟩, rfl⟩ ?_
  simp only [opsAt, List.filterMap_cons, List.filterMap_nil, List.getElem?_cons_zero, List.getElem?_cons_succ]
  iterate 13
    apply held_step
    · kernel_rfl
    · rintro _ ⟨V, rfl⟩
      have q2 := p2 V
      go_simp
      rfl
  refine held_nil ?_
  apply anyT_one 13
  · rfl
  · kernel_rfl
  · kernel_rfl
  intro K' hK
  go_simp
  refine (HNA.out wE HBE'.out).mono ?_
  rintro e wF ⟨rfl, hbf⟩
  have HBF := Lib.hid (HBE'.out.trans (hbf.mono HBE'.out.size))
  refine hK _ _ ⟨⟨_, HBF.out⟩, rfl⟩ ?_
  clear hK hbf HNA
  apply anyT_one 17
  · rfl
  · kernel_rfl
  · kernel_rfl
  intro K' hK
  go_simp
  refine (HNR.out wF).mono ?_
  rintro e wG ⟨rfl, hbg⟩
  have HBG := Lib.hid (HBF.out.trans (hbg.mono HBF.out.size))
  refine hK _ _ ⟨⟨_, HBG.out⟩, rfl⟩ ?_
  clear hK hbg HNR
  refine anyT_pull [18, 19, 20, 21, 22, 23, 26, 27, 28] 32 5 (by intro c a d v w h; cases d <;> exact h) (by kernel_rfl) ⟨⟨_, HBG.out⟩, rfl⟩ ?_
  simp only [opsAt, List.filterMap_cons, List.filterMap_nil, List.getElem?_cons_zero, List.getElem?_cons_succ]
  iterate 9
    apply held_step
    · kernel_rfl
    · rintro _ ⟨V, rfl⟩
      have hp2 := HQ7.out.below V.b
      have d0 := hp2.c0
      have d1 := hp2.c1
      have d2 := hp2.c2
      have d3 := hp2.c3
      have d4 := hp2.c4
      have d5 := hp2.c5
      have d6 := hp2.c6
      have d7 := hp2.c7
      have d8 := hp2.c8
      go_simp
      rfl
  refine held_nil ?_
  apply anyT_one 24
  · rfl
  · kernel_rfl
  · kernel_rfl
  intro K' hK
  go_simp
  refine (HFA.out wG HBG.out).mono ?_
  rintro e wH ⟨aH, nH, cH, rfl, hoh, hbh⟩
  have HBH := Lib.hid (HBG.out.trans (hbh.mono HBG.out.size))
  have HOH := Lib.hid (own_mono hoh (Nat.zero_le _))
  refine hK _ _ ⟨⟨_, HBH.out⟩, rfl⟩ ?_
  clear hK hbh hoh HFA
  apply anyT_two 25 29
  · rfl
  · rfl
  · kernel_rfl
  · kernel_rfl
  · kernel_rfl
  · intro K' hK
    have v1 := conv_bytes (Own.bs HOH.out)
    go_simp
    clear v1
    refine hK _ _ ⟨⟨_, HBH.out⟩, rfl⟩ ?_
    clear hK
    apply anyT_one 29
    · rfl
    · kernel_rfl
    · kernel_rfl
    intro K' hK
    go_simp
    refine (HFR.out wH HBH.out).mono ?_
    rintro e wI ⟨aI, nI, cI, rfl, hoi, hbi⟩
    have HBI := Lib.hid (HBH.out.trans (hbi.mono HBH.out.size))
    have HOI := Lib.hid (own_mono hoi (Nat.zero_le _))
    have HOJ := Lib.hid (own_below HOH.out hbi)
    refine hK _ _ ⟨⟨_, HBI.out⟩, rfl⟩ ?_
    clear hK hbi hoi
    apply anyT_one 30
    · rfl
    · kernel_rfl
    · kernel_rfl
    intro K' hK
    have v1 := conv_bytes (Own.bs HOI.out)
    go_simp
    clear v1
    refine hK _ _ ⟨⟨_, HBI.out⟩, rfl⟩ ?_
    clear hK
    refine anyT_pull [31] 32 0 (by intro c a d v w h; cases d <;> exact h) (by kernel_rfl) ⟨⟨_, HBI.out⟩, rfl⟩ ?_
    simp only [opsAt, List.filterMap_cons, List.filterMap_nil, List.getElem?_cons_zero, List.getElem?_cons_succ]
    apply held_step
    · kernel_rfl
    · rintro _ ⟨V, rfl⟩
      go_simp
      rfl
    refine held_nil ?_
    refine anyT_done (by kernel_rfl) ?_
    simp only [opsAt, List.filterMap_cons, List.filterMap_nil, List.getElem?_cons_zero, List.getElem?_cons_succ]
    have HBX := Lib.hid (HB7.out.trans (HBI.out.mono HB7.out.size))
    have HQ8 := Lib.hid (HQ7.out.below HBI.out)
    have HI8 := Lib.hid (HI7.out.below HBI.out)
    have hp := HQ8.out
    have c0 := hp.c0
    have c1 := hp.c1
    have c2 := hp.c2
    have c3 := hp.c3
    have c4 := hp.c4
    have c5 := hp.c5
    have c6 := hp.c6
    have c7 := hp.c7
    have c8 := hp.c8
    clear hp e1 e2 e3 p2
    go_wp2_with fail
    refine (HS.out wI a6 k6 HBX.out HI8.out).mono ?_
    rintro e w8 ⟨a8, k8, rfl, ha8, hb8⟩
    have HB8 := Lib.hid (HBX.out.trans (hb8.mono HBX.out.size))
    have HA8 := Lib.hid ha8
    have HQ9 := Lib.hid (HQ8.out.below hb8)
    have HI9 := Lib.hid (HI8.out.below hb8)
    clear ha8 hb8 c0 c1 c2 c3 c4 c5 c6 c7 c8
    have hp := HQ9.out
    have c0 := hp.c0
    have c1 := hp.c1
    have c2 := hp.c2
    have c3 := hp.c3
    have c4 := hp.c4
    have c5 := hp.c5
    have c6 := hp.c6
    have c7 := hp.c7
    have c8 := hp.c8
    clear hp
    go_wp2_with fail
    refine (HT.out w8 a6 k6 HB8.out HI9.out).mono ?_
    rintro e w9 ⟨a9, k9, rfl, ha9, hb9⟩
    have HB9 := Lib.hid (HB8.out.trans (hb9.mono HB8.out.size))
    have HA9 := Lib.hid ha9
    have HA8' := Lib.hid (HA8.out.below hb9)
    clear ha9 hb9 c0 c1 c2 c3 c4 c5 c6 c7 c8
    have e9 : (er2 == er2) = true := by simp
    go_wp2_with fail
    refine (shards_same _ _ _ _ a8 a9 nl k8 k9 L w9 HA8'.out HA9.out hnl).mono ?_
    rintro e w10 ⟨rfl, hb10⟩
    have HB10 := Lib.hid (HB9.out.trans (hb10.mono HB9.out.size))
    clear hb10
    go_wp2
    go_ret
    exact ⟨rfl, HB10.out⟩
  · intro K' hK
    go_simp
    refine (HFR.out wH HBH.out).mono ?_
    rintro e wI ⟨aI, nI, cI, rfl, hoi, hbi⟩
    have HBI := Lib.hid (HBH.out.trans (hbi.mono HBH.out.size))
    have HOI := Lib.hid (own_mono hoi (Nat.zero_le _))
    have HOJ := Lib.hid (own_below HOH.out hbi)
    refine hK _ _ ⟨⟨_, HBI.out⟩, rfl⟩ ?_
    clear hK hbi hoi
    apply anyT_two 25 30
    · rfl
    · rfl
    · kernel_rfl
    · kernel_rfl
    · kernel_rfl
    · intro K' hK
      have v1 := conv_bytes (Own.bs HOJ.out)
      go_simp
      clear v1
      refine hK _ _ ⟨⟨_, HBI.out⟩, rfl⟩ ?_
      clear hK
      apply anyT_one 30
      · rfl
      · kernel_rfl
      · kernel_rfl
      intro K' hK
      have v1 := conv_bytes (Own.bs HOI.out)
      go_simp
      clear v1
      refine hK _ _ ⟨⟨_, HBI.out⟩, rfl⟩ ?_
      clear hK
      refine anyT_pull [31] 32 0 (by intro c a d v w h; cases d <;> exact h) (by kernel_rfl) ⟨⟨_, HBI.out⟩, rfl⟩ ?_
      simp only [opsAt, List.filterMap_cons, List.filterMap_nil, List.getElem?_cons_zero, List.getElem?_cons_succ]
      apply held_step
      · kernel_rfl
      · rintro _ ⟨V, rfl⟩
        go_simp
        rfl
      refine held_nil ?_
      refine anyT_done (by kernel_rfl) ?_
      simp only [opsAt, List.filterMap_cons, List.filterMap_nil, List.getElem?_cons_zero, List.getElem?_cons_succ]
      have HBX := Lib.hid (HB7.out.trans (HBI.out.mono HB7.out.size))
      have HQ8 := Lib.hid (HQ7.out.below HBI.out)
      have HI8 := Lib.hid (HI7.out.below HBI.out)
      have hp := HQ8.out
      have c0 := hp.c0
      have c1 := hp.c1
      have c2 := hp.c2
      have c3 := hp.c3
      have c4 := hp.c4
      have c5 := hp.c5
      have c6 := hp.c6
      have c7 := hp.c7
      have c8 := hp.c8
      clear hp e1 e2 e3 p2
      go_wp2_with fail
      refine (HS.out wI a6 k6 HBX.out HI8.out).mono ?_
      rintro e w8 ⟨a8, k8, rfl, ha8, hb8⟩
      have HB8 := Lib.hid (HBX.out.trans (hb8.mono HBX.out.size))
      have HA8 := Lib.hid ha8
      have HQ9 := Lib.hid (HQ8.out.below hb8)
      have HI9 := Lib.hid (HI8.out.below hb8)
      clear ha8 hb8 c0 c1 c2 c3 c4 c5 c6 c7 c8
      have hp := HQ9.out
      have c0 := hp.c0
      have c1 := hp.c1
      have c2 := hp.c2
      have c3 := hp.c3
      have c4 := hp.c4
      have c5 := hp.c5
      have c6 := hp.c6
      have c7 := hp.c7
      have c8 := hp.c8
      clear hp
      go_wp2_with fail
      refine (HT.out w8 a6 k6 HB8.out HI9.out).mono ?_
      rintro e w9 ⟨a9, k9, rfl, ha9, hb9⟩
      have HB9 := Lib.hid (HB8.out.trans (hb9.mono HB8.out.size))
      have HA9 := Lib.hid ha9
      have HA8' := Lib.hid (HA8.out.below hb9)
      clear ha9 hb9 c0 c1 c2 c3 c4 c5 c6 c7 c8
      have e9 : (er2 == er2) = true := by simp
      go_wp2_with fail
      refine (shards_same _ _ _ _ a8 a9 nl k8 k9 L w9 HA8'.out HA9.out hnl).mono ?_
      rintro e w10 ⟨rfl, hb10⟩
      have HB10 := Lib.hid (HB9.out.trans (hb10.mono HB9.out.size))
      clear hb10
      go_wp2
      go_ret
      exact ⟨rfl, HB10.out⟩
    · intro K' hK
      have v1 := conv_bytes (Own.bs HOI.out)
      go_simp
      clear v1
      refine hK _ _ ⟨⟨_, HBI.out⟩, rfl⟩ ?_
      clear hK
      apply anyT_one 25
      · rfl
      · kernel_rfl
      · kernel_rfl
      intro K' hK
      have v1 := conv_bytes (Own.bs HOJ.out)
      go_simp
      clear v1
      refine hK _ _ ⟨⟨_, HBI.out⟩, rfl⟩ ?_
      clear hK
      refine anyT_pull [31] 32 0 (by intro c a d v w h; cases d <;> exact h) (by kernel_rfl) ⟨⟨_, HBI.out⟩, rfl⟩ ?_
      simp only [opsAt, List.filterMap_cons, List.filterMap_nil, List.getElem?_cons_zero, List.getElem?_cons_succ]
      apply held_step
      · kernel_rfl
      · rintro _ ⟨V, rfl⟩
        go_simp
        rfl
      refine held_nil ?_
      refine anyT_done (by kernel_rfl) ?_
      simp only [opsAt, List.filterMap_cons, List.filterMap_nil, List.getElem?_cons_zero, List.getElem?_cons_succ]
      have HBX := Lib.hid (HB7.out.trans (HBI.out.mono HB7.out.size))
      have HQ8 := Lib.hid (HQ7.out.below HBI.out)
      have HI8 := Lib.hid (HI7.out.below HBI.out)
      have hp := HQ8.out
      have c0 := hp.c0
      have c1 := hp.c1
      have c2 := hp.c2
      have c3 := hp.c3
      have c4 := hp.c4
      have c5 := hp.c5
      have c6 := hp.c6
      have c7 := hp.c7
      have c8 := hp.c8
      clear hp e1 e2 e3 p2
      go_wp2_with fail
      refine (HS.out wI a6 k6 HBX.out HI8.out).mono ?_
      rintro e w8 ⟨a8, k8, rfl, ha8, hb8⟩
      have HB8 := Lib.hid (HBX.out.trans (hb8.mono HBX.out.size))
      have HA8 := Lib.hid ha8
      have HQ9 := Lib.hid (HQ8.out.below hb8)
      have HI9 := Lib.hid (HI8.out.below hb8)
      clear ha8 hb8 c0 c1 c2 c3 c4 c5 c6 c7 c8
      have hp := HQ9.out
      have c0 := hp.c0
      have c1 := hp.c1
      have c2 := hp.c2
      have c3 := hp.c3
      have c4 := hp.c4
      have c5 := hp.c5
      have c6 := hp.c6
      have c7 := hp.c7
      have c8 := hp.c8
      clear hp
      go_wp2_with fail
      refine (HT.out w8 a6 k6 HB8.out HI9.out).mono ?_
      rintro e w9 ⟨a9, k9, rfl, ha9, hb9⟩
      have HB9 := Lib.hid (HB8.out.trans (hb9.mono HB8.out.size))
      have HA9 := Lib.hid ha9
      have HA8' := Lib.hid (HA8.out.below hb9)
      clear ha9 hb9 c0 c1 c2 c3 c4 c5 c6 c7 c8
      have e9 : (er2 == er2) = true := by simp
      go_wp2_with fail
      refine (shards_same _ _ _ _ a8 a9 nl k8 k9 L w9 HA8'.out HA9.out hnl).mono ?_
      rintro e w10 ⟨rfl, hb10⟩
      have HB10 := Lib.hid (HB9.out.trans (hb10.mono HB9.out.size))
      clear hb10
      go_wp2
      go_ret
      exact ⟨rfl, HB10.out⟩
end Go.Proofs.YtfgifndpglgjkaaGreatDoor
