/- Cold stripes: Shards of no stripe; the reference's Shards. -/
import Derived.Test.YtfgifndpglgjkaaGreatDoorZCdW
import Derived.Test.YtfgifndpglgjkaaGreatDoorZQRsZ
set_option linter.unusedVariables false
set_option linter.unusedSimpArgs false
set_option maxRecDepth 100000
set_option linter.unusedVariables false
set_option linter.unusedSimpArgs false
namespace Go.Proofs.YtfgifndpglgjkaaGreatDoor
open Go.RowKit

set_option maxHeartbeats 4000000 in
theorem cshards_no (q : Cd.Full) (an : Option Addr) (nn cn : Nat) (ad : Option Addr) (nd cd : Nat) (w : World) (hk : I64 q.p.K) (hm : I64 q.p.M) (h : ¬ Rs.fit q.p.K q.p.M) :
    Calls Tryz.prog 15 #[Cd.pv q an nn cn, .slice ad nd cd] w fun e w' => e = .returned (.tuple #[.slice none 0 0, .int .i64 1]) ∧ Below w.heap.size w w' := by
  have hb0 := below_alloc1 w (.cells (Cd.pcells q an nn cn) 31)
  have hp0 := Cd.PAt.new w q an nn cn
  obtain ⟨hk1, hk2⟩ := hk
  obtain ⟨hm1, hm2⟩ := hm
  unfold Cd.pv
  go_enter Tryz.func15, Tryz.ntmps15
  go_upto_region 1 with fail
  unfold Cd.pcells at hb0 hp0
  generalize w.alloc (.cells #[.string (bstr q.bucket), .string (bstr q.key), .int .u64 q.version, .int .u64 q.p.stripe, .int .i64 q.p.K, .int .i64 q.p.M, .int .i64 q.p.size, .int .u32 (n32 q.p.sum), .slice an nn cn] 31) = w1 at *
  have HB1 := Lib.hid hb0
  have HP1 := Lib.hid hp0
  clear hb0 hp0
  have d4 := HP1.out.c4
  have d5 := HP1.out.c5
  go_wp2_with fail
  refine (new_err q.p.K q.p.M w1 h ⟨hk1, hk2⟩ ⟨hm1, hm2⟩).mono ?_
  rintro e w2 ⟨rfl, rfl⟩
  clear d4 d5
  go_upto_region 2 with fail
  refine wp_region_class (w0 := w1) (by kernel_rfl) (by kernel_rfl) (Below.refl _ _) ?_
  repeat (first | go_big_quiet_step (fail))
  refine wpQuiet_nil ?_
  intro w3 hb3; replace hb3 := BW.of hb3
  have HB3 := Lib.hid (HB1.out.trans (hb3.mono HB1.out.size))
  clear hb3
  go_wp2
  go_ret2
  exact ⟨rfl, HB3.out⟩
theorem rcode_yes (q : Cd.Full) (an : Option Addr) (nn cn K M N : Nat) (w : World) (hf : Cd.Fit q K M N) :
    Calls Tryz.prog 44 #[Cd.pv q an nn cn] w fun e w' => (∃ b, e = .returned (.tuple #[.pointer (some ⟨b, 0, none⟩), .bool true]) ∧ RCod w' b K M) ∧ Below w.heap.size w w' := by
  have hb0 := below_alloc1 w (.cells (Cd.pcells q an nn cn) 31)
  have hp0 := Cd.PAt.new w q an nn cn
  have HF := Lib.hid hf
  have hk1 := hf.k1
  have hkm := hf.km
  clear hf
  unfold Cd.pv
  go_enter Tryz.func44, Tryz.ntmps44
  go_upto_region 1 with fail
  unfold Cd.pcells at hb0 hp0
  generalize w.alloc (.cells #[.string (bstr q.bucket), .string (bstr q.key), .int .u64 q.version, .int .u64 q.p.stripe, .int .i64 q.p.K, .int .i64 q.p.M, .int .i64 q.p.size, .int .u32 (n32 q.p.sum), .slice an nn cn] 31) = w1 at *
  have HB1 := Lib.hid hb0
  have HP1 := Lib.hid hp0
  clear hb0 hp0
  obtain ⟨d4, d5, d6⟩ := fit_cells HF.out HP1.out
  go_wp2_with fail
  refine (refnew_any K M w1 hk1 hkm).mono ?_
  rintro e w2 ⟨⟨b, rfl, hc⟩, hb2⟩
  have HC := Lib.hid hc
  have HB2 := Lib.hid (HB1.out.trans (hb2.mono HB1.out.size))
  clear hc hb2 d4 d5 d6
  go_wp2
  go_ret2
  exact ⟨⟨b, rfl, HC.out⟩, HB2.out⟩
theorem rcode_no (q : Cd.Full) (an : Option Addr) (nn cn : Nat) (w : World) (hk : I64 q.p.K) (hm : I64 q.p.M) (h : ¬ Rs.fit q.p.K q.p.M) :
    Calls Tryz.prog 44 #[Cd.pv q an nn cn] w fun e w' => e = .returned (.tuple #[.pointer none, .bool false]) ∧ Below w.heap.size w w' := by
  have hb0 := below_alloc1 w (.cells (Cd.pcells q an nn cn) 31)
  have hp0 := Cd.PAt.new w q an nn cn
  obtain ⟨hk1, hk2⟩ := hk
  obtain ⟨hm1, hm2⟩ := hm
  unfold Cd.pv
  go_enter Tryz.func44, Tryz.ntmps44
  go_upto_region 1 with fail
  unfold Cd.pcells at hb0 hp0
  generalize w.alloc (.cells #[.string (bstr q.bucket), .string (bstr q.key), .int .u64 q.version, .int .u64 q.p.stripe, .int .i64 q.p.K, .int .i64 q.p.M, .int .i64 q.p.size, .int .u32 (n32 q.p.sum), .slice an nn cn] 31) = w1 at *
  have HB1 := Lib.hid hb0
  have HP1 := Lib.hid hp0
  clear hb0 hp0
  have d4 := HP1.out.c4
  have d5 := HP1.out.c5
  go_wp2_with fail
  refine (refnew_err q.p.K q.p.M w1 h ⟨hk1, hk2⟩ ⟨hm1, hm2⟩).mono ?_
  rintro e w2 ⟨rfl, rfl⟩
  go_wp2
  go_ret2
  exact ⟨rfl, HB1.out⟩
set_option maxHeartbeats 4000000 in
theorem rshards_no (q : Cd.Full) (an : Option Addr) (nn cn : Nat) (ad : Option Addr) (nd cd : Nat) (d : List UInt8) (w : World) (hd : Bs w ad nd cd d) (hk : I64 q.p.K) (hm : I64 q.p.M) (h : ¬ Rs.fit q.p.K q.p.M) :
    Calls Tryz.prog 16 #[Cd.pv q an nn cn, .slice ad nd cd] w fun e w' => e = .returned (.tuple #[.slice none 0 0, .int .i64 1]) ∧ Below w.heap.size w w' := by
  have hb0 := below_alloc1 w (.cells (Cd.pcells q an nn cn) 31)
  have hp0 := Cd.PAt.new w q an nn cn
  have hle := hd.le.1
  have HDD : Hid (∀ W, Below w.heap.size w W → Bs W ad nd cd d) := Lib.hid fun W k => hd.below k
  have HNO := Lib.hid fun W => rcode_no q an nn cn W hk hm h
  clear hd h hk hm
  unfold Cd.pv
  go_enter Tryz.func16, Tryz.ntmps16
  go_upto_region 1 with fail
  unfold Cd.pcells at hb0 hp0
  generalize w.alloc (.cells #[.string (bstr q.bucket), .string (bstr q.key), .int .u64 q.version, .int .u64 q.p.stripe, .int .i64 q.p.K, .int .i64 q.p.M, .int .i64 q.p.size, .int .u32 (n32 q.p.sum), .slice an nn cn] 31) = w1 at *
  have HB1 := Lib.hid hb0
  have HP1 := Lib.hid hp0
  clear hb0 hp0
  have hp := HP1.out
  have c0 := hp.c0
  have c1 := hp.c1
  have c2 := hp.c2
  have c3 := hp.c3
  have c4 := hp.c4
  have c5 := hp.c5
  have c6 := hp.c6
  have c7 := hp.c7
  have c8 := hp.c8
  clear hp
  unfold Cd.pv at HNO
  go_wp2_with fail
  refine (HNO.out w1).mono ?_
  rintro e w2 ⟨rfl, hb2⟩
  have HB2 := Lib.hid (HB1.out.trans (hb2.mono HB1.out.size))
  have HP2 := Lib.hid (HP1.out.below hb2)
  clear hb2 c0 c1 c2 c3 c4 c5 c6 c7 c8
  have c6 := HP2.out.c6
  have c7 := HP2.out.c7
  generalize q.p.sum = ps at *
  obtain ⟨s2, hs2⟩ : ∃ s2, s2 = Codec.sum d := ⟨_, rfl⟩
  have HSUM : Hid (∀ W : BW w2, Calls Tryz.prog 28 #[.slice ad nd cd] W.w fun e w' => e = .returned (.int .u32 (n32 s2)) ∧ W.w = w') := Lib.hid fun W => by rw [hs2]; exact refsum_any ad nd cd d W.w (HDD.out W.w (HB2.out.trans (W.b.mono HB2.out.size)))
  clear hs2
  go_upto_region 2 with fail
  by_cases hz : (nd : Int) = q.p.size
  case neg =>
    have t1 : ((nd : Int) != q.p.size) = true := by rw [bne_iff_ne]; exact hz
    clear hz
    refine wp_region_class (w0 := w2) (by kernel_rfl) (by kernel_rfl) (Below.refl _ _) ?_
    have p6 := BW.cell c6
    have p7 := BW.cell c7
    repeat (first | go_big_quiet_step ((go_at_call 28; exact calls_class_s (HSUM.out _))))
    refine wpQuiet_nil ?_
    intro w3 hb3; replace hb3 := BW.of hb3
    have HB3 := Lib.hid (HB2.out.trans (hb3.mono HB2.out.size))
    clear hb3 p6 p7
    go_wp2
    go_ret2
    exact ⟨rfl, HB3.out⟩
  have t1 : ((nd : Int) != q.p.size) = false := by rw [bne_eq_false_iff_eq]; exact hz
  clear hz
  by_cases hs : n32 s2 = n32 ps
  case neg =>
    have t2 : (n32 s2 != n32 ps) = true := by rw [bne_iff_ne]; exact hs
    clear hs
    refine wp_region_class (w0 := w2) (by kernel_rfl) (by kernel_rfl) (Below.refl _ _) ?_
    have p6 := BW.cell c6
    have p7 := BW.cell c7
    repeat (first | go_big_quiet_step ((go_at_call 28; exact calls_class_s (HSUM.out _))))
    refine wpQuiet_nil ?_
    intro w3 hb3; replace hb3 := BW.of hb3
    have HB3 := Lib.hid (HB2.out.trans (hb3.mono HB2.out.size))
    clear hb3 p6 p7
    go_wp2
    go_ret2
    exact ⟨rfl, HB3.out⟩
  have t2 : (n32 s2 != n32 ps) = false := by rw [bne_eq_false_iff_eq]; exact hs
  clear hs
  refine wp_region_class (w0 := w2) (by kernel_rfl) (by kernel_rfl) (Below.refl _ _) ?_
  have p6 := BW.cell c6
  have p7 := BW.cell c7
  repeat (first | go_big_quiet_step ((go_at_call 28; exact calls_class_s (HSUM.out _))))
  refine wpQuiet_nil ?_
  intro w3 hb3; replace hb3 := BW.of hb3
  have HB3 := Lib.hid (HB2.out.trans (hb3.mono HB2.out.size))
  clear hb3 p6 p7
  go_wp2
  go_ret2
  exact ⟨rfl, HB3.out⟩
theorem infoRS : (Tryz.prog.info? 84).map (fun i => (i.zero, i.size, i.bytes)) = some (some (.agg #[.int .i64 0, .int .i64 0, .string ByteArray.empty, .slice none 0 0]), 4, 56) := by kernel_rfl
set_option maxHeartbeats 4000000 in
theorem rshards_yes (q : Cd.Full) (an : Option Addr) (nn cn K M : Nat) (ad : Option Addr) (nd cd : Nat) (d : List UInt8) (w : World) (hf : Cd.Fit q K M nd) (hn : Is w an nn cn q.nodes) (hd : Bs w ad nd cd d) (hnn : nn = K + M) (hsum : q.p.sum = Codec.sum d) :
    Calls Tryz.prog 16 #[Cd.pv q an nn cn, .slice ad nd cd] w fun e w' => ∃ a c, e = .returned (.tuple #[.slice a nn c, .int .i64 0]) ∧ AccB belS 84 w' w.heap.size a nn c (Cd.shs q (Rs.all K M d)) ∧ Below w.heap.size w w' := by
  have hb0 := below_alloc1 w (.cells (Cd.pcells q an nn cn) 31)
  have hp0 := Cd.PAt.new w q an nn cn
  have hle := hd.le.1
  have hle2 := hn.le
  have hk1 := hf.k1
  have hkm := hf.km
  have hnb := hf.nb
  have HF := Lib.hid hf
  have HDD : Hid (∀ W, Below w.heap.size w W → Bs W ad nd cd d) := Lib.hid fun W k => hd.below k
  have HDL := Lib.hid hd.1
  have HNO : Hid (∀ W, Below w.heap.size w W → Is W an nn cn q.nodes) := Lib.hid fun W k => hn.below k
  have HNN := Lib.hid hnn
  have hnl : nn ≤ 255 := by omega
  have HWD : Hid (∀ i, i < nn → (nth (Rs.all K M d) i).length ≤ 100000000) := Lib.hid fun i hi => by
    rw [rall_row d (by omega), hd.1]
    have := rwd_le K nd
    omega
  have HSC := Lib.hid hsum
  have HCY := Lib.hid fun W => rcode_yes q an nn cn K M nd W hf
  obtain ⟨ls, hls⟩ : ∃ ls, ls = Rs.all K M d := ⟨_, rfl⟩
  have HSH : Hid (Cd.shs q (Rs.all K M d) = (List.range nn).map (Cd.sh q ls)) := Lib.hid (by rw [hls]; unfold Cd.shs; rw [rall_len, hnn])
  have HLS := Lib.hid hls
  rw [← hls] at HWD
  have t1 : ((nd : Int) != (nd : Int)) = false := by simp
  have t2 : ((nn : Int) != (K : Int) + (M : Int)) = false := by rw [bne_eq_false_iff_eq]; omega
  clear hf hn hd hnn hsum hls
  unfold Cd.pv at HCY
  unfold Cd.pv
  go_enter Tryz.func16, Tryz.ntmps16
  go_upto_region 1 with fail
  unfold Cd.pcells at hb0 hp0
  generalize w.alloc (.cells #[.string (bstr q.bucket), .string (bstr q.key), .int .u64 q.version, .int .u64 q.p.stripe, .int .i64 q.p.K, .int .i64 q.p.M, .int .i64 q.p.size, .int .u32 (n32 q.p.sum), .slice an nn cn] 31) = w1 at *
  have HB1 := Lib.hid hb0
  have HP1 := Lib.hid hp0
  clear hb0 hp0
  have hp := HP1.out
  have c0 := hp.c0
  have c1 := hp.c1
  have c2 := hp.c2
  have c3 := hp.c3
  have c4 := hp.c4
  have c5 := hp.c5
  have c6 := hp.c6
  have c7 := hp.c7
  have c8 := hp.c8
  clear hp
  go_wp2_with fail
  refine (HCY.out w1).mono ?_
  rintro e w2 ⟨⟨bc, rfl, hco⟩, hb2⟩
  have HB2 := Lib.hid (HB1.out.trans (hb2.mono HB1.out.size))
  have HP2 := Lib.hid (HP1.out.below hb2)
  have HCO := Lib.hid hco
  clear hb2 hco c0 c1 c2 c3 c4 c5 c6 c7 c8 HCY
  obtain ⟨s2, hs2⟩ : ∃ s2, s2 = Codec.sum d := ⟨_, rfl⟩
  have HSUM : Hid (∀ W : BW w2, Calls Tryz.prog 28 #[.slice ad nd cd] W.w fun e w' => e = .returned (.int .u32 (n32 s2)) ∧ W.w = w') := Lib.hid fun W => by rw [hs2]; exact refsum_any ad nd cd d W.w (HDD.out W.w (HB2.out.trans (W.b.mono HB2.out.size)))
  obtain ⟨d4, d5, d6⟩ := fit_cells HF.out HP2.out
  have d7 : w2.cell? ⟨w.heap.size, 7, none⟩ = some (.int .u32 (n32 s2)) := by rw [hs2, ← HSC.out]; exact HP2.out.c7
  have d8 := HP2.out.c8
  have t3 : (n32 s2 != n32 s2) = false := by simp
  clear hs2
  go_upto_region 2 with fail
  refine wp_region_class (w0 := w2) (by kernel_rfl) (by kernel_rfl) (Below.refl _ _) ?_
  have p4 := BW.cell d4
  have p5 := BW.cell d5
  have p6 := BW.cell d6
  have p7 := BW.cell d7
  have p8 := BW.cell d8
  repeat (first | go_big_quiet_step ((go_at_call 28; exact calls_class_s (HSUM.out _))))
  refine wpQuiet_nil ?_
  intro w3 hb3; replace hb3 := BW.of hb3
  have HB3 := Lib.hid (HB2.out.trans (hb3.mono HB2.out.size))
  have HP3 := Lib.hid (HP2.out.below hb3)
  have HCO3 := Lib.hid (HCO.out.below hb3)
  clear hb3 p4 p5 p6 p7 p8 d4 d5 d6 d7 d8
  go_wp2_with fail
  refine (refencode_any bc K M ad nd cd d w3 HCO3.out (HDD.out w3 HB3.out) hk1 hkm (by omega)).mono ?_
  intro e w7 hr7
  obtain ⟨⟨a7, c7, rfl, hs7⟩, hb7⟩ := hr7.bss (by omega)
  have HB7 := Lib.hid (HB3.out.trans (hb7.mono HB3.out.size))
  have HP7 := Lib.hid (HP3.out.below hb7)
  have HS7 : Hid (Bss w7 a7 nn c7 ls) := Lib.hid (by rw [HLS.out, HNN.out]; unfold Rs.all; rw [HDL.out]; exact hs7)
  have HN7 := Lib.hid (HNO.out w7 HB7.out)
  rw [← HNN.out]
  clear hr7 hs7 hb7 t1 t2 t3
  go_wp2_with fail
  go_loopw [9, 10] (fun av iv wr => ∃ (k : Nat) (a : Option Addr) (c : Nat), k ≤ nn ∧ iv = .int .i64 k ∧ av = .slice a k c ∧ Hid (AccB belS 84 wr w7.heap.size a k c ((List.range k).map (Cd.sh q ls))) ∧ Hid (Below w7.heap.size w7 wr)) (fun _ iv _ => nn - (intOf iv).toNat)
  case atStart => exact ⟨0, none, 0, by omega, rfl, rfl, Lib.hid (AccB.nil _ _ _ _), Lib.hid (Below.refl _ _)⟩
  case round =>
    obtain ⟨k, a, c, hk, rfl, rfl, HA, HB⟩ := hrel
    by_cases hlt : k < nn
    · have t1 : decide ((k : Int) < (nn : Int)) = true := decide_eq_true (by omega)
      have t2 : decide (k < nn) = true := decide_eq_true hlt
      obtain ⟨b1, o1, ai, ni, ci, rfl, hc1, hbs1⟩ := HS7.out.get hlt
      have HC1 : Hid (∀ V : BW w7, V.w.cell? ⟨b1, o1 + k, none⟩ = some (.slice ai ni ci)) := Lib.hid fun V => cell_later V.b hc1
      have HBS1 := Lib.hid hbs1
      have hni : ni ≤ 100000000 := by have := hbs1.1; have := HWD.out k hlt; omega
      obtain ⟨bn, on, rfl, hcn⟩ := HN7.out.get hlt
      have HCN : Hid (∀ V : BW w7, V.w.cell? ⟨bn, on + k, none⟩ = some (.int .i64 (nth q.nodes k))) := Lib.hid fun V => cell_later V.b hcn
      have HRA : Hid ((List.range (k + 1)).map (Cd.sh q ls) = (List.range k).map (Cd.sh q ls) ++ [⟨nth q.nodes k, k, Cd.name q.p.stripe k, Cd.file q.p k (nth ls k)⟩]) := Lib.hid (by rw [List.range_succ, List.map_append]; rfl)
      have hki : Cd.I64 (k : Int) := ⟨by omega, by omega⟩
      have HNM := Lib.hid fun W => rname_any q.p.stripe (k : Int) HF.out.ok.s hki W
      have HFI := Lib.hid fun W (hW : Below w7.heap.size w7 W) => rfile_any q (some ⟨bn, on, none⟩) nn cn (k : Int) ai ni ci (nth ls k) W (HBS1.out.below hW) HF.out.ok hki hni
      unfold Cd.pv at HFI
      clear hbs1 hki
      generalize Cd.name q.p.stripe k = nm at *
      generalize Cd.file q.p k (nth ls k) = fl at *
      generalize nth q.nodes k = z at *
      go_upto_region 9 with fail
      clear hc1 hcn
      refine wp_region_steps [21] 21 21 (by kernel_rfl) (by kernel_rfl) rfl (fun W' => ∃ V : BW w7, W' = V.w) ?_
      have HBD := Lib.hid (HB.out.drew)
      have HAD := Lib.hid (HA.out.below ((Below.refl wr.heap.size wr).drew))
      generalize wr.drew = wD at *
      refine anyT_pull [0, 1, 2, 3, 4, 5, 6, 7, 8, 9, 11, 12, 13, 14, 15, 16] 21 5 (by intro c a d v w h; cases d <;> exact h) (by kernel_rfl) ⟨⟨_, HBD.out⟩, rfl⟩ ?_
      simp only [opsAt, List.filterMap_cons, List.filterMap_nil, List.getElem?_cons_zero, List.getElem?_cons_succ]
      iterate 16
        apply held_step
        · kernel_rfl
        · rintro _ ⟨V, rfl⟩
          have hp := HP7.out.below V.b
          have c0 := hp.c0
          have c1 := hp.c1
          have c2 := hp.c2
          have c3 := hp.c3
          have c4 := hp.c4
          have c5 := hp.c5
          have c6 := hp.c6
          have c7 := hp.c7
          have c8 := hp.c8
          have cn := HCN.out V
          have cl := HC1.out V
          go_simp
          rfl
      refine held_nil ?_
      apply anyT_one 10
      · rfl
      · kernel_rfl
      · kernel_rfl
      intro K' hK
      go_simp
      refine (HNM.out wD).mono ?_
      rintro e wE ⟨rfl, hbe⟩
      have HBE := Lib.hid (HBD.out.trans (hbe.mono HBD.out.size))
      have HAE := Lib.hid (HAD.out.below hbe)
      refine hK _ _ ⟨⟨_, HBE.out⟩, rfl⟩ ?_
      clear hK hbe
      apply anyT_one 17
      · rfl
      · kernel_rfl
      · kernel_rfl
      intro K' hK
      go_simp
      refine (HFI.out wE HBE.out).mono ?_
      rintro e wF ⟨a6, n6, c6, rfl, ho6, hbf⟩
      have HBF := Lib.hid (HBE.out.trans (hbf.mono HBE.out.size))
      have HAF := Lib.hid (HAE.out.below hbf)
      obtain rfl : n6 = fl.length := by have := ho6.bs.1; omega
      have HO6 := Lib.hid (own_mono ho6 (Nat.zero_le _))
      refine hK _ _ ⟨⟨_, HBF.out⟩, rfl⟩ ?_
      clear hK hbf ho6
      refine anyT_pull [18] 21 2 (by intro c a d v w h; cases d <;> exact h) (by kernel_rfl) ⟨⟨_, HBF.out⟩, rfl⟩ ?_
      simp only [opsAt, List.filterMap_cons, List.filterMap_nil, List.getElem?_cons_zero, List.getElem?_cons_succ]
      iterate 1
        apply held_step
        · kernel_rfl
        · rintro _ ⟨V, rfl⟩
          go_simp
          rfl
      refine held_nil ?_
      apply anyT_one 19
      · rfl
      · kernel_rfl
      · kernel_rfl
      intro K' hK
      go_simp
      have hbg := below_alloc1 wF (.cells #[.int .i64 z, .int .i64 k, .string (bstr nm), .slice a6 fl.length c6] 84)
      have HBG := Lib.hid (HBF.out.trans (hbg.mono HBF.out.size))
      have HAG := Lib.hid (HAF.out.below hbg)
      have HOG := Lib.hid (own_below HO6.out hbg)
      have HCG := Lib.hid (shard_cells (heap_alloc_new wF (.cells #[.int .i64 z, .int .i64 k, .string (bstr nm), .slice a6 fl.length c6] 84)))
      refine hK _ _ ⟨⟨_, HBG.out⟩, rfl⟩ ?_
      clear hK hbg
      generalize hwg : wF.alloc (.cells #[.int .i64 z, .int .i64 k, .string (bstr nm), .slice a6 fl.length c6] 84) = wG at *
      generalize hgb : wF.heap.size = gB at *
      clear hwg hgb
      apply anyT_one 20
      · rfl
      · kernel_rfl
      · kernel_rfl
      intro K' hK
      refine step_app_b belS (by decide) _ _ 43 rfl Tryz.underlying43 infoRS rfl (by decide) w7.heap.size rfl HAG.out rfl HCG.out HOG.out (by omega) HBG.out.size ?_
      intro a9 c9 w9 h9 hb9 _
      have HB9 := Lib.hid (HBG.out.trans hb9)
      rw [← HRA.out] at h9
      have HA9 := Lib.hid h9
      refine hK _ _ ⟨⟨_, HB9.out⟩, rfl⟩ ?_
      clear hK h9 hb9
      refine anyT_done (by kernel_rfl) ?_
      simp only [opsAt, List.filterMap_cons, List.filterMap_nil, List.getElem?_cons_zero, List.getElem?_cons_succ]
      go_wp2
      go_roundw
      case rel => exact ⟨k + 1, a9, c9, by omega, by go_num, rfl, HA9, HB9⟩
      case measure => simp [intOf]; omega
    · obtain rfl : k = nn := by omega
      go_wp2
      go_ret2
      exact ⟨a, c, rfl, by rw [HSH.out]; exact HA.out.mono HB7.out.size, HB7.out.trans (HB.out.mono HB7.out.size)⟩
end Go.Proofs.YtfgifndpglgjkaaGreatDoor
