/- Cold stripes: the files of rs's shards. -/
import Derived.Test.YtfgifndpglgjkaaGreatDoorZCdJ
import Derived.ChangeKeysEq
import Derived.Test.YtfgifndpglgjkaaGreatDoorZQRsL
set_option linter.unusedVariables false
set_option linter.unusedSimpArgs false
section
set_option maxRecDepth 100000
set_option linter.unusedVariables false
set_option linter.unusedSimpArgs false
namespace Go.Proofs.YtfgifndpglgjkaaGreatDoor
open Go.RowKit

structure Cd.Shard where
  node : Int
  index : Nat
  name : List UInt8
  bytes : List UInt8
deriving Inhabited
def belS : Bel Cd.Shard where
  f x a c := [.int .i64 x.node, .int .i64 x.index, .string (bstr x.name), .slice a x.bytes.length c]
  v x := x.bytes
  s := 4
  len _ _ _ := rfl
  one x a c u hu := by
    simp only [List.mem_cons, List.not_mem_nil, or_false] at hu
    rcases hu with rfl | rfl | rfl | rfl <;> rfl
  pos := by decide
def Cd.sh (q : Cd.Full) (ls : List (List UInt8)) (i : Nat) : Cd.Shard := ⟨nth q.nodes i, i, Cd.name q.p.stripe i, Cd.file q.p i (nth ls i)⟩
def Cd.shs (q : Cd.Full) (ls : List (List UInt8)) : List Cd.Shard := (List.range ls.length).map (Cd.sh q ls)
theorem infoS : (Tryz.prog.info? 51).map (fun i => (i.zero, i.size, i.bytes)) = some (some (.agg #[.int .i64 0, .int .i64 0, .string ByteArray.empty, .slice none 0 0]), 4, 56) := by kernel_rfl
theorem shard_cells {w : World} {k : Nat} {T : TypeId} {z : Int} {i : Nat} {nm fl : List UInt8} {a : Option Addr} {c : Nat} (h : w.heap[k]? = some (.cells #[.int .i64 z, .int .i64 i, .string (bstr nm), .slice a fl.length c] T (0, 0))) :
    ∀ j v, (belS.f ⟨z, i, nm, fl⟩ a c)[j]? = some v → w.cell? ⟨k, j, none⟩ = some v := fun j v hj =>
  (cell_of_row _ _ j _ _ _ h).trans (by rw [← hj]; simp [belS])
set_option maxHeartbeats 4000000 in
theorem shards_any (q : Cd.Full) (an : Option Addr) (nn cn : Nat) (al : Option Addr) (nl cl : Nat) (ls : List (List UInt8)) (w : World) (hc : Cst w) (hq : q.Ok) (hn : Is w an nn cn q.nodes) (hl : Bss w al nl cl ls) (hnn : nl ≤ nn) (hb : nl ≤ 1000) (hbig : ∀ i, i < nl → (nth ls i).length ≤ 100000000) :
    Calls Tryz.prog 42 #[Cd.pv q an nn cn, .slice al nl cl] w fun e w' => ∃ a c, e = .returned (.slice a nl c) ∧ AccB belS 51 w' w.heap.size a nl c (Cd.shs q ls) ∧ Below w.heap.size w w' := by
  have hb0 := below_alloc1 w (.cells (Cd.pcells q an nn cn) 31)
  have hp0 := Cd.PAt.new w q an nn cn
  have HC := Lib.hid hc
  have HQ := Lib.hid hq
  have HNO := Lib.hid hn
  have HLS := Lib.hid hl
  have HLL := Lib.hid hl.1
  have HBIG := Lib.hid hbig
  have hle := hl.le
  have hle2 := hn.le
  have HSH : Hid (Cd.shs q ls = (List.range nl).map (Cd.sh q ls)) := Lib.hid (by unfold Cd.shs; rw [hl.1])
  clear hc hq hn hl hbig
  unfold Cd.pv
  go_enter Tryz.func42, Tryz.ntmps42
  go_upto_region 1 with fail
  unfold Cd.pcells at hb0 hp0
  generalize w.alloc (.cells #[.string (bstr q.bucket), .string (bstr q.key), .int .u64 q.version, .int .u64 q.p.stripe, .int .i64 q.p.K, .int .i64 q.p.M, .int .i64 q.p.size, .int .u32 (n32 q.p.sum), .slice an nn cn] 31) = w1 at *
  have HB1 := Lib.hid hb0
  have HP1 := Lib.hid hp0
  clear hb0 hp0
  go_wp2_with fail
  go_loopw [5, 10] (fun av iv wr => ∃ (k : Nat) (a : Option Addr) (c : Nat), k ≤ nl ∧ iv = .int .i64 k ∧ av = .slice a k c ∧ Hid (AccB belS 51 wr w1.heap.size a k c ((List.range k).map (Cd.sh q ls))) ∧ Hid (Below w1.heap.size w1 wr)) (fun _ iv _ => nl - (intOf iv).toNat)
  case atStart => exact ⟨0, none, 0, by omega, rfl, rfl, Lib.hid (AccB.nil _ _ _ _), Lib.hid (Below.refl _ _)⟩
  case round =>
    obtain ⟨k, a, c, hk, rfl, rfl, HA, HB⟩ := hrel
    by_cases hlt : k < nl
    · have t1 : decide ((k : Int) < (nl : Int)) = true := decide_eq_true (by omega)
      have t2 : decide (k < nl) = true := decide_eq_true hlt
      have hkn : k < nn := by omega
      have HBW : Hid (∀ V : BW w1, Below w.heap.size w V.w) := Lib.hid fun V => HB1.out.trans (V.b.mono HB1.out.size)
      obtain ⟨b1, o1, ai, ni, ci, e1, hc1, hbs1⟩ := (HLS.out.below (HB1.out.trans (HB.out.mono HB1.out.size))).get hlt
      have HC1 : Hid (∀ V : BW w1, V.w.cell? ⟨b1, o1 + k, none⟩ = some (.slice ai ni ci)) := Lib.hid fun V => by
        obtain ⟨b1', o1', ai', ni', ci', e', hc', _⟩ := HLS.out.get hlt
        obtain ⟨b2, o2, ai2, ni2, ci2, e2, hc2, _⟩ := (HLS.out.below (HB1.out.trans (HB.out.mono HB1.out.size))).get hlt
        rw [e1] at e' e2
        cases e'
        have h1 := cell_later (HB1.out.trans (HB.out.mono HB1.out.size)) hc'
        rw [hc1] at h1
        rw [h1]
        exact cell_later (HBW.out V) hc'
      have HBS1 : Hid (∀ W, Below w.heap.size w W → Bs W ai ni ci (nth ls k)) := Lib.hid fun W hW => by
        obtain ⟨b1', o1', ai', ni', ci', e', hc', hbs'⟩ := HLS.out.get hlt
        rw [e1] at e'
        cases e'
        have h1 := cell_later (HB1.out.trans (HB.out.mono HB1.out.size)) hc'
        rw [hc1] at h1
        cases h1
        exact hbs'.below hW
      obtain ⟨bn, on, rfl, hcn⟩ := HNO.out.get hkn
      have HCN : Hid (∀ V : BW w1, V.w.cell? ⟨bn, on + k, none⟩ = some (.int .i64 (nth q.nodes k))) := Lib.hid fun V => cell_later (HBW.out V) hcn
      have hni : ni ≤ 100000000 := by have := hbs1.1; have := HBIG.out k hlt; omega
      have HRA : Hid ((List.range (k + 1)).map (Cd.sh q ls) = (List.range k).map (Cd.sh q ls) ++ [⟨nth q.nodes k, k, Cd.name q.p.stripe k, Cd.file q.p k (nth ls k)⟩]) := Lib.hid (by rw [List.range_succ, List.map_append]; rfl)
      have hki : Cd.I64 (k : Int) := ⟨by omega, by omega⟩
      have HNM := Lib.hid fun W hW => name_any q.p.stripe (k : Int) HQ.out.s hki W (HC.out.below hW)
      have HFI := Lib.hid fun W hW => file_any q (some ⟨bn, on, none⟩) nn cn (k : Int) ai ni ci (nth ls k) W (HBS1.out W hW) HQ.out hki hni
      unfold Cd.pv at HFI
      subst e1
      clear hc1 hbs1 hcn hki HLS HNO HBIG
      generalize Cd.name q.p.stripe k = nm at *
      generalize Cd.file q.p k (nth ls k) = fl at *
      generalize nth q.nodes k = z at *
      have hc1 := HC1.out ⟨wr, HB.out⟩
      dsimp only at hc1
      go_upto_region 5 with fail
      refine wp_region_steps [18] 18 18 (by kernel_rfl) (by kernel_rfl) rfl (fun W' => ∃ V : BW w1, W' = V.w) ?_
      have HBD := Lib.hid (HB.out.drew)
      have HAD := Lib.hid (HA.out.below ((Below.refl wr.heap.size wr).drew))
      clear hc1
      generalize wr.drew = wD at *
      refine anyT_pull [0, 1, 2, 3, 4, 5, 6, 7, 8, 9, 11, 12, 13] 18 5 (by intro c a d v w h; cases d <;> exact h) (by kernel_rfl) ⟨⟨_, HBD.out⟩, rfl⟩ ?_
      simp only [opsAt, List.filterMap_cons, List.filterMap_nil, List.getElem?_cons_zero, List.getElem?_cons_succ]
      iterate 13
        apply held_step
        · kernel_rfl
        · rintro _ ⟨V, rfl⟩
          have hp := HP1.out.below V.b
          have c0 := hp.c0
          have c1 := hp.c1
          have c2 := hp.c2
          have c3 := hp.c3
          have c4 := hp.c4
          have c5 := hp.c5
          have c6 := hp.c6
          have c7 := hp.c7
          have c8 := hp.c8
          have cn := HCN.out V
          go_simp
          rfl
      refine held_nil ?_
      apply anyT_one 10
      · rfl
      · kernel_rfl
      · kernel_rfl
      intro K hK
      go_simp
      refine (HNM.out wD (HB1.out.trans (HBD.out.mono HB1.out.size))).mono ?_
      rintro e wE ⟨rfl, hbe⟩
      have HBE := Lib.hid (HBD.out.trans (hbe.mono HBD.out.size))
      have HAE := Lib.hid (HAD.out.below hbe)
      refine hK _ _ ⟨⟨_, HBE.out⟩, rfl⟩ ?_
      clear hK hbe
      apply anyT_one 14
      · rfl
      · kernel_rfl
      · kernel_rfl
      intro K hK
      go_simp
      refine (HFI.out wE (HB1.out.trans (HBE.out.mono HB1.out.size))).mono ?_
      rintro e wF ⟨a6, n6, c6, rfl, ho6, hbf⟩
      have HBF := Lib.hid (HBE.out.trans (hbf.mono HBE.out.size))
      have HAF := Lib.hid (HAE.out.below hbf)
      obtain rfl : n6 = fl.length := by have := ho6.bs.1; omega
      have HO6 := Lib.hid (own_mono ho6 (Nat.zero_le _))
      refine hK _ _ ⟨⟨_, HBF.out⟩, rfl⟩ ?_
      clear hK hbf ho6
      refine anyT_pull [15] 18 2 (by intro c a d v w h; cases d <;> exact h) (by kernel_rfl) ⟨⟨_, HBF.out⟩, rfl⟩ ?_
      simp only [opsAt, List.filterMap_cons, List.filterMap_nil, List.getElem?_cons_zero, List.getElem?_cons_succ]
      apply held_step
      · kernel_rfl
      · rintro _ ⟨V, rfl⟩
        go_simp
        rfl
      refine held_nil ?_
      apply anyT_one 16
      · rfl
      · kernel_rfl
      · kernel_rfl
      intro K hK
      go_simp
      have hbg := below_alloc1 wF (.cells #[.int .i64 z, .int .i64 k, .string (bstr nm), .slice a6 fl.length c6] 51)
      have HBG := Lib.hid (HBF.out.trans (hbg.mono HBF.out.size))
      have HAG := Lib.hid (HAF.out.below hbg)
      have HOG := Lib.hid (own_below HO6.out hbg)
      have HCG := Lib.hid (shard_cells (heap_alloc_new wF (.cells #[.int .i64 z, .int .i64 k, .string (bstr nm), .slice a6 fl.length c6] 51)))
      refine hK _ _ ⟨⟨_, HBG.out⟩, rfl⟩ ?_
      clear hK hbg
      generalize hwg : wF.alloc (.cells #[.int .i64 z, .int .i64 k, .string (bstr nm), .slice a6 fl.length c6] 51) = wG at *
      generalize hgb : wF.heap.size = gB at *
      clear hwg hgb
      apply anyT_one 17
      · rfl
      · kernel_rfl
      · kernel_rfl
      intro K hK
      refine step_app_b belS (by decide) _ _ 40 rfl Tryz.underlying40 infoS rfl (by decide) w1.heap.size rfl HAG.out rfl HCG.out HOG.out (by omega) HBG.out.size ?_
      intro a9 c9 w9 h9 hb9 _
      have HB9 := Lib.hid (HBG.out.trans hb9)
      rw [← HRA.out] at h9
      have HA9 := Lib.hid h9
      refine hK _ _ ⟨⟨_, HB9.out⟩, rfl⟩ ?_
      clear hK h9 hb9
      refine anyT_done (by kernel_rfl) ?_
      simp only [opsAt, List.filterMap_cons, List.filterMap_nil, List.getElem?_cons_zero, List.getElem?_cons_succ]
      go_wp2
      go_roundw
      case rel => exact ⟨k + 1, a9, c9, by omega, by go_num, rfl, HA9, HB9⟩
      case measure => simp [intOf]; omega
    · obtain rfl : k = nl := by omega
      go_wp2
      go_ret
      exact ⟨a, c, rfl, by rw [HSH.out]; exact HA.out.mono HB1.out.size, HB1.out.trans (HB.out.mono HB1.out.size)⟩
end Go.Proofs.YtfgifndpglgjkaaGreatDoor
end

section
set_option maxRecDepth 100000
set_option linter.unusedVariables false
set_option linter.unusedSimpArgs false
namespace Go.Proofs.YtfgifndpglgjkaaGreatDoor
open Go.RowKit

theorem info_of_map {T : TypeId} {x : Option Value × Nat × Nat} (h : (Tryz.prog.info? T).map (fun i => (i.zero, i.size, i.bytes)) = some x) : ∃ i, Tryz.prog.info? T = some i ∧ i.size = x.2.1 := by
  obtain ⟨i, hi, he⟩ := Option.map_eq_some_iff.1 h
  exact ⟨i, hi, by rw [← he]⟩
theorem eq_u8 (d : Nat) (x y : Int) (W : World) : (Op.equalIn (d + 1) 5 (.int .u8 x) (.int .u8 y)).run Tryz.prog W = .ok (x == y) W := by
  simp [Op.equalIn, run_underlying, Tryz.underlying5, Sem.run_bind]
theorem eq_four (a b c d a' b' c' d' : Int) (W : World) : (Op.equalIn 10000 74 (.agg #[.int .u8 a, .int .u8 b, .int .u8 c, .int .u8 d]) (.agg #[.int .u8 a', .int .u8 b', .int .u8 c', .int .u8 d'])).run Tryz.prog W = .ok (a == a' && (b == b' && (c == c' && d == d'))) W := by
  obtain ⟨i, hi, hs⟩ := info_of_map info8
  have hc : Tryz.prog.cellsOf 5 = 1 := by kernel_rfl
  have hp : Tryz.prog.plainKey 5 = true := by kernel_rfl
  rw [show (10000 : Nat) = 9998 + 1 + 1 from rfl, run_equalIn_array W (9998 + 1) _ _ Tryz.underlying74 hi, hc]
  have p : ∀ (xs : Array Value) (k : Nat) (v : Value) (V : World), xs[k]? = some v → (part 5 xs k).run Tryz.prog V = .ok v V := fun xs k v V h => run_part_plain V hp h
  have p0 : ∀ (v0 v1 v2 v3 : Value) (V : World), (part 5 #[v0, v1, v2, v3] 0).run Tryz.prog V = .ok v0 V := fun v0 v1 v2 v3 V => p _ 0 _ V rfl
  have p1 : ∀ (v0 v1 v2 v3 : Value) (V : World), (part 5 #[v0, v1, v2, v3] 1).run Tryz.prog V = .ok v1 V := fun v0 v1 v2 v3 V => p _ 1 _ V rfl
  have p2 : ∀ (v0 v1 v2 v3 : Value) (V : World), (part 5 #[v0, v1, v2, v3] 2).run Tryz.prog V = .ok v2 V := fun v0 v1 v2 v3 V => p _ 2 _ V rfl
  have p3 : ∀ (v0 v1 v2 v3 : Value) (V : World), (part 5 #[v0, v1, v2, v3] 3).run Tryz.prog V = .ok v3 V := fun v0 v1 v2 v3 V => p _ 3 _ V rfl
  show (Op.eqItems (9998 + 1) 5 1 _ _ [0, 1, 2, 3]).run Tryz.prog W = _
  simp only [Op.eqItems, Sem.run_bind, Nat.mul_one, p0, p1, p2, p3, Result.andThen_ok, eq_u8]
  cases h1 : a == a' <;> cases h2 : b == b' <;> cases h3 : c == c' <;> cases h4 : d == d' <;> simp only [p1, p2, p3, eq_u8, h1, h2, h3, h4, Op.eqItems, Sem.run_bind, Result.andThen_ok, Bool.not_false, Bool.not_true, if_true, Bool.false_eq_true, if_false, Sem.run_pure, Bool.and_true, Bool.and_false, Bool.false_and, Bool.true_and]
theorem fourV_same (s : UInt32) (W : World) : (Op.equalIn 10000 74 (.agg (Cd.fourV s)) (.agg (Cd.fourV s))).run Tryz.prog W = .ok true W := by
  unfold Cd.fourV
  rw [eq_four]
  simp
theorem fourV_eq (s t : UInt32) (W : World) : (Op.equalIn 10000 74 (.agg (Cd.fourV s)) (.agg (Cd.fourV t))).run Tryz.prog W = .ok (decide (s = t)) W := by
  unfold Cd.fourV
  rw [eq_four]
  congr 1
  rw [Bool.eq_iff_iff]
  simp only [n8_beq, Bool.and_eq_true, decide_eq_true_eq, beq_iff_eq]
  constructor
  · rintro ⟨h1, h2, h3, h4⟩
    refine Codec.four_inj ?_
    unfold Codec.four
    rw [h1, h2, h3, h4]
  · rintro rfl
    exact ⟨rfl, rfl, rfl, rfl⟩
end Go.Proofs.YtfgifndpglgjkaaGreatDoor
end

section
set_option maxRecDepth 100000
set_option linter.unusedVariables false
set_option linter.unusedSimpArgs false
namespace Go.Proofs.YtfgifndpglgjkaaGreatDoor
open Go.RowKit

theorem fit_cells {q : Cd.Full} {K M N : Nat} (hf : Cd.Fit q K M N) {W : World} {b : Nat} {an : Option Addr} {nn cn : Nat} (h : Cd.PAt W b q an nn cn) : W.cell? ⟨b, 4, none⟩ = some (.int .i64 (K : Int)) ∧ W.cell? ⟨b, 5, none⟩ = some (.int .i64 (M : Int)) ∧ W.cell? ⟨b, 6, none⟩ = some (.int .i64 (N : Int)) :=
  ⟨by rw [h.c4, hf.k], by rw [h.c5, hf.m], by rw [h.c6, hf.n]⟩
theorem rall_len (K M : Nat) (d : List UInt8) : (Rs.all K M d).length = K + M := by rw [Rs.all, mat_len]
theorem rall_row {K M i : Nat} (d : List UInt8) (hi : i < K + M) : (nth (Rs.all K M d) i).length = Rs.wd K d.length := by
  unfold Rs.all
  rw [nth_eq _ (by rw [mat_len]; exact hi)]
  simp [mat]
theorem rwd_le (K N : Nat) : Rs.wd K N ≤ N + K + 1 := by
  unfold Rs.wd
  have := Nat.div_le_self (N + K - 1) K
  omega
set_option maxHeartbeats 4000000 in
theorem cshards_yes (q : Cd.Full) (an : Option Addr) (nn cn K M : Nat) (ad : Option Addr) (nd cd : Nat) (d : List UInt8) (w : World) (hc : Cst w) (hf : Cd.Fit q K M nd) (hn : Is w an nn cn q.nodes) (hd : Bs w ad nd cd d) (hnn : nn = K + M) (hsum : q.p.sum = Codec.sum d) :
    Calls Tryz.prog 15 #[Cd.pv q an nn cn, .slice ad nd cd] w fun e w' => ∃ a c, e = .returned (.tuple #[.slice a nn c, .int .i64 0]) ∧ AccB belS 51 w' w.heap.size a nn c (Cd.shs q (Rs.all K M d)) ∧ Below w.heap.size w w' := by
  have hb0 := below_alloc1 w (.cells (Cd.pcells q an nn cn) 31)
  have hp0 := Cd.PAt.new w q an nn cn
  have hle := hd.le.1
  have hle2 := hn.le
  have hk1 := hf.k1
  have hkm := hf.km
  have hnb := hf.nb
  have HC := Lib.hid hc
  have HF := Lib.hid hf
  have HDD : Hid (∀ W, Below w.heap.size w W → Bs W ad nd cd d) := Lib.hid fun W k => hd.below k
  have HDL := Lib.hid hd.1
  have HNO : Hid (∀ W, Below w.heap.size w W → Is W an nn cn q.nodes) := Lib.hid fun W k => hn.below k
  have t1 : ((nn : Int) != (K : Int) + (M : Int)) = false := by rw [bne_eq_false_iff_eq]; omega
  have t2 : ((nd : Int) != (nd : Int)) = false := by simp
  have HNN := Lib.hid hnn
  have hnl : nn ≤ 255 := by omega
  have HWD : Hid (∀ i, i < nn → (nth (Rs.all K M d) i).length ≤ 100000000) := Lib.hid fun i hi => by
    rw [rall_row d (by omega), hd.1]
    have := rwd_le K nd
    omega
  have HSC : Hid (∀ W, Cd.PAt W w.heap.size q an nn cn → W.cell? ⟨w.heap.size, 7, none⟩ = some (.int .u32 (n32 (Codec.sum d)))) := Lib.hid fun W h => by rw [h.c7, hsum]
  clear hc hf hn hd hnn hsum
  unfold Cd.pv
  go_enter Tryz.func15, Tryz.ntmps15
  go_upto_region 1 with fail
  unfold Cd.pcells at hb0 hp0
  generalize w.alloc (.cells #[.string (bstr q.bucket), .string (bstr q.key), .int .u64 q.version, .int .u64 q.p.stripe, .int .i64 q.p.K, .int .i64 q.p.M, .int .i64 q.p.size, .int .u32 (n32 q.p.sum), .slice an nn cn] 31) = w1 at *
  have HB1 := Lib.hid hb0
  have HP1 := Lib.hid hp0
  clear hb0 hp0
  obtain ⟨d4, d5, d6⟩ := fit_cells HF.out HP1.out
  go_wp2_with fail
  refine (new_any K M w1 hk1 hkm).mono ?_
  rintro e w2 ⟨⟨bc, rfl, hco⟩, hb2⟩
  have HB2 := Lib.hid (HB1.out.trans (hb2.mono HB1.out.size))
  have HP2 := Lib.hid (HP1.out.below hb2)
  have HCO := Lib.hid hco
  clear hb2 hco d4 d5 d6
  go_upto_region 2 with fail
  refine wp_region_steps [29] 29 29 (by kernel_rfl) (by kernel_rfl) rfl (fun W' => ∃ V : BW w2, W' = V.w) ?_
  have HBD : Hid (Below w2.heap.size w2 w2.drew) := Lib.hid (Below.refl _ _).drew
  generalize w2.drew = wD at *
  refine anyT_pull [0, 1, 2, 3, 4, 5, 6, 7, 8, 9, 10, 14, 15] 29 16 (by intro c a d v w h; cases d <;> exact h) (by kernel_rfl) ⟨⟨_, HBD.out⟩, rfl⟩ ?_
  simp only [opsAt, List.filterMap_cons, List.filterMap_nil, List.getElem?_cons_zero, List.getElem?_cons_succ]
  iterate 13
    apply held_step
    · kernel_rfl
    · rintro _ ⟨V, rfl⟩
      have hp := HP2.out.below V.b
      obtain ⟨c4, c5, c6⟩ := fit_cells HF.out hp
      have c7 := HSC.out _ hp
      have c8 := hp.c8
      go_simp
      rfl
  refine held_nil ?_
  apply anyT_one 11
  · rfl
  · kernel_rfl
  · kernel_rfl
  intro K' hK
  go_simp
  have HBF := Lib.hid (HBD.out.trans ((below_alloc1 wD (.cells #[.slice ad nd cd] 25)).mono HBD.out.size))
  have HO := Lib.hid (Bss.one (HDD.out wD (HB2.out.trans (HBD.out.mono HB2.out.size))))
  refine hK _ _ ⟨⟨_, HBF.out⟩, rfl⟩ ?_
  clear hK
  generalize wD.alloc (.cells #[.slice ad nd cd] 25) = wF at *
  apply anyT_one 12
  · rfl
  · kernel_rfl
  · kernel_rfl
  intro K' hK
  go_simp
  refine (sum_any _ 1 1 [d] wF HO.out).mono ?_
  rintro e wG ⟨rfl, hbg⟩
  rw [show ([d] : List (List UInt8)).flatten = d by simp]
  have HBG := Lib.hid (HBF.out.trans (hbg.mono HBF.out.size))
  refine hK _ _ ⟨⟨_, HBG.out⟩, rfl⟩ ?_
  clear hK hbg
  generalize Codec.sum d = s at *
  apply anyT_one 13
  · rfl
  · kernel_rfl
  · kernel_rfl
  intro K' hK
  go_simp
  refine (cfour_any s wG).mono ?_
  rintro e wH ⟨rfl, hbh⟩
  have HBH := Lib.hid (HBG.out.trans (hbh.mono HBG.out.size))
  refine hK _ _ ⟨⟨_, HBH.out⟩, rfl⟩ ?_
  clear hK hbh
  apply anyT_one 16
  · rfl
  · kernel_rfl
  · kernel_rfl
  intro K' hK
  go_simp
  refine (cfour_any s wH).mono ?_
  rintro e wI ⟨rfl, hbi⟩
  have HBI := Lib.hid (HBH.out.trans (hbi.mono HBH.out.size))
  refine hK _ _ ⟨⟨_, HBI.out⟩, rfl⟩ ?_
  clear hK hbi
  have heq := fun W => fourV_same s W
  refine anyT_pull [17, 18, 19, 20, 21, 22, 23, 24, 25, 26, 27, 28] 29 0 (by intro c a d v w h; cases d <;> exact h) (by kernel_rfl) ⟨⟨_, HBI.out⟩, rfl⟩ ?_
  simp only [opsAt, List.filterMap_cons, List.filterMap_nil, List.getElem?_cons_zero, List.getElem?_cons_succ]
  iterate 12
    apply held_step
    · kernel_rfl
    · rintro _ ⟨V, rfl⟩
      have hp := HP2.out.below V.b
      obtain ⟨c4, c5, c6⟩ := fit_cells HF.out hp
      have c8 := hp.c8
      go_simp
      rfl
  refine held_nil ?_
  refine anyT_done (by kernel_rfl) ?_
  simp only [opsAt, List.filterMap_cons, List.filterMap_nil, List.getElem?_cons_zero, List.getElem?_cons_succ]
  have HBX := Lib.hid (HB2.out.trans (HBI.out.mono HB2.out.size))
  have HPX := Lib.hid (HP2.out.below HBI.out)
  have HCX := Lib.hid (HCO.out.below HBI.out)
  go_upto_region 4 with fail
  refine wp_region_steps [5, 6] 5 5 (by kernel_rfl) (by kernel_rfl) rfl (fun W' => ∃ V : BW wI, W' = V.w) ?_
  have HB6 : Hid (Below wI.heap.size wI wI.drew) := Lib.hid (Below.refl _ _).drew
  generalize wI.drew = w6 at *
  refine anyT_pull [0, 1, 2] 5 2 (by intro c a d v w h; cases d <;> exact h) (by kernel_rfl) ⟨⟨_, HB6.out⟩, rfl⟩ ?_
  simp only [opsAt, List.filterMap_cons, List.filterMap_nil, List.getElem?_cons_zero, List.getElem?_cons_succ]
  iterate 3
    apply held_step
    · kernel_rfl
    · rintro _ ⟨V, rfl⟩
      have hp := HPX.out.below V.b
      have c0 := hp.c0
      have c1 := hp.c1
      have c2 := hp.c2
      have c3 := hp.c3
      have c4 := hp.c4
      have c5 := hp.c5
      have c6 := hp.c6
      have c7 := hp.c7
      have c8 := hp.c8
      go_simp
      rfl
  refine held_nil ?_
  apply anyT_one 3
  · rfl
  · kernel_rfl
  · kernel_rfl
  intro K' hK
  go_simp
  refine (encode_any bc K M ad nd cd d w6 (HCX.out.below HB6.out) (HDD.out w6 (HBX.out.trans (HB6.out.mono HBX.out.size))) hk1 hkm (by omega)).mono ?_
  intro e w7 hr7
  obtain ⟨⟨a7, c7, rfl, hs7⟩, hb7⟩ := hr7.bss (by omega)
  have HB7 := Lib.hid (HB6.out.trans (hb7.mono HB6.out.size))
  have HS7 : Hid (Bss w7 a7 nn c7 (Rs.all K M d)) := Lib.hid (by rw [HNN.out]; unfold Rs.all; rw [HDL.out]; exact hs7)
  rw [← HNN.out]
  refine hK _ _ ⟨⟨_, HB7.out⟩, rfl⟩ ?_
  clear hK hr7 hs7 hb7
  apply anyT_one 4
  · rfl
  · kernel_rfl
  · kernel_rfl
  intro K' hK
  go_simp
  have hs := shards_any q an nn cn a7 nn c7 (Rs.all K M d) w7 (HC.out.below (HBX.out.trans (HB7.out.mono HBX.out.size))) HF.out.ok (HNO.out _ (HBX.out.trans (HB7.out.mono HBX.out.size))) HS7.out (Nat.le_refl _) (by omega) HWD.out
  unfold Cd.pv at hs
  refine hs.mono ?_
  rintro e w8 ⟨a8, c8, rfl, ha8, hb8⟩
  have HB8 := Lib.hid (HB7.out.trans (hb8.mono HB7.out.size))
  have HA8 := Lib.hid ha8
  refine hK _ _ ⟨⟨_, HB8.out⟩, rfl⟩ ?_
  clear hK hs ha8 hb8
  refine anyT_done (by kernel_rfl) ?_
  simp only [opsAt, List.filterMap_cons, List.filterMap_nil, List.getElem?_cons_zero, List.getElem?_cons_succ]
  go_wp2
  go_ret2
  exact ⟨a8, c8, rfl, HA8.out.mono (by have h1 := HBX.out.size; have h2 := HB7.out.size; omega), HBX.out.trans (HB8.out.mono HBX.out.size)⟩
end Go.Proofs.YtfgifndpglgjkaaGreatDoor
end

section
set_option maxRecDepth 100000
set_option linter.unusedVariables false
set_option linter.unusedSimpArgs false
namespace Go.Proofs.YtfgifndpglgjkaaGreatDoor
open Go.RowKit

section
variable {α : Type} [Inhabited α] {w : World} {ops : Array Oper} {rest : List Oper} {o : Oper} {A : Act} {Q : Exit → Act → World → Prop}
/-- append of one element. -/
theorem app_b {T : TypeId} {a : Option Addr} {n c : Nat} {l : List α} (hgd : Region.wanted o (yielded ops A.tmps) = true) (C : Bel α) (hT : 5 ≠ T) (s x : Operand) (t : TypeId) (ho : o.op = .call { callee := .builtin .append, args := #[s, x], argTypes := #[t, t] })
    (ht : Tryz.prog.underlying t = some (.slice T)) {z : Value} {by_ : Nat} (hi : (Tryz.prog.info? T).map (fun i => (i.zero, i.size, i.bytes)) = some (some z, C.s, by_)) (hz : z.cells.size = C.s) (hby : by_ ≤ 100)
    (B : Nat) (hs : A.eval s = .slice a n c) (hacc : AccB C T w B a n c l)
    {k : Nat} {e : α} {ae : Option Addr} {ce : Nat} (hx : A.eval x = .slice (some ⟨k, 0, none⟩) 1 1) (hcell : ∀ j v, (C.f e ae ce)[j]? = some v → w.cell? ⟨k, j, none⟩ = some v) (he : Own w 0 ae (C.v e).length ce (C.v e)) (hb : n ≤ 1000000000) (hB : B ≤ w.heap.size)
    (h : ∀ a' c' w', AccB C T w' B a' (n + 1) c' (l ++ [e]) → Below B w w' → Evol w a w' a' → wpList Tryz.prog ops Q rest (A.put o.dst (.slice a' (n + 1) c')) w') : wpList Tryz.prog ops Q (o :: rest) A w :=
  BigFrame.wpList_want hgd fun K hK => step_app_b C hT s x t ho ht hi hz hby B hs hacc hx hcell he hb hB fun a' c' w' h1 h2 h3 => hK _ _ (h a' c' w' h1 h2 h3)
/-- append of one number. -/
theorem app_i {B : Nat} {aq : Option Addr} {n c : Nat} {l : List Int} (hgd : Region.wanted o (yielded ops A.tmps) = true) (s x : Operand) (ho : o.op = .call { callee := .builtin .append, args := #[s, x], argTypes := #[26, 26] })
    (hs : A.eval s = .slice aq n c) (hacc : AccI w B aq n c l) {k : Nat} {z : Int} (hz : I64 z) (hx : A.eval x = .slice (some ⟨k, 0, none⟩) 1 1) (hc : w.cell? ⟨k, 0, none⟩ = some (.int .i64 z)) (hb : n ≤ 1000000000) (hB : B ≤ w.heap.size)
    (h : ∀ a' c' w', AccI w' B a' (n + 1) c' (l ++ [z]) → Below B w w' → Evol w aq w' a' → wpList Tryz.prog ops Q rest (A.put o.dst (.slice a' (n + 1) c')) w') : wpList Tryz.prog ops Q (o :: rest) A w := by
  obtain ⟨i, hi, h0, h1, h2⟩ := info_parts infoI
  have hr : Row w (some ⟨k, 0, none⟩) (zv [z]) := fun j v hj => by
    cases j with
    | zero => refine ⟨k, 0, rfl, ?_⟩; simp [zv] at hj; subst hj; simpa using hc
    | succ j => simp [zv] at hj
  refine wpList_app_own hgd s x 26 ho B 3 i (.int .i64 0) 1 8 Tryz.underlying26 hi h0 h1 h2 rfl (by decide) aq n c (zv l) hs hacc.2.1 (some ⟨k, 0, none⟩) 1 1 (zv [z]) hx hr rfl (zv_one [z]) (by omega) (by simp only [maxLen]; omega) hB ?_
  intro a' c' w' g1 g2
  refine h a' c' w' ⟨by simp [hacc.1], ?_, ?_⟩ (g2.below hB (fun x hx => by subst hx; exact (World.ownsRow.lt hacc.2.1 x.block rfl).1)) g2
  · have e : zv l ++ zv [z] = zv (l ++ [z]) := by simp [zv]
    rw [← e]; exact g1
  · intro y hy
    rcases List.mem_append.1 hy with h' | h'
    · exact hacc.2.2 y h'
    · simp at h'; subst h'; exact hz
end
theorem infoL : (Tryz.prog.info? 25).map (fun i => (i.zero, i.size, i.bytes)) = some (some (.slice none 0 0), 1, 24) := by kernel_rfl
theorem row_cells {w : World} {k : Nat} {T : TypeId} {fl : List UInt8} {a : Option Addr} {n c : Nat} (hn : n = fl.length) (h : w.heap[k]? = some (.cells #[.slice a n c] T (0, 0))) :
    ∀ j v, (belL.f fl a c)[j]? = some v → w.cell? ⟨k, j, none⟩ = some v := fun j v hj =>
  (cell_of_row _ _ j _ _ _ h).trans (by subst hn; rw [← hj]; simp [belL])
/-- The shards that files have. -/
def Cd.gd (p : Cd.Ptr) (W : Nat) (fs : List (List UInt8)) (i : Nat) : List UInt8 := (Cd.rd p W i (nth fs i)).1
def Cd.gds (p : Cd.Ptr) (W : Nat) (fs : List (List UInt8)) : List (List UInt8) := (List.range fs.length).map (Cd.gd p W fs)
set_option maxHeartbeats 4000000 in
theorem cgood_any (q : Cd.Full) (an : Option Addr) (nn cn K M N : Nat) (al : Option Addr) (nl cl : Nat) (fs : List (List UInt8)) (w : World) (hf : Cd.Fit q K M N) (hl : Bss w al nl cl fs) (hb : nl ≤ 1000) (hbig : ∀ i, i < nl → (nth fs i).length ≤ 100000000) :
    Calls Tryz.prog 50 #[Cd.pv q an nn cn, .slice al nl cl] w fun e w' => ∃ a c, e = .returned (.slice a nl c) ∧ AccB belL 25 w' w.heap.size a nl c (Cd.gds q.p (Rs.wd K N) fs) ∧ Below w.heap.size w w' := by
  have hb0 := below_alloc1 w (.cells (Cd.pcells q an nn cn) 31)
  have hp0 := Cd.PAt.new w q an nn cn
  have HF := Lib.hid hf
  have HLS := Lib.hid hl
  have HBIG := Lib.hid hbig
  have hle := hl.le
  have HSH : Hid (Cd.gds q.p (Rs.wd K N) fs = (List.range nl).map (Cd.gd q.p (Rs.wd K N) fs)) := Lib.hid (by unfold Cd.gds; rw [hl.1])
  clear hf hl hbig
  unfold Cd.pv
  go_enter Tryz.func50, Tryz.ntmps50
  go_upto_region 1 with fail
  unfold Cd.pcells at hb0 hp0
  generalize w.alloc (.cells #[.string (bstr q.bucket), .string (bstr q.key), .int .u64 q.version, .int .u64 q.p.stripe, .int .i64 q.p.K, .int .i64 q.p.M, .int .i64 q.p.size, .int .u32 (n32 q.p.sum), .slice an nn cn] 31) = w1 at *
  have HB1 := Lib.hid hb0
  have HP1 := Lib.hid hp0
  clear hb0 hp0
  go_wp2_with fail
  go_loopw [5, 12] (fun av iv wr => ∃ (k : Nat) (a : Option Addr) (c : Nat), k ≤ nl ∧ iv = .int .i64 k ∧ av = .slice a k c ∧ Hid (AccB belL 25 wr w1.heap.size a k c ((List.range k).map (Cd.gd q.p (Rs.wd K N) fs))) ∧ Hid (Below w1.heap.size w1 wr)) (fun _ iv _ => nl - (intOf iv).toNat)
  case atStart => exact ⟨0, none, 0, by omega, rfl, rfl, Lib.hid (AccB.nil _ _ _ _), Lib.hid (Below.refl _ _)⟩
  case round =>
    obtain ⟨k, a, c, hk, rfl, rfl, HA, HB⟩ := hrel
    by_cases hlt : k < nl
    · have t1 : decide ((k : Int) < (nl : Int)) = true := decide_eq_true (by omega)
      have t2 : decide (k < nl) = true := decide_eq_true hlt
      obtain ⟨b1, o1, ai, ni, ci, e1, hc1, hbs1⟩ := (HLS.out.below (HB1.out.trans (HB.out.mono HB1.out.size))).get hlt
      subst e1
      have hni : ni ≤ 100000000 := by have := hbs1.1; have := HBIG.out k hlt; omega
      have HRA : Hid ((List.range (k + 1)).map (Cd.gd q.p (Rs.wd K N) fs) = (List.range k).map (Cd.gd q.p (Rs.wd K N) fs) ++ [(Cd.rd q.p (Rs.wd K N) k (nth fs k)).1]) := Lib.hid (by rw [List.range_succ, List.map_append]; rfl)
      have hki : Cd.I64 (k : Int) := ⟨by omega, by omega⟩
      have HRF := Lib.hid (readfile_any q an nn cn K M N (k : Int) ai ni ci (nth fs k) wr hbs1 HF.out hki hni)
      unfold Cd.pv at HRF
      have hp := HP1.out.below HB.out
      have c0 := hp.c0
      have c1 := hp.c1
      have c2 := hp.c2
      have c3 := hp.c3
      have c4 := hp.c4
      have c5 := hp.c5
      have c6 := hp.c6
      have c7 := hp.c7
      have c8 := hp.c8
      clear hbs1 hki hp
      generalize Cd.rd q.p (Rs.wd K N) k (nth fs k) = R at *
      obtain ⟨r, er⟩ := R
      go_wp2_with fail
      refine HRF.out.mono ?_
      rintro e wE ⟨a5, n5, c5', rfl, ho5, hb5⟩
      dsimp only at ho5 HRA ⊢
      have HBE := Lib.hid (HB.out.trans (hb5.mono HB.out.size))
      have HAE := Lib.hid (HA.out.below hb5)
      obtain ⟨nr, hnr⟩ : ∃ nr, nr = r.length := ⟨_, rfl⟩
      obtain rfl : n5 = nr := by have := ho5.bs.1; omega
      have HO5 := Lib.hid (own_mono ho5 (Nat.zero_le _))
      have HNR := Lib.hid hnr
      clear c0 c1 c2 c3 c4 c5 c6 c7 c8 hc1 hb5 ho5 hnr
      go_upto_region 6 with fail
      have hbg := below_alloc1 wE (.cells #[.slice a5 n5 c5'] 25)
      have HBG := Lib.hid (HBE.out.trans (hbg.mono HBE.out.size))
      have HAG := Lib.hid (HAE.out.below hbg)
      have HOG : Hid (Own (wE.alloc (.cells #[.slice a5 n5 c5'] 25)) 0 a5 (belL.v r).length c5' (belL.v r)) := Lib.hid (by have h9 := own_below HO5.out hbg; rw [HNR.out] at h9 ⊢; exact h9)
      have HCG := Lib.hid (row_cells (fl := r) HNR.out (heap_alloc_new wE (.cells #[.slice a5 n5 c5'] 25)))
      clear hbg
      go_wp2_with (at_builtin; refine app_b rfl belL (by decide) _ _ 53 rfl Tryz.underlying53 infoL rfl (by decide) w1.heap.size rfl HAG.out rfl HCG.out (ae := a5) (ce := c5') HOG.out (by omega) HBG.out.size ?_; intro a9 c9 w9 h9 hb9 hev9; have HB9 := Lib.hid (HBG.out.trans hb9); rw [← HRA.out] at h9; have HA9 := Lib.hid h9; clear h9 hb9 hev9)
      go_roundw
      case rel => exact ⟨k + 1, a9, c9, by omega, by go_num, rfl, HA9, HB9⟩
      case measure => simp [intOf]; omega
    · obtain rfl : k = nl := by omega
      go_wp2
      go_ret
      exact ⟨a, c, rfl, by rw [HSH.out]; exact HA.out.mono HB1.out.size, HB1.out.trans (HB.out.mono HB1.out.size)⟩
end Go.Proofs.YtfgifndpglgjkaaGreatDoor
end

section
set_option maxRecDepth 100000
set_option linter.unusedVariables false
set_option linter.unusedSimpArgs false
namespace Go.Proofs.YtfgifndpglgjkaaGreatDoor
open Go.RowKit Go.Deep

theorem zero_dec : ZeroF 82 (.slice none 0 0) := by
  intro po x w h1 h2
  go_enter Tryz.func82, Tryz.ntmps82
  go_wp2
  go_end0
  exact ⟨rfl, rfl⟩
theorem slice_hm (a : Option Addr) (n c : Nat) {hi mx : Int} {hi' mx' : Nat} (hhi : hi = hi') (hmx : mx = mx') (h2 : hi' ≤ mx') (h3 : mx' ≤ c) (w : World) :
    (Instr.slice 25 (.slice a n c) none (some (.int .i64 hi)) (some (.int .i64 mx))).run Tryz.prog w = .ok (.slice a hi' mx') w := by
  obtain ⟨i, hi0, _, g1, _⟩ := info_parts info8
  subst hhi hmx
  simp [Instr.slice, run_underlying Tryz.underlying25, sizeOf, typeInfo, hi0, Instr.sliceBounds, run_sliceBound, h2, h3]
  intro _; cases a <;> simp [Addr.add_zero']
theorem flat_len : ∀ (ls : List (List UInt8)) (m : Nat), (∀ l ∈ ls, l.length = m) → ls.flatten.length = ls.length * m
  | [], m, _ => by simp
  | l :: ls, m, h => by
    rw [List.flatten_cons, List.length_append, h l (by simp), flat_len ls m (fun x hx => h x (by simp [hx])), List.length_cons, Nat.add_mul, Nat.one_mul]; omega

set_option maxHeartbeats 16000000 in
theorem decode_any (b K M : Nat) (size : Int) (aq : Option Addr) (ns cs : Nat) (ls : List (List UInt8)) (w : World) (hc : Cod w b K M) (hs : Bss w aq ns cs ls) (h1 : 1 ≤ K) (h2 : K + M ≤ 255) (h3 : ns ≤ 1000000000) (h4 : ∀ i, i < ns → (nth ls i).length ≤ 3000000)
    (hsz : -9223372036854775808 ≤ size ∧ size ≤ 9223372036854775807) :
    Calls Tryz.prog 52 #[.pointer (some ⟨b, 0, none⟩), .int .i64 size, .slice aq ns cs] w (VRes (Rs.decL K M size ls) (Rs.decE K M size ls) w) := by
  have hmf := makeFunc_run
  obtain ⟨w2, hw2⟩ : ∃ w2, (w.alloc (.cells #[.slice none 0 0] 25)).alloc (.cells #[.int .i64 0] 32) = w2 := ⟨_, rfl⟩
  have hT := Two.start w (.slice none 0 0) (.int .i64 0) 25 32
  rw [hw2] at hT
  have HC : Hid (∀ W, Below w.heap.size w W → Cod W b K M) := Lib.hid fun W h => hc.below h
  have HS : Hid (∀ W, Below w.heap.size w W → Bss W aq ns cs ls) := Lib.hid fun W h => hs.below h
  have HS0 := Lib.hid hs
  have HT := Lib.hid hT
  have HW := Lib.hid hw2
  have H4 := Lib.hid h4
  have HSZ := Lib.hid hsz
  have k1 := (HC.out w2 hT.out).k
  have k2 := (HC.out w2 hT.out).m
  clear hc hs hT hw2 h4 hsz
  have HRD : Hid (∀ tmps : Array Value, tmps.getD 6 undef = .pointer (some ⟨w.heap.size, 0, none⟩) → tmps.getD 7 undef = .pointer (some ⟨w.heap.size + 1, 0, none⟩) → Reads2 Tryz.f52 tmps w.heap.size) := Lib.hid fun tmps t4 t5 W v1 v2 g1 g2 => by
    simp [results, Tryz.results52, go_sem, g1, g2] at t4 t5 ⊢
    simp [t4, t5, asAddr, g1, g2, go_sem]
  go_enter_defers Tryz.func52, Tryz.ntmps52
  go_wp2_with fail
  rw [HW.out]
  clear HW
  go_still_tail 10, (by kernel_rfl)
  go_wp2_with fail
  have hT2 := Lib.hid (HT.out.later (Below.refl _ _).drew)
  generalize w2.drew = w3 at *
  clear HT k1 k2
  refine (alike_sum K M aq ns cs ls w3 (HS.out _ hT2.out.out) (by omega)).mono ?_
  rintro e w4 ⟨rfl, rfl⟩
  cases hA : Rs.alk (K + M) ls with
  | none =>
    have e1 : Rs.decE K M size ls = 1 := by unfold Rs.decE; rw [hA]
    have e2 : Rs.decL K M size ls = [] := by unfold Rs.decL; rw [e1]; rfl
    simp only [alkE]
    refine door_err (F := 82) (HRD.out _ rfl rfl) hT2.out (enters_of Tryz.func82 (by kernel_rfl) rfl) zero_dec (fun W hb => ?_)
    rw [e1, e2]
    exact nil_vres hb
  | some m =>
    simp only [alkE]
    obtain ⟨hlen, hsc⟩ := alk_some hA
    have hns := HS0.out.1
    obtain rfl : ns = K + M := by omega
    have hm4 : m ≤ 3000000 := sc_le (fun i hi => H4.out i (by omega)) ls.length (Nat.le_refl _) m (by rw [List.take_length]; exact hsc)
    have HSC := Lib.hid hsc
    have HLEN := Lib.hid hlen
    have HA := Lib.hid hA
    have hlt := hT2.out.lt
    have k3 := (HC.out w3 hT2.out.out).k
    have hmul : K * m ≤ 255 * 3000000 := Nat.mul_le_mul (by omega) hm4
    have hmi : (K : Int) * (m : Int) = ((K * m : Nat) : Int) := by simp
    obtain ⟨T, hT⟩ : ∃ T, K * m = T := ⟨_, rfl⟩
    rw [hT] at hmul hmi
    have HTT := Lib.hid hT
    clear hA hlen hsc hns H4 hT
    by_cases hbad : size < 0 ∨ (T : Int) < size
    · have e1 : Hid (Rs.decE K M size ls = 1) := Lib.hid (by unfold Rs.decE; rw [HA.out]; simp only; rw [HTT.out, if_pos hbad])
      have e2 : Hid (Rs.decL K M size ls = []) := Lib.hid (by unfold Rs.decL; rw [e1.out]; rfl)
      have hcase : decide (size < 0) = true ∨ (decide (size < 0) = false ∧ decide ((T : Int) < size) = true) := by
        by_cases q : size < 0
        · exact .inl (decide_eq_true q)
        · exact .inr ⟨decide_eq_false q, decide_eq_true (by omega)⟩
      clear hbad
      rcases hcase with hq | ⟨hq, hq2⟩
      all_goals
        go_wp2_with (go_at_call 84; refine (give_any _ _).mono ?_; rintro e w' ⟨rfl, rfl⟩)
        refine door_err (F := 82) (HRD.out _ rfl rfl) hT2.out (enters_of Tryz.func82 (by kernel_rfl) rfl) zero_dec (fun W hb => ?_)
        rw [e1.out, e2.out]
        exact nil_vres hb
    · obtain ⟨S, rfl⟩ : ∃ S : Nat, size = (S : Int) := ⟨size.toNat, by omega⟩
      have hST : S ≤ T := by omega
      have q1 : decide ((S : Int) < 0) = false := decide_eq_false (by omega)
      have q2 : decide ((T : Int) < (S : Int)) = false := decide_eq_false (by omega)
      have q3 : ¬ T < S := by omega
      have HNB : Hid (¬ ((S : Int) < 0 ∨ ((K * m : Nat) : Int) < (S : Int))) := Lib.hid (by rw [HTT.out]; omega)
      clear hbad
      go_wp2_with fail
      refine (whole_any (fun b => False) b K M aq cs m ls w3 (fun b hb => hb.elim) (HC.out _ hT2.out.out) (Stb.of_bss (HS.out _ hT2.out.out)) h1 h2 HSC.out (by omega)).mono ?_
      rintro e w4 ⟨hres, hb4⟩
      have HT4 := Lib.hid (hT2.out.later hb4)
      clear hb4 q1 q2 q3
      by_cases hlo : Rs.lostB K ls = true
      · rw [if_pos hlo] at hres
        subst hres
        have e1 : Rs.decE K M S ls = 16 := by unfold Rs.decE; rw [HA.out]; simp only; rw [if_neg HNB.out, if_pos hlo]
        have e2 : Rs.decL K M S ls = [] := by unfold Rs.decL; rw [e1]; rfl
        refine door_err (F := 82) (HRD.out _ rfl rfl) HT4.out (enters_of Tryz.func82 (by kernel_rfl) rfl) zero_dec (fun W hb => ?_)
        rw [e1, e2]
        exact nil_vres hb
      rw [if_neg hlo] at hres
      have hlo : Rs.lostB K ls = false := by simpa using hlo
      obtain ⟨a4, c4, rfl, hst⟩ := hres
      have e1 : Hid (Rs.decE K M S ls = 0) := Lib.hid (by unfold Rs.decE; rw [HA.out]; simp only; rw [if_neg HNB.out, hlo]; rfl)
      obtain ⟨v1, v2, v3⟩ := whole_even h1 HLEN.out HSC.out hlo
      have hflat : (Rs.whole K M ls).flatten.length = T := by
        rw [flat_len _ m (fun l hl => by
          obtain ⟨i, hi, rfl⟩ := List.getElem_of_mem hl
          rw [← nth_eq]
          exact v3 i (by rw [← v1]; exact hi)), v1]
        exact HTT.out
      have HST := Lib.hid hst.bss
      have HFL := Lib.hid hflat
      clear hst v1 v2 v3 hlo hflat
      go_wp2_with fail
      refine (concat_any _ _ _ _ w4 HST.out (by unfold tot; rw [HFL.out]; omega)).mono ?_
      rintro e w5 ⟨a5, n5, c5, rfl, h5, hb5⟩
      have hbs5 := h5.bs
      obtain rfl : n5 = T := by rw [← HFL.out]; exact hbs5.1.symm
      have HT5 := Lib.hid (HT4.out.later hb5)
      have hsl := slice_hm a5 n5 c5 (hi := (S : Int)) (hi' := S) (mx := (S : Int)) (mx' := S) rfl rfl (Nat.le_refl _) (Nat.le_trans hST hbs5.2.1)
      have c1 := HT5.out.c1
      have c2 := HT5.out.c2
      have f1 := HT5.out.f1
      have f2 := HT5.out.f2
      have hlt4 := HT4.out.lt
      have HRES : Hid (Bs ((w5.setCell ⟨w.heap.size, 0, none⟩ (.slice a5 S S)).setCell ⟨w.heap.size + 1, 0, none⟩ (.int .i64 0)) a5 S S (Rs.decL K M S ls)) := Lib.hid (by
        have hlow := own_new h5
        have hb := bs_setLow (p := ⟨w.heap.size + 1, 0, none⟩) (v := .int .i64 0) (B := w4.heap.size) hlt4 (bs_setLow (p := ⟨w.heap.size, 0, none⟩) (v := .slice a5 S S) (B := w4.heap.size) (by show w.heap.size < w4.heap.size; omega) hbs5 (fun _ x hx => hlow x hx)) (fun _ x hx => hlow x hx)
        have ht := hb.take hST
        unfold Rs.decL
        rw [if_pos e1.out, Int.toNat_natCast]
        exact ⟨ht.1, Nat.le_refl _, by simp only [maxLen]; omega, ht.2.2.2⟩)
      clear h5 hb5 hbs5
      go_wp2
      refine door_ok (F := 82) (HRD.out _ rfl rfl) (HT5.out.set' (.int .i64 0) (.slice a5 S S)) ?_
      rw [e1.out]
      exact ⟨⟨_, _, _, rfl, HRES.out⟩, (HT5.out.set' (.int .i64 0) (.slice a5 S S)).out⟩
end Go.Proofs.YtfgifndpglgjkaaGreatDoor
end
