/- rs, the reference: data, the shards that hold the bytes. -/
import Derived.Test.YtppgbapfmijboaaRrA
import Derived.Deep.RegionHeld3
set_option maxRecDepth 100000
set_option linter.unusedVariables false
set_option linter.unusedSimpArgs false
namespace Go.Proofs.Ytppgbapfmijboaa
open Go.RowKit Go.Deep

/-- A row of sums: i terms everywhere, one more below x. -/
def Rs.dj (f : Nat → Nat → UInt8) (i x y : Nat) : UInt8 := if y < x then Gf.sm (i + 1) (f y) else Gf.sm i (f y)
theorem dj_zero (f : Nat → Nat → UInt8) (i y : Nat) : Rs.dj f i 0 y = Gf.sm i (f y) := by unfold Rs.dj; simp
theorem dj_all {f : Nat → Nat → UInt8} {i L y : Nat} (h : y < L) : Rs.dj f i L y = Gf.sm (i + 1) (f y) := by unfold Rs.dj; rw [if_pos h]
theorem dj_step {w : World} {b i x C : Nat} {f : Nat → Nat → UInt8} (h : rowTo w b 5 C (fun y => .int .u8 (n8 (Rs.dj f i x y)))) :
    rowTo (w.setCell ⟨b, x, none⟩ (.int .u8 (n8 (Rs.dj f i x x ^^^ f x i)))) b 5 C (fun y => .int .u8 (n8 (Rs.dj f i (x + 1) y))) := by
  refine (h.set x _).congr fun y hy => ?_
  show (if y = x then _ else Value.int .u8 (n8 (Rs.dj f i x y))) = .int .u8 (n8 (Rs.dj f i (x + 1) y))
  unfold Rs.dj
  by_cases e : y = x
  · subst e
    simp [Gf.sm]
  · by_cases e2 : y < x
    · rw [if_neg e, if_pos e2, if_pos (by omega)]
    · rw [if_neg e, if_neg e2, if_neg (by omega)]
theorem rows_getD {K : Nat} {ls : List (List UInt8)} {i : Nat} (hi : i < K) : (Rs.rows K ls).getD i 0 = (Rs.thr ls ls.length).getD i 0 := by
  unfold Rs.rows
  rw [List.getD_eq_getElem?_getD, List.getD_eq_getElem?_getD, List.getElem?_take, if_pos hi]
theorem getD_take_succ {l : List Nat} {i : Nat} {v : Nat → Value} (hi : i < l.length) : (List.range (i + 1)).map (fun q => v (l.getD q 0)) = (List.range i).map (fun q => v (l.getD q 0)) ++ [v (l.getD i 0)] := by
  rw [List.range_succ, List.map_append]; rfl

theorem Mo.elems {w : World} {B n c C : Nat} {a : Option Addr} {bl cp : Nat → Nat} {Z : Nat → Nat → UInt8} (h : Mo w B a n c C bl cp Z) : Elems w ((List.range n).map fun i => .slice (some ⟨bl i, 0, none⟩) C (cp i)) (mat n C Z) := by
  refine ⟨by simp [mat_len], fun i hi => ?_⟩
  rw [mat_len] at hi
  obtain ⟨b, off, ai, ni, ci, e1, e2, h4⟩ := h.bss'.2.2.2 i hi
  obtain ⟨b', off', e1', e2'⟩ := Row.of_own h.own i (.slice (some ⟨bl i, 0, none⟩) C (cp i)) (by simp [hi])
  rw [e1] at e1'
  cases e1'
  rw [e2] at e2'
  cases Option.some.inj e2'
  exact ⟨_, _, _, by simp [hi], h4⟩

set_option maxHeartbeats 16000000 in
theorem refdata_any (b K M : Nat) (aq : Option Addr) (cs m : Nat) (al : Option Addr) (nl cl : Nat) (ls : List (List UInt8)) (w : World) (hc : RCod w b K M) (hs : Bss w aq (K + M) cs ls) (hl : Is w al nl cl (ints (Rs.thr ls ls.length)))
    (hsc : Rs.sc ls = some m) (hlo : Rs.lostB K ls = false) (h1 : 1 ≤ K) (h2 : K + M ≤ 255) (h3 : m ≤ 100000000) :
    Calls Try.prog 45 #[.pointer (some ⟨b, 0, none⟩), .slice aq (K + M) cs, .slice al nl cl, .int .i64 m] w
      (MoP K m (Rs.tm (Gf.invL (Rs.part K M (Rs.rows K ls))) (Rs.got ls (Rs.rows K ls)) K) w) := by
  have HC : Hid (∀ W, Below w.heap.size w W → RCod W b K M) := Lib.hid fun W h => hc.below h
  have HS : Hid (∀ W, Below w.heap.size w W → Bss W aq (K + M) cs ls) := Lib.hid fun W h => hs.below h
  have HLI : Hid (∀ W, Below w.heap.size w W → Is W al nl cl (ints (Rs.thr ls ls.length))) := Lib.hid fun W h => hl.below h
  have HLN := Lib.hid hs.1
  obtain ⟨r1, r2, r3⟩ := rows_facts' hs.1 hlo
  have hnl : K ≤ nl := by
    have := hl.1
    have h5 : ¬ (Rs.thr ls ls.length).length < K := of_decide_eq_false hlo
    simp [ints] at this
    omega
  have HRD : Hid (∀ i, i < K → nth (ints (Rs.thr ls ls.length)) i = (((Rs.rows K ls).getD i 0 : Nat) : Int)) := Lib.hid fun i hi => by
    have h5 : ¬ (Rs.thr ls ls.length).length < K := of_decide_eq_false hlo
    rw [ints_nth (by omega), rows_getD hi]
  obtain ⟨lr, hlr⟩ : ∃ lr, Rs.rows K ls = lr := ⟨_, rfl⟩
  rw [hlr] at r1 r2 r3 HRD
  have HMem : Hid (∀ i, i < K → lr.getD i 0 ∈ lr) := Lib.hid fun i hi => by
    rw [List.getD_eq_getElem?_getD, List.getElem?_eq_getElem (by omega)]
    exact List.getElem_mem _
  have HR : Hid (∀ i, i < K → lr.getD i 0 < K + M ∧ (nth ls (lr.getD i 0)).length = m) := Lib.hid fun i hi => by
    have h5 := r3 _ (HMem.out i hi)
    refine ⟨h5.1, ?_⟩
    have := sc_len hsc (i := lr.getD i 0) (by rw [HLN.out]; exact h5.1)
    omega
  obtain ⟨s, hsg, hinv, _⟩ := part_inv h1 h2 r1 r2 (fun j hj => (r3 j hj).1)
  have hm0 : 1 ≤ m := by
    have h5 := r3 _ (HMem.out 0 h1)
    have h6 := (HR.out 0 h1).2
    omega
  have HLR := Lib.hid hlr
  have HINV := Lib.hid hinv
  have RL := Lib.hid r1
  have k1 := hc.k
  clear hc hs hl hsc hlo r1 r2 r3 hsg hlr hinv
  have hmk := run_make_row' (P := Try.prog) 22 5 (.int .u8 0) 1 Try.underlying22 info8 rfl .i64 .i64 m (by omega) (by omega)
  go_enter Try.func45, Try.ntmps45
  go_wp2_with fail
  refine (refunit_own K w h1 (by omega)).mono ?_
  rintro e w1 ⟨⟨a1, c1, bl1, cp1, rfl, hm1⟩, hb1⟩
  have HB1 := Lib.hid hb1
  have k3 := (HC.out w1 hb1).m
  have k4 := (HC.out w1 hb1).k
  have HM1 := Lib.hid hm1
  clear hb1 hm1 k1
  by_cases hM : M = 0
  case' pos =>
    have t2 : decide ((0 : Int) < (M : Int)) = false := decide_eq_false (by omega)
    have HX : Hid (Bss w1 a1 K c1 (Gf.stack K M) ∧ Below w.heap.size w w1) := Lib.hid (by
      refine ⟨?_, HB1.out⟩
      have := HM1.out.bss'
      unfold Gf.stack
      rw [hM]
      simpa [mat] using this)
    have HRT : Hid (∀ i, i < K → lr.getD i 0 < K) := Lib.hid fun i hi => by have := (HR.out i hi).1; omega
    have t3 : ¬ 0 < M := by omega
    clear hM HM1 HB1
    go_wp2_with fail
    clear k3 k4 t3
    generalize w1 = wA at *
    generalize a1 = aA at *
    generalize c1 = cA at *
  case' neg =>
    have hM1 : 1 ≤ M := by omega
    have t2 : decide ((0 : Int) < (M : Int)) = true := decide_eq_true (by omega)
    have hRC : M + K ≤ 256 := by omega
    clear hM
    go_wp2_with fail
    go_region_held3 (fun W => W.cell? ⟨b, 0, none⟩ = some (.int .i64 K) ∧ W.cell? ⟨b, 1, none⟩ = some (.int .i64 M)) (go_keep) (first | (go_at_call 55; refine (refcauchy_any M K _ hM1 h1 hRC).mono ?_; rintro e w2 ⟨⟨g, cg, blg, cpg, rfl, g1, g2, hmg⟩, hb2⟩; have HB2 : Hid (Below w1.heap.size w1 w2) := Lib.hid ((Below.refl w1.heap.size w1).drew.trans hb2); have q1 := cell_later HB2.out k4; have q2 := cell_later HB2.out k3))
    rename_i hHeld
    clear hHeld
    have hsz2 : w.heap.size ≤ w2.heap.size := Nat.le_trans HB1.out.size HB2.out.size
    have HM2 := Lib.hid (HM1.out.below HB2.out)
    have HB12 := Lib.hid (HB1.out.trans (HB2.out.mono HB1.out.size))
    have HRW := Lib.hid hmg.rw'
    have HRO := Lib.hid (rowTo_row hmg.top)
    have HRT : Hid (∀ i, i < K → lr.getD i 0 < K + M) := Lib.hid fun i hi => (HR.out i hi).1
    clear hmg g1 g2 hb2 q1 q2 k3 k4 hRC
    go_wp2_with (at_builtin; refine app_matr rfl _ _ rfl w.heap.size rfl HM2.out.own rfl HRO.out (by simp) (by intro u hu; obtain ⟨i, _, rfl⟩ := List.mem_map.1 hu; rfl) (by omega) hsz2 ?_; intro aA cA wA hA hbA hevA; have HA0 := Lib.hid hA; have HBA := Lib.hid (HB12.out.trans hbA); have HEV := Lib.hid hevA; clear hA hbA hevA)
    have HX : Hid (Bss wA aA (K + M) cA (Gf.stack K M) ∧ Below w.heap.size w wA) := Lib.hid (by
      have hj := HM2.out.join HRW.out HB1.out.size (fun x hx => (HM1.out.own.new x hx).2) (fun i hi => (HM1.out.row i hi).2.2.lt) (Y := fun i j => if i < K then Gf.one i j else Gf.cau K (i - K) j) (fun i j hi hj => by rw [if_pos hi]) (fun i j hi hj => by rw [if_neg (by omega), Nat.add_sub_cancel_left]) HA0.out HEV.out
      refine ⟨?_, HBA.out⟩
      have hb := hj.bss'
      have e : Gf.stack K M = mat (K + M) K (fun i j => if i < K then Gf.one i j else Gf.cau K (i - K) j) := by
        rw [← mat_append]
        unfold Gf.stack
        congr 1
        · exact mat_congr fun i j hi hj => by rw [if_pos hi]
        · exact mat_congr fun i j hi hj => by rw [if_neg (by omega), Nat.add_sub_cancel_left]
      rw [e]
      exact hb)
    clear HA0 HBA HEV HRW HRO HM2 HB12 HM1 HB1 HB2 hsz2 hM1
  all_goals
    clear t2
    obtain ⟨am, cm, hvm⟩ := HX.out.1.vals
    have HVM := Lib.hid hvm
    have HWA := Lib.hid HX.out.2
    clear hvm
    go_loopw [13, 14] (fun p i wr => ∃ (k c : Nat) (a : Option Addr), k ≤ K ∧ i = .int .i64 k ∧ p = .slice a k c ∧ Below wA.heap.size wA wr ∧ OwnV wr wA.heap.size a k c ((List.range k).map fun q => .slice (am (lr.getD q 0)) (nth (Gf.stack K M) (lr.getD q 0)).length (cm (lr.getD q 0)))) (fun _ i _ => K - (intOf i).toNat)
    case atStart => exact ⟨0, 0, none, Nat.zero_le _, rfl, rfl, Below.refl _ _, OwnV.nil _ _⟩
    case round =>
      obtain ⟨k, c, a, hk, rfl, rfl, hb, ho⟩ := hrel
      obtain ⟨wo, rfl⟩ : ∃ x, x = wr := ⟨wr, rfl⟩
      have hbw := HWA.out.trans (hb.mono HWA.out.size)
      have k1 := (HC.out _ hbw).k
      by_cases hlt : k < K
      · obtain ⟨bL, oL, eL, dL⟩ := (HLI.out _ hbw).get (show k < nl by omega)
        rw [HRD.out k hlt] at dL
        have hrT := HRT.out k hlt
        obtain ⟨⟨bM, oM, eM, dM⟩, hbM⟩ := HVM.out _ hrT
        have dM1 := cell_later hb dM
        have hLe := hbM.le.1
        have HB := Lib.hid hb
        have hsz := hb.size
        have HO1 := Lib.hid (ho.below (below_alloc wo (.cells #[.slice (am (lr.getD k 0)) (nth (Gf.stack K M) (lr.getD k 0)).length (cm (lr.getD k 0))] 22)))
        have hstep := Lib.hid (getD_take_succ (l := lr) (i := k) (v := fun r => .slice (am r) (nth (Gf.stack K M) r).length (cm r)) (by rw [RL.out]; exact hlt))
        clear hb ho dM hbM hbw
        subst eL
        subst eM
        generalize lr.getD k 0 = r at *
        generalize (nth (Gf.stack K M) r).length = Lr at *
        have HBX := Lib.hid (box_new wo (.slice (am r) Lr (cm r)) 22)
        go_wp2_with (at_builtin; refine app_row rfl _ _ rfl wA.heap.size rfl HO1.out rfl HBX.out rfl (by omega) (le_alloc hsz) ?_; intro a7 c7 w7 h7 hb7 _; have H7 := Lib.hid h7; have HB7 := Lib.hid (HB.out.trans (((below_alloc wo _).mono hsz).trans hb7)); clear h7 hb7)
        go_roundw
        case rel => exact ⟨k + 1, c7, a7, by omega, by go_num, rfl, HB7.out, by rw [hstep.out]; exact H7.out⟩
        case measure => simp [intOf]; omega
      · obtain rfl : k = K := by omega
        have hpart : Bss wo a k c (Rs.part k M lr) := by
          refine row_bss (Row.of_own ho) ⟨by rw [List.length_map, List.length_range]; unfold Rs.part; rw [mat_len], fun i hi => ?_⟩ (by simp) ho.len.2.1 ho.len.2.2
          unfold Rs.part at hi
          rw [mat_len] at hi
          refine ⟨am (lr.getD i 0), (nth (Gf.stack k M) (lr.getD i 0)).length, cm (lr.getD i 0), by simp [hi], ?_⟩
          rw [part_rowS hi (HR.out i hi).1]
          exact (HVM.out _ (HRT.out i hi)).2.below hb
        have HPART := Lib.hid hpart
        have HBW := Lib.hid hbw
        clear hpart ho hb hbw
        go_wp2_with fail
        refine (refinv_any _ _ _ _ wo HPART.out).mono ?_
        rintro e w9 hres
        obtain ⟨⟨a9, n9, c9, rfl, h9⟩, hb9⟩ := hres.res
        rw [HINV.out] at h9
        obtain rfl : n9 = k := by have := h9.1; rw [mat_len] at this; omega
        have HB9 := Lib.hid (HBW.out.trans (hb9.mono HBW.out.size))
        obtain ⟨Zi, hZi⟩ : ∃ Zi, mat n9 n9 s.2 = Zi := ⟨_, rfl⟩
        have HZL : Hid (∀ j, j < n9 → (nth Zi j).length = n9) := Lib.hid fun j hj => by rw [← hZi, mat_row hj]; simp
        have HZI : Hid (Gf.invL (Rs.part n9 M lr) = Zi) := Lib.hid (by rw [HINV.out, hZi])
        rw [hZi] at h9
        have HG : Hid (∀ W, Below w9.heap.size w9 W → Bss W a9 n9 c9 Zi) := Lib.hid fun W h => h9.below h
        obtain ⟨Y, hY⟩ : ∃ Y, Rs.tm Zi (Rs.got ls lr) n9 = Y := ⟨_, rfl⟩
        have HY : Hid (Rs.tm (Gf.invL (Rs.part n9 M (Rs.rows n9 ls))) (Rs.got ls (Rs.rows n9 ls)) n9 = Y) := Lib.hid (by rw [HLR.out, HZI.out, hY])
        have HYt : Hid (∀ j y, Gf.sm n9 ((fun y q => Rs.term Zi (Rs.got ls lr) j y q) y) = Y j y) := Lib.hid fun j y => by rw [← hY]; rfl
        have HGT : Hid (∀ q y, q < n9 → at2 (Rs.got ls lr) q y = at2 ls (lr.getD q 0) y) := Lib.hid fun q y hq => by
          unfold at2
          rw [got_rowS (by rw [RL.out]; exact hq)]
        clear hres h9 hb9 hZi hY HPART HVM HX HWA HRT HBW k1
        go_wp2_with fail
        go_loopw [17, 18] (fun p i wr => ∃ (j c : Nat) (a : Option Addr) (bl cp : Nat → Nat), j ≤ n9 ∧ i = .int .i64 j ∧ p = .slice a j c ∧ Below w9.heap.size w9 wr ∧ Mo wr w9.heap.size a j c m bl cp Y) (fun _ i _ => n9 - (intOf i).toNat)
        case atStart => exact ⟨0, 0, none, id, id, Nat.zero_le _, rfl, rfl, Below.refl _ _, Mo.nil _ _ _ _ _ _⟩
        case round =>
          obtain ⟨j, c, a, bl, cp, hj, rfl, rfl, hb, hm⟩ := hrel
          obtain ⟨wj, rfl⟩ : ∃ x, x = wr := ⟨wr, rfl⟩
          have hbw := HB9.out.trans (hb.mono HB9.out.size)
          have k1 := (HC.out _ hbw).k
          by_cases hlt : j < n9
          · obtain ⟨f, hf⟩ : ∃ f : Nat → Nat → UInt8, (fun y q => Rs.term Zi (Rs.got ls lr) j y q) = f := ⟨_, rfl⟩
            have HF : Hid (∀ y q, q < n9 → f y q = Gf.mul (at2 Zi j q) (at2 ls (lr.getD q 0) y)) := Lib.hid fun y q hq => by rw [← hf, ← HGT.out q y hq]; rfl
            have HFY : Hid (∀ y, Gf.sm n9 (f y) = Y j y) := Lib.hid fun y => by rw [← hf]; exact HYt.out j y
            have hrow0 : rowTo (wj.alloc (.cells (madeCells #[.int .u8 0] m) 5)) wj.heap.size 5 m (fun y => .int .u8 (n8 (Gf.sm 0 (f y)))) := rowTo.of_is (World.rowIs_made wj (.int .u8 0) m 5)
            have HR0 := Lib.hid hrow0
            have HM := Lib.hid hm
            have HB := Lib.hid hb
            have HBW := Lib.hid hbw
            have hwz := hb.size
            clear hm hb hbw hrow0 hf
            go_wp2_with fail
            clear k1
            go_loopw [20] (fun i wx => ∃ q : Nat, q ≤ n9 ∧ i = .int .i64 q ∧ Below wj.heap.size wj wx ∧ rowTo wx wj.heap.size 5 m (fun y => .int .u8 (n8 (Gf.sm q (f y))))) (fun i _ => n9 - (intOf i).toNat)
            case atStart => exact ⟨0, Nat.zero_le _, rfl, below_alloc wj _, HR0.out⟩
            case round =>
              clear HR0
              obtain ⟨q, hq, rfl, hbx, hr⟩ := hrel
              obtain ⟨wx, rfl⟩ : ∃ y, y = wr := ⟨wr, rfl⟩
              have hbxw := HBW.out.trans (hbx.mono HBW.out.size)
              have k1 := (HC.out _ hbxw).k
              by_cases hqK : q < n9
              · obtain ⟨x1, o1, z1, y1, p1, q1, d1, d2⟩ := (HG.out _ (HB.out.trans (hbx.mono HB.out.size))).at2 hlt (j := q) (by rw [HZL.out j hlt]; exact hqK)
                rw [HZL.out j hlt] at d1
                have HBX := Lib.hid hbx
                have HBXW := Lib.hid hbxw
                have HRx := Lib.hid hr
                have HFq := Lib.hid (fun y => HF.out y q hqK)
                obtain ⟨g, hg⟩ : ∃ g, at2 Zi j q = g := ⟨_, rfl⟩
                rw [hg] at d2 HFq
                subst q1
                have HGG := Lib.hid hg
                clear hbx hr hbxw hg
                by_cases hz : g = 0
                · subst hz
                  have HR2 : Hid (rowTo wx wj.heap.size 5 m (fun y => .int .u8 (n8 (Gf.sm (q + 1) (f y))))) := Lib.hid (HRx.out.congr (fun y _ => by
                    show _ = Value.int .u8 (n8 (Gf.sm q (f y) ^^^ f y q))
                    rw [HFq.out y, Gf.zero_mul]; simp))
                  go_wp2
                  go_roundw
                  case rel => exact ⟨q + 1, by omega, by go_num, HBX.out, HR2.out⟩
                  case measure => simp [intOf]; omega
                · have tz : (g == 0) = false := by simpa using hz
                  go_wp2_with fail
                  go_loopw [21] (fun i wb => ∃ x : Nat, x ≤ m ∧ i = .int .i64 x ∧ Below wj.heap.size wj wb ∧ rowTo wb wj.heap.size 5 m (fun y => .int .u8 (n8 (Rs.dj f q x y)))) (fun i _ => m - (intOf i).toNat)
                  case atStart => exact ⟨0, Nat.zero_le _, rfl, HBX.out, HRx.out.congr (fun y _ => by rw [dj_zero])⟩
                  case round =>
                    clear k1 d1 d2 HRx HBX HBXW
                    obtain ⟨x, hx, rfl, hbb, hr⟩ := hrel
                    by_cases hxm : x < m
                    · have hbbw := HBW.out.trans (hbb.mono HBW.out.size)
                      have c2 := hr.cell hxm
                      have c3 := hr.frozen x
                      obtain ⟨x3, o3, z3, y3, p3, e3, d1, d2⟩ := (HG.out _ (HB.out.trans (hbb.mono HB.out.size))).at2 hlt (j := q) (by rw [HZL.out j hlt]; exact hqK)
                      rw [HZL.out j hlt] at d1
                      rw [HGG.out] at d2
                      obtain ⟨bL, oL, eL, dL⟩ := (HLI.out _ hbbw).get (show q < nl by omega)
                      rw [HRD.out q hqK] at dL
                      have hrT := (HR.out q hqK)
                      obtain ⟨x2, o2, z2, y2, p2, q2, d3, d4⟩ := (HS.out _ hbbw).at2 hrT.1 (j := x) (by rw [hrT.2]; exact hxm)
                      rw [hrT.2] at d3
                      have hrK := hrT.1
                      have hqn : q < nl := by omega
                      have hrI : ((lr.getD q 0 : Nat) : Int) < (n9 : Int) + (M : Int) := by omega
                      cases e3
                      subst eL q2
                      have HS2 := Lib.hid (dj_step hr)
                      rw [HFq.out x] at HS2
                      generalize Rs.dj f q x x = sv at *
                      generalize lr.getD q 0 = r at *
                      have HBS := Lib.hid (hbb.setCell (Nat.le_refl _) _ : Below wj.heap.size wj (wr.setCell ⟨wj.heap.size, x, none⟩ (.int .u8 (n8 (sv ^^^ Gf.mul g (at2 ls r x))))))
                      clear hbb hr hbbw hrT
                      go_wp2_with fail
                      refine wp_region_still_tail 26 (by kernel_rfl) (by kernel_rfl) ?_
                      simp only [List.take_succ_cons, List.take_zero, List.drop_succ_cons, List.drop_zero]
                      repeat still_step
                      still_call (refmul_q _ _ _)
                      repeat still_step
                      refine wpStill_nil ?_
                      go_wp2
                      go_roundw
                      case rel => exact ⟨x + 1, by omega, by go_num, HBS.out.drew, HS2.out.below (Below.refl _ _).drew⟩
                      case measure => simp [intOf]; omega
                    · obtain rfl : x = m := by omega
                      have HR2 := Lib.hid (hr.congr (fun y hy => by rw [dj_all hy]))
                      have HBX2 := Lib.hid hbb
                      clear hbb hr
                      go_wp2
                      go_roundw
                      case rel => exact ⟨q + 1, by omega, by go_num, HBX2.out, HR2.out⟩
                      case measure => simp [intOf]; omega
              · obtain rfl : q = n9 := by omega
                have hrr : rowTo wx wj.heap.size 5 m (fun y => .int .u8 (n8 (Y j y))) := hr.congr (fun y hy => by rw [HFY.out])
                have HNR := Lib.hid (new_made HM.out hwz (by simp only [maxLen]; omega) hbx hrr)
                clear hr hrr hbx hbxw
                go_wp2_with (at_builtin; refine app_mo rfl _ _ rfl w9.heap.size rfl HNR.out.mo rfl HNR.out.cell HNR.out.cap HNR.out.row (by have := HNR.out.le; omega) HNR.out.ne.1 HNR.out.ne.2 (by omega) (by have := HNR.out.below.size; simp; omega) ?_; intro a' c' w' bl' cp' hm' hb'; have HB10 := Lib.hid ((HB.out.trans (HNR.out.below.mono hwz)).trans (((below_alloc wx _).mono (Nat.le_trans hwz HNR.out.below.size)).trans hb')); have HM10 := Lib.hid hm'; clear hm' hb')
                go_roundw
                case rel => exact ⟨j + 1, c', a', bl', cp', by omega, by go_num, rfl, HB10.out, HM10.out⟩
                case measure => simp [intOf]; omega
          · obtain rfl : j = n9 := by omega
            have HM := Lib.hid (hm.mono HB9.out.size)
            have HB := Lib.hid hbw
            clear hm hb hbw
            go_wp2
            go_ret
            rw [HY.out]
            exact ⟨⟨_, _, _, _, rfl, HM.out⟩, HB.out⟩
end Go.Proofs.Ytppgbapfmijboaa
