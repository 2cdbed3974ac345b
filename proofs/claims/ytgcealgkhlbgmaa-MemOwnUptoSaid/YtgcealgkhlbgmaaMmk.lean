/- The reference's Put. -/
import Derived.Test.YtgcealgkhlbgmaaMmj
namespace Go.Proofs.Ytgcealgkhlbgmaa
open Go.RowKit
set_option linter.unusedVariables false
set_option maxRecDepth 8000

def RPut (w : World) (B rb : Nat) (R : List Nat) (ad : Option Addr) (nd cd : Nat) (ld : List Int) (L : List Ent) (hs : List Nat) (v : Ent) (e : Ending) (w' : World) : Prop :=
  ∃ R', e = .returned (.tuple #[]) ∧ Keep R w w' ∧ (∀ b ∈ R', b ∈ R ∨ w.heap.size ≤ b) ∧ RT w' B rb R' ad nd cd ld (Ent.lay L v) (Ent.layh L hs v (tower ld L.length))
set_option maxHeartbeats 4000000 in
theorem refput_any (B rb : Nat) (R : List Nat) (ad : Option Addr) (nd cd : Nat) (ld : List Int) (L : List Ent) (hs : List Nat) (e : Ent) (a : Option Addr) (c : Nat) (w : World) (h : RT w B rb R ad nd cd ld L hs) (hB : B ≤ w.heap.size) (hv : Bs w a e.val.length c e.val) (hf : e.val.length ≤ 1000000000) (hn : L.length ≤ 100000000) (hso : L.Pairwise Ent.lt) :
    Calls Try.prog 19 #[.pointer (some ⟨rb, 0, none⟩), ev e a c] w (RPut w B rb R ad nd cd ld L hs e.laid) := by
  have HRT := Lib.hid h
  have HV := Lib.hid hv
  have HSO := Lib.hid hso
  clear h hv hso
  unfold ev
  go_enter Try.func19, Try.ntmps19
  go_upto_region 1 with fail
  have hb0 := below_alloc1 w (.cells #[.string (bstr e.key), .int .u64 e.seq, .bool e.gone, .slice a e.val.length c] 30)
  have hx0 := load_box w e a c
  have hf0 : ∀ j, (w.alloc (.cells #[.string (bstr e.key), .int .u64 e.seq, .bool e.gone, .slice a e.val.length c] 30)).frozen? ⟨w.heap.size, j, none⟩ = false := fun j => (frozen?_alloc_cells _ _ _ _).trans (by simp [World.frozen?])
  have hz0 := World.size_alloc w (.cells #[.string (bstr e.key), .int .u64 e.seq, .bool e.gone, .slice a e.val.length c] 30)
  obtain ⟨W0, hW0⟩ : ∃ W0, w.alloc (.cells #[.string (bstr e.key), .int .u64 e.seq, .bool e.gone, .slice a e.val.length c] 30) = W0 := ⟨_, rfl⟩
  rw [hW0] at hb0 hx0 hf0 hz0 ⊢
  clear hW0
  have HV0 := Lib.hid (HV.out.below hb0)
  have x1 := hx0.key
  have x2 := hx0.seq
  have x3 := hx0.gone
  have x4 := hx0.val
  simp only [Nat.zero_add] at x1 x2 x3 x4
  have HX0 := Lib.hid hx0
  have HB0 := Lib.hid hb0
  have HZ0 := Lib.hid hz0
  clear hx0 hb0 hz0 HV
  go_wp2_with fail
  have htw := reftwin_any e a c W0 HV0.out hf
  unfold ev at htw
  refine htw.mono ?_
  clear htw
  rintro en w1 ⟨a1, c1, rfl, ho1, hb1⟩
  have hx1 := HX0.out.below hb1
  have hz1 := hb1.size
  have f1 : ∀ j, w1.frozen? ⟨w.heap.size, j, none⟩ = false := fun j => (hb1.frozen (p := ⟨w.heap.size, j, none⟩) (by have := HZ0.out; show w.heap.size < _; omega)).trans (hf0 j)
  have hk1 : Keep [w.heap.size] w1 (put4 w1 w.heap.size e a1 c1) := (Keep.refl _ _).put4 (.inr ⟨List.mem_singleton.2 rfl, hx1⟩)
  have hx2 : EntAt (put4 w1 w.heap.size e a1 c1) w.heap.size 0 e a1 c1 := put4_at hx1
  have HV2 := Lib.hid (ho1.bs.keep hk1)
  have hbw1 : Below w.heap.size w (put4 w1 w.heap.size e a1 c1) := (HB0.out.trans (hb1.mono HB0.out.size)).trans (hk1.below (fun b hb => by rw [List.mem_singleton.1 hb]; exact Nat.le_refl _) (by have := HZ0.out; omega))
  have HNEW : Hid (∀ x, a1 = some x → w.heap.size ≤ x.block) := Lib.hid fun x hx => by have h1 := (ho1.new x hx).1; have := HZ0.out; omega
  have f2 : ∀ j, (put4 w1 w.heap.size e a1 c1).frozen? ⟨w.heap.size, j, none⟩ = false := fun j => by
    unfold put4
    simp only [World.frozen?_setCell]
    exact f1 j
  have hz2 : w.heap.size < (put4 w1 w.heap.size e a1 c1).heap.size := by
    have h1 := hk1.size
    have := HZ0.out
    omega
  have y1 := hx1.key
  have y2 := hx1.seq
  have y3 := hx1.gone
  have y4 := hx1.val
  simp only [Nat.zero_add] at y1 y2 y3 y4
  have HX2 := Lib.hid hx2
  have HBW1 := Lib.hid hbw1
  have HZ2 := Lib.hid hz2
  have HF2 := Lib.hid f2
  clear x1 x2 x3 x4 hf0 ho1 hb1 hx1 hk1 hx2 hbw1 hz2 f2
  simp only [ev]
  go_upto_region 2 with fail
  have e4 : (((w1.setCell ⟨w.heap.size, 0, none⟩ (.string (bstr e.key))).setCell ⟨w.heap.size, 1, none⟩ (.int .u64 e.seq)).setCell ⟨w.heap.size, 2, none⟩ (.bool e.gone)).setCell ⟨w.heap.size, 3, none⟩ (.slice a1 e.val.length c1) = put4 w1 w.heap.size e a1 c1 := rfl
  rw [e4]
  clear e4
  obtain ⟨W2, hW2⟩ : ∃ W2, put4 w1 w.heap.size e a1 c1 = W2 := ⟨_, rfl⟩
  rw [hW2] at HV2 HX2 HBW1 HZ2 HF2 ⊢
  clear hW2 y1 y2 y3 y4 f1 hz1
  obtain ⟨gg, hgg⟩ : ∃ gg, gg = e.gone := ⟨_, rfl⟩
  have HGG := Lib.hid hgg
  have z3 : W2.cell? ⟨w.heap.size, 2, none⟩ = some (.bool gg) := by rw [hgg]; exact HX2.out.gone
  have z4 : W2.cell? ⟨w.heap.size, 3, none⟩ = some (.slice a1 e.val.length c1) := HX2.out.val
  have hf2 := HF2.out
  clear hgg
  go_upto_if 11 with fail
  go_cut [] (fun wx => Hid (∃ a2 c2, EntAt wx w.heap.size 0 e.laid a2 c2 ∧ Bs wx a2 e.laid.val.length c2 e.laid.val ∧ (∀ x, a2 = some x → w.heap.size ≤ x.block) ∧ Below w.heap.size w wx ∧ w.heap.size < wx.heap.size))
  case first =>
    rcases Bool.eq_false_or_eq_true gg with hgv | hgv
    · have hgv' : e.gone = true := by rw [← HGG.out]; exact hgv
      have hl : Hid (e.laid.val = []) := Lib.hid (by simp [Ent.laid, hgv'])
      have hst : Hid (EntAt (W2.setCell ⟨w.heap.size, 3, none⟩ (.slice none e.laid.val.length 0)) w.heap.size 0 e.laid none 0) := Lib.hid (HX2.out.setVal (e' := e.laid) (a' := none) (c' := 0) rfl rfl rfl)
      rw [hl.out] at hst
      clear hgv'
      subst hgv
      go_wp2
      go_meet
      exact Lib.hid ⟨none, 0, hst.out, by rw [hl.out]; exact Bs.nil _, fun x hx => (by cases hx), HBW1.out.setCell (Nat.le_refl _) _, by rw [World.size_setCell]; exact HZ2.out⟩
    · have hgv' : e.gone = false := by rw [← HGG.out]; exact hgv
      have hl : Hid (e.laid = e) := Lib.hid (by unfold Ent.laid; rw [if_neg (by rw [hgv']; decide)])
      clear hgv'
      subst hgv
      go_wp2
      go_meet
      exact Lib.hid ⟨a1, c1, by rw [hl.out]; exact HX2.out, by rw [hl.out]; exact HV2.out, HNEW.out, HBW1.out, HZ2.out⟩
  case rest =>
    clear z3 z4 hf2 HX2 HV2 HNEW HBW1 HZ2 HF2 HV0 HX0 HB0 HZ0
    obtain ⟨a2, c2, hx, hv2, hnew, hbw, hzc⟩ := hcut.out
    obtain ⟨v, hv⟩ : ∃ v, v = e.laid := ⟨_, rfl⟩
    rw [← hv] at hx hv2
    obtain ⟨aL, cL, aH, cH, g1w, g2w, g3w, g4w, g5, g6, g7, rfl⟩ := HRT.out
    have rlt : rb < w.heap.size := (Array.getElem?_eq_some_iff.1 g1w).1
    have g1 := (hbw.block rb rlt).trans g1w
    have g2 := g2w.below hbw
    have g3 := own_below g3w hbw
    have g4 := g4w.below hbw
    have x1 := hx.key
    have x2 := hx.seq
    have x3 := hx.gone
    have x4 := hx.val
    simp only [Nat.zero_add] at x1 x2 x3 x4
    have c1 := cell_of_row _ _ 1 _ _ _ g1
    simp at c1
    have HG1 := Lib.hid g1
    have HG2 := Lib.hid g2
    have HG3 := Lib.hid g3
    have HG4 := Lib.hid g4
    have HG7 := Lib.hid g7
    have HGW : Hid (∀ g, aL = some ⟨g, 0, none⟩ → g < w.heap.size) := Lib.hid fun g hg => (g2w.new _ hg).2
    have HXC := Lib.hid hx
    have HVC := Lib.hid hv2
    have HNW := Lib.hid hnew
    have HBC := Lib.hid hbw
    have hlen2 := g2.len
    obtain ⟨p, hp⟩ : ∃ p, p = Ent.idx' L v := ⟨_, rfl⟩
    have hpl : p ≤ L.length := by rw [hp]; exact List.findIdx_le_length
    have HLO : Hid (∀ j, j < p → Ent.cmp (nth L j) v = -1) := Lib.hid fun j hj => idx_lt (by rw [← hp]; exact hj)
    have HAT : Hid (p < L.length → ¬ Ent.cmp (nth L p) v = -1) := Lib.hid fun h => by
      have := idx_at (L := L) (v := v) (by rw [← hp]; exact h)
      rwa [← hp] at this
    have HPE := Lib.hid hp
    have HVE := Lib.hid hv
    clear hcut g1w g2w g3w g4w HRT g1 g2 g3 g4 g7 hx hv2 hnew hbw hv hp hlen2
    obtain ⟨wo, hwo⟩ : ∃ wo, wo = wc := ⟨_, rfl⟩
    rw [← hwo] at c1 x1 x2 x3 x4 HG1 HG2 HG3 HG4 HXC HVC HBC hzc ⊢
    clear hwo
    go_wp2_with fail
    go_loopw [4] (fun i wr => ∃ k : Nat, k ≤ p ∧ i = .int .i64 k ∧ Hid (Below wo.heap.size wo wr)) (fun i _ => p - (intOf i).toNat)
    case atStart => exact ⟨0, Nat.zero_le _, rfl, Lib.hid (Below.refl _ _)⟩
    case round =>
      obtain ⟨k, hk, rfl, hbk⟩ := hrel
      have HES := Lib.hid (HG2.out.es.below hbk.out)
      have q1 := cell_later hbk.out c1
      have y1 := cell_later hbk.out x1
      have y2 := cell_later hbk.out x2
      have y3 := cell_later hbk.out x3
      have y4 := cell_later hbk.out x4
      go_upto_region 5 with fail
      go_cut [31] (fun t wx => t = .bool (decide (k < p)) ∧ Hid (Below wr.heap.size wr wx))
      case first =>
        by_cases hkl : k < L.length
        · obtain ⟨bo, oo, ao, co, rfl, heo, hvo⟩ := HES.out.vals hkl
          have p1 := heo.key
          have p2 := heo.seq
          have p3 := heo.gone
          have p4 := heo.val
          have t0 : decide ((k : Int) < (L.length : Int)) = true := decide_eq_true (by omega)
          obtain ⟨zc, hzc⟩ : ∃ zc, zc = Ent.cmp (nth L k) v := ⟨_, rfl⟩
          have HZC := Lib.hid hzc
          have HSM2 : Hid (∀ V : BW wr, Calls Try.prog 9 #[ev (nth L k) ao co, ev v a2 c2] V.w fun e w' => e = .returned (.int .i64 zc) ∧ Below V.w.heap.size V.w w') := Lib.hid fun V => by
            have := refcmp_any (nth L k) v ao a2 co c2 V.w
            rwa [← hzc] at this
          have hzz := Ent.cmp_cases (nth L k) v
          rw [← hzc] at hzz
          clear heo hvo hzc
          refine wp_region_class (w0 := wr) (by kernel_rfl) (by kernel_rfl) (Below.refl _ _) ?_
          replace q1 := BW.cell q1
          replace y1 := BW.cell y1
          replace y2 := BW.cell y2
          replace y3 := BW.cell y3
          replace y4 := BW.cell y4
          replace p1 := BW.cell p1
          replace p2 := BW.cell p2
          replace p3 := BW.cell p3
          replace p4 := BW.cell p4
          repeat (first | go_big_quiet_step ((go_at_call 9; exact calls_class (HSM2.out _))))
          refine wpQuiet_nil ?_
          intro w9 hb9; replace hb9 := BW.of hb9
          clear q1 y1 y2 y3 y4 p1 p2 p3 p4
          go_wp2
          go_meet
          exact ⟨by
            rcases Nat.lt_or_ge k p with h9 | h9
            · have h8 : zc = -1 := by rw [HZC.out]; exact HLO.out k h9
              rw [h8, decide_eq_true h9]; rfl
            · have h7 : k = p := by omega
              have h8 : ¬ zc = -1 := by rw [HZC.out, h7]; exact HAT.out (by omega)
              rw [decide_eq_false (by omega : ¬ k < p)]
              rcases hzz with h | h | h
              · exact absurd h h8
              · rw [h]; rfl
              · rw [h]; rfl, Lib.hid hb9⟩
        · have t0 : decide ((k : Int) < (L.length : Int)) = false := decide_eq_false (by omega)
          refine wp_region_class (w0 := wr) (by kernel_rfl) (by kernel_rfl) (Below.refl _ _) ?_
          replace q1 := BW.cell q1
          repeat (first | go_big_quiet_step (fail))
          refine wpQuiet_nil ?_
          intro w9 hb9; replace hb9 := BW.of hb9
          clear q1 y1 y2 y3 y4
          go_wp2
          go_meet
          exact ⟨by rw [decide_eq_false (by omega : ¬ k < p)], Lib.hid hb9⟩
      case rest =>
        obtain ⟨rfl, hbc2⟩ := hcut
        have HB2 := Lib.hid (hbk.out.trans (hbc2.out.mono hbk.out.size))
        clear q1 y1 y2 y3 y4 HES hbk hbc2
        by_cases hkp : k < p
        · have t1 : decide (k < p) = true := decide_eq_true hkp
          go_wp2
          go_roundw
          case rel => exact ⟨k + 1, by omega, by go_num, HB2⟩
          case measure => simp [intOf]; omega
        · obtain rfl : k = p := by omega
          have t1 : decide (k < k) = false := decide_eq_false hkp
          have HES := Lib.hid (HG2.out.es.below HB2.out)
          have q1 := cell_later HB2.out c1
          have y1 := cell_later HB2.out x1
          have y2 := cell_later HB2.out x2
          have y3 := cell_later HB2.out x3
          have y4 := cell_later HB2.out x4
          clear hkp
          go_upto_region 7 with fail
          obtain ⟨wp, hwp⟩ : ∃ wp, wp = wc := ⟨_, rfl⟩
          rw [← hwp] at HB2 HES q1 y1 y2 y3 y4 ⊢
          clear hwp
          go_cut [52] (fun t wx => t = .bool (decide (Ent.has L v)) ∧ Hid (Below wp.heap.size wp wx))
          case first =>
            have HHAS : Hid (k < L.length → (Ent.cmp (nth L k) v = 0 ↔ Ent.has L v)) := Lib.hid fun h9 => by
              unfold Ent.has
              rw [← HPE.out]
              exact ⟨fun h => ⟨h9, h⟩, fun h => h.2⟩
            have HHN : Hid (¬ k < L.length → ¬ Ent.has L v) := Lib.hid fun h9 h => by
              have h8 := h.1
              rw [← HPE.out] at h8
              exact h9 h8
            by_cases hkl : k < L.length
            · obtain ⟨bo, oo, ao, co, rfl, heo, hvo⟩ := HES.out.vals hkl
              have p1 := heo.key
              have p2 := heo.seq
              have p3 := heo.gone
              have p4 := heo.val
              have t0 : decide ((k : Int) < (L.length : Int)) = true := decide_eq_true (by omega)
              obtain ⟨zc, hzc⟩ : ∃ zc, zc = Ent.cmp (nth L k) v := ⟨_, rfl⟩
              have HZC := Lib.hid hzc
              have HSM2 : Hid (∀ V : BW wp, Calls Try.prog 9 #[ev (nth L k) ao co, ev v a2 c2] V.w fun e w' => e = .returned (.int .i64 zc) ∧ Below V.w.heap.size V.w w') := Lib.hid fun V => by
                have := refcmp_any (nth L k) v ao a2 co c2 V.w
                rwa [← hzc] at this
              have hzz := Ent.cmp_cases (nth L k) v
              rw [← hzc] at hzz
              clear heo hvo hzc
              refine wp_region_class (w0 := wp) (by kernel_rfl) (by kernel_rfl) (Below.refl _ _) ?_
              replace q1 := BW.cell q1
              replace y1 := BW.cell y1
              replace y2 := BW.cell y2
              replace y3 := BW.cell y3
              replace y4 := BW.cell y4
              replace p1 := BW.cell p1
              replace p2 := BW.cell p2
              replace p3 := BW.cell p3
              replace p4 := BW.cell p4
              repeat (first | go_big_quiet_step ((go_at_call 9; exact calls_class (HSM2.out _))))
              refine wpQuiet_nil ?_
              intro w9 hb9; replace hb9 := BW.of hb9
              clear q1 y1 y2 y3 y4 p1 p2 p3 p4
              go_wp2
              go_meet
              exact ⟨by
                have h8 := HHAS.out hkl
                rw [← HZC.out] at h8
                by_cases h0 : zc = 0
                · rw [decide_eq_true (h8.1 h0)]; simp [h0]
                · rw [decide_eq_false (fun h => h0 (h8.2 h))]; simp [h0], Lib.hid hb9⟩
            · have t0 : decide ((k : Int) < (L.length : Int)) = false := decide_eq_false (by omega)
              refine wp_region_class (w0 := wp) (by kernel_rfl) (by kernel_rfl) (Below.refl _ _) ?_
              replace q1 := BW.cell q1
              repeat (first | go_big_quiet_step (fail))
              refine wpQuiet_nil ?_
              intro w9 hb9; replace hb9 := BW.of hb9
              clear q1 y1 y2 y3 y4
              go_wp2
              go_meet
              exact ⟨by rw [decide_eq_false (HHN.out hkl)], Lib.hid hb9⟩
          case rest =>
            obtain ⟨rfl, hbc3⟩ := hcut
            have HB3 := Lib.hid (HB2.out.trans (hbc3.out.mono HB2.out.size))
            clear q1 y1 y2 y3 y4 HES HB2 hbc3
            by_cases hhas : Ent.has L v
            · have t2 : decide (Ent.has L v) = true := decide_eq_true hhas
              have hkl : k < L.length := by
                have h8 := hhas.1
                rwa [← HPE.out] at h8
              have HHAS := Lib.hid hhas
              have hA := HG2.out.below HB3.out
              obtain ⟨cs, hown, _⟩ := hA.row
              obtain ⟨g, rfl, hgB, hgl⟩ := own_form hown (by omega)
              have fg := fun j => (own_frozen hown j).1
              obtain ⟨bo, oo, ao, co, ea, heo, hvo⟩ := hA.es.vals hkl
              cases ea
              have p1 := heo.key
              have p2 := heo.seq
              have p3 := heo.gone
              have p4 := heo.val
              simp only [Nat.zero_add] at p1 p2 p3 p4
              have q1 := cell_later HB3.out c1
              have y1 := cell_later HB3.out x1
              have y2 := cell_later HB3.out x2
              have y3 := cell_later HB3.out x3
              have y4 := cell_later HB3.out x4
              have HA := Lib.hid hA
              have HOWN := Lib.hid hown
              have HEO := Lib.hid heo
              clear hhas hA hown hvo heo
              go_upto_region 8 with fail
              refine wp_region_still_tail 6 (by kernel_rfl) (by kernel_rfl) ?_
              simp only [List.take_succ_cons, List.take_zero, List.drop_succ_cons, List.drop_zero]
              repeat still_step
              refine wpStill_nil ?_
              go_wp2
              have hEa : EntAt wc g (k * 4) (nth L k) ao co := by
                have := HEO.out
                rwa [Nat.zero_add] at this
              have hgsh := (own_frozen HOWN.out 0).2
              have hkp : Keep [g] wc (putAt wc g k v a2 c2) := (Keep.refl _ _).putAt (List.mem_singleton.2 rfl) hEa
              have hrbg : rb ≠ g := fun e => by
                obtain ⟨m, h9⟩ := hgsh
                have h8 := shape_of (HG1.out)
                rw [e] at h8
                have h7 : wc.shape? g = wo.shape? g := shape_same (HB3.out.block g (by rw [← e]; exact (Array.getElem?_eq_some_iff.1 HG1.out).1))
                rw [h7, h8] at h9
                cases h9
              have hS : ∀ b ∈ [g], ∃ t m, wc.shape? b = some (t, m) ∧ t ≠ 3 := fun b hb => by
                rw [List.mem_singleton.1 hb]
                obtain ⟨m, h9⟩ := hgsh
                exact ⟨_, m, h9, by decide⟩
              have hfin : RT (putAt wc g k v a2 c2) B rb (rb :: db (some ⟨g, 0, none⟩)) ad nd cd ld (L.set k v) hs := by
                refine ⟨some ⟨g, 0, none⟩, cL, aH, cH, ?_, ?_, own_apart (own_below HG3.out HB3.out) hkp hS, (HG4.out.below HB3.out).keepB hkp (fun b hb => by rw [List.mem_singleton.1 hb]; exact hgB) HG7.out, g5, by rw [List.length_set]; exact g6, HG7.out, rfl⟩
                · rw [List.length_set, hkp.block rb (by have h1 := HB3.out.size; have h2 := (Array.getElem?_eq_some_iff.1 HG1.out).1; omega) (fun hm => hrbg (List.mem_singleton.1 hm))]
                  exact (HB3.out.block rb (Array.getElem?_eq_some_iff.1 HG1.out).1).trans HG1.out
                · rw [List.length_set]
                  exact HA.out.setE hkl v a2 c2 (HVC.out.below HB3.out) (fun h0 x hx e => by have h1 := HNW.out x hx; have h2 := HGW.out g rfl; omega)
              have hlay : Ent.lay L e.laid = L.set k v := by
                rw [← HVE.out]
                unfold Ent.lay
                rw [if_pos HHAS.out, ← HPE.out]
              have hlayh : Ent.layh L hs e.laid (tower ld L.length) = hs := by
                rw [← HVE.out]
                unfold Ent.layh
                rw [if_pos HHAS.out]
              have hkw : Keep (rb :: db (some ⟨g, 0, none⟩)) w (putAt wc g k v a2 c2).drew :=
                ((((Keep.of_below HBC.out).trans' (Keep.of_below HB3.out) (fun b hb => .inl hb)).trans' hkp (fun b hb => .inl (by rw [List.mem_singleton.1 hb]; exact List.mem_cons_of_mem _ (mem_db.2 ⟨_, rfl, rfl⟩))))).trans (Keep.of_below (Below.refl _ _).drew)
              refine bodyPost_ret (results_none rfl _ _ _) rfl ⟨rb :: db (some ⟨g, 0, none⟩), rfl, hkw, fun b hb => .inl hb, ?_⟩
              rw [hlay, hlayh]
              exact hfin.below (Below.refl _ _).drew
            · have t2 : decide (Ent.has L v) = false := decide_eq_false hhas
              have HHAS := Lib.hid hhas
              have HRC : Hid (RT wc B rb (rb :: db aL) ad nd cd ld L hs) := Lib.hid ⟨aL, cL, aH, cH, (HB3.out.block rb (Array.getElem?_eq_some_iff.1 HG1.out).1).trans HG1.out, HG2.out.below HB3.out, own_below HG3.out HB3.out, HG4.out.below HB3.out, g5, g6, HG7.out, rfl⟩
              clear hhas
              go_wp2_with fail
              refine (reftower_any B rb _ ad nd cd ld L hs wc HRC.out (by omega)).mono ?_
              rintro en w6 ⟨rfl, w5, hb5, rfl⟩
              obtain ⟨h, hh⟩ : ∃ h, h = tower ld L.length := ⟨_, rfl⟩
              rw [← hh]
              have HHE := Lib.hid hh
              have hB5 := HB3.out.trans (hb5.mono HB3.out.size)
              have HB5 := Lib.hid hB5
              have rlo : rb < wo.heap.size := (Array.getElem?_eq_some_iff.1 HG1.out).1
              have hr5 := (hB5.block rb rlo).trans HG1.out
              have hr6 := set_heap (k := 3) (.int .i64 ((L.length + 1 : Nat) : Int)) hr5
              have hk6 : Keep [rb] w5 (w5.setCell ⟨rb, 3, none⟩ (.int .i64 ((L.length + 1 : Nat) : Int))) := (Keep.refl _ _).set (p := ⟨rb, 3, none⟩) _ (.inr ⟨List.mem_singleton.2 rfl, fun n => by rw [cell_of_row _ _ 3 _ _ _ hr5]; exact fun e => by cases e⟩)
              have hrs : ∀ b ∈ [rb], ∃ t m, w5.shape? b = some (t, m) ∧ t = 43 := fun b hb => by rw [List.mem_singleton.1 hb]; exact ⟨_, _, shape_of hr5, rfl⟩
              have hA6 : AccE (w5.setCell ⟨rb, 3, none⟩ (.int .i64 ((L.length + 1 : Nat) : Int))) B aL L.length cL L := by
                obtain ⟨cs, e1, e2⟩ := (HG2.out.below hB5).row
                exact ⟨HG2.out.len, cs, own_apart e1 hk6 (fun b hb => by obtain ⟨t, m, e3, e4⟩ := hrs b hb; exact ⟨t, m, e3, by rw [e4]; decide⟩), fun i hi => by
                  obtain ⟨ai, ci, e3, e4, e5⟩ := e2 i hi
                  exact ⟨ai, ci, e3, e4.keep hk6, e5⟩⟩
              have hH6 : AccH (w5.setCell ⟨rb, 3, none⟩ (.int .i64 ((L.length + 1 : Nat) : Int))) B aH hs.length cH hs := own_apart (own_below HG3.out hB5) hk6 (fun b hb => by obtain ⟨t, m, e3, e4⟩ := hrs b hb; exact ⟨t, m, e3, by rw [e4]; decide⟩)
              have hI6 := (HG4.out.below hB5).keepB hk6 (fun b hb => by rw [List.mem_singleton.1 hb]; exact g5) HG7.out
              have hx6 := (HXC.out.below hB5).keep hk6 (fun hm => by have := List.mem_singleton.1 hm; omega)
              have hv6 := (HVC.out.below hB5).keep hk6
              have hkw6 : Keep (rb :: db aL) w (w5.setCell ⟨rb, 3, none⟩ (.int .i64 ((L.length + 1 : Nat) : Int))) := ((Keep.of_below HBC.out).trans' (Keep.of_below hB5) (fun b hb => .inl hb)).trans' hk6 (fun b hb => .inl (by rw [List.mem_singleton.1 hb]; exact List.mem_cons_self))
              obtain ⟨W6, hW6⟩ : ∃ W6, w5.setCell ⟨rb, 3, none⟩ (.int .i64 ((L.length + 1 : Nat) : Int)) = W6 := ⟨_, rfl⟩
              rw [hW6] at hr6 hA6 hH6 hI6 hx6 hv6 hkw6 ⊢
              have HR6 := Lib.hid hr6
              have HA6 := Lib.hid hA6
              have HH6 := Lib.hid hH6
              have HI6 := Lib.hid hI6
              have HX6 := Lib.hid hx6
              have HV6 := Lib.hid hv6
              have HK6 := Lib.hid hkw6
              have hw6 : w.heap.size < W6.heap.size := Nat.lt_of_lt_of_le (World.block_lt_of_cell? _ _ hx6.key) (Nat.le_refl _)
              have q1 := cell_of_row _ _ 1 _ _ _ hr6
              simp at q1
              have y1 := hx6.key
              have y2 := hx6.seq
              have y3 := hx6.gone
              have y4 := hx6.val
              simp only [Nat.zero_add] at y1 y2 y3 y4
              clear hh hB5 hb5 hr5 hr6 hk6 hrs hA6 hH6 hI6 hx6 hv6 hkw6 hW6 HRC HB3 HG1 HG2 HG3 HG4 HXC HVC
              obtain ⟨csA, hcl, hml, hsrc⟩ := HA6.out.front (hi := k) hpl
              have HSRC := Lib.hid hsrc
              have hLc := HA6.out.cap
              obtain ⟨i0, hi0, _, hz1, _⟩ := info_parts infoE
              have hsl : ∀ W, (Instr.slice 23 (.slice aL L.length cL) none (some (.int .i64 (k : Int))) none).run Try.prog W = .ok (.slice aL k cL) W := fun W => run_slice_h Try.underlying23 hi0 hz1 aL L.length cL rfl (by omega) W
              clear hsrc hi0 hz1
              go_upto_region 10 with fail
              go_cut [6] (fun t wx => ∃ a6 c6, t = .slice a6 (k + 1) c6 ∧ Hid (AccE wx W6.heap.size a6 (k + 1) c6 (L.take k ++ [v])) ∧ Hid (Below W6.heap.size W6 wx))
              case first =>
                refine wp_region_steps [11] 11 11 (by kernel_rfl) (by kernel_rfl) rfl (fun W' => ∃ V : BW W6, W' = V.w) ?_
                refine anyT_pull [1, 2, 3, 5, 4, 6, 8] 11 4 (by intro c a d v w h; cases d <;> exact h) (by kernel_rfl) ⟨⟨W6.drew, (Below.refl _ _).drew⟩, rfl⟩ ?_
                simp only [opsAt, List.filterMap_cons, List.filterMap_nil, List.getElem?_cons_zero, List.getElem?_cons_succ]
                iterate 7
                  apply held_step
                  · rfl
                  · rintro _ ⟨V, rfl⟩
                    have m0 := BW.cell q1 V
                    have m1 := BW.cell y1 V
                    have m2 := BW.cell y2 V
                    have m3 := BW.cell y3 V
                    have m4 := BW.cell y4 V
                    go_simp
                    rfl
                refine held_nil ?_
                have hd0 := ((Below.refl W6.heap.size W6).drew)
                refine anyT_two 0 9 rfl rfl (by kernel_rfl) rfl rfl (fun K hK => ?_) (fun K hK => ?_)
                · go_simp
                  have hba := hd0.alloc (Nat.le_refl _) (.cells #[] 30)
                  refine hK _ _ ⟨⟨_, hba⟩, rfl⟩ ?_
                  clear hK
                  refine anyT_two 7 9 rfl rfl (by kernel_rfl) rfl rfl (fun K hK => ?_) (fun K hK => ?_)
                  · skip
                    have hs7 := HSRC.out (W6.drew.alloc (.cells #[] 30)) (some ⟨W6.heap.size, 0, none⟩) hba (fun y hy => by cases hy; exact Nat.le_refl _)
                    refine app_entsO _ _ rfl W6.heap.size rfl (accE_lit W6.drew) rfl hs7.1 hcl hml hs7.2 (by omega) hba.size ?_
                    intro a7 c7 w7 h7 hb7 _
                    rw [Nat.zero_add, List.nil_append] at h7
                    have hbw7 := hba.trans (hb7.mono (Nat.le_refl _))
                    refine hK _ _ ⟨⟨w7, hbw7⟩, rfl⟩ ?_
                    clear hK
                    refine anyT_one 9 rfl (by kernel_rfl) rfl (fun K hK => ?_)
                    go_simp
                    have hb8 := hbw7.alloc hbw7.size (.cells #[.string (bstr v.key), .int .u64 v.seq, .bool v.gone, .slice a2 v.val.length c2] 30)
                    refine hK _ _ ⟨⟨_, hb8⟩, rfl⟩ ?_
                    clear hK
                    have h7' := h7.below (below_alloc1 w7 (.cells #[.string (bstr v.key), .int .u64 v.seq, .bool v.gone, .slice a2 v.val.length c2] 30))
                    refine anyT_one 10 rfl (by kernel_rfl) rfl (fun K hK => ?_)
                    have hs10 := src_box (aq := a7) HV6.out hb8 (load_box w7 v a2 c2) (fun y hy => (h7'.new y hy).1)
                    refine app_entsO _ _ rfl W6.heap.size rfl h7' rfl hs10.1 (m := 1) rfl (l2 := [v]) rfl hs10.2 (by omega) hb8.size ?_
                    intro a10 c10 w10 h10 hb10 _
                    have hbw10 := hb8.trans (hb10.mono (Nat.le_refl _))
                    refine hK _ _ ⟨⟨w10, hbw10⟩, rfl⟩ ?_
                    clear hK
                    have H10 := Lib.hid h10
                    have HB10 := Lib.hid hbw10
                    refine anyT_done (by kernel_rfl) ?_
                    simp only [opsAt, List.filterMap_cons, List.filterMap_nil, List.getElem?_cons_zero, List.getElem?_cons_succ]
                    go_wp2
                    go_meet
                    exact ⟨a10, c10, rfl, H10, HB10⟩
                  · go_simp
                    have hb8 := hba.alloc hba.size (.cells #[.string (bstr v.key), .int .u64 v.seq, .bool v.gone, .slice a2 v.val.length c2] 30)
                    refine hK _ _ ⟨⟨_, hb8⟩, rfl⟩ ?_
                    clear hK
                    have hbx := load_box (W6.drew.alloc (.cells #[] 30)) v a2 c2
                    rw [World.size_alloc] at hbx
                    refine anyT_one 7 rfl (by kernel_rfl) rfl (fun K hK => ?_)
                    have hs7 := HSRC.out ((W6.drew.alloc (.cells #[] 30)).alloc (.cells #[.string (bstr v.key), .int .u64 v.seq, .bool v.gone, .slice a2 v.val.length c2] 30)) (some ⟨W6.heap.size, 0, none⟩) hb8 (fun y hy => by cases hy; exact Nat.le_refl _)
                    refine app_entsO _ _ rfl W6.heap.size rfl ((accE_lit W6.drew).below (below_alloc1 _ _)) rfl hs7.1 hcl hml hs7.2 (by omega) hb8.size ?_
                    intro a7 c7 w7 h7 hb7 hev7
                    simp only [Nat.zero_add]
                    rw [Nat.zero_add, List.nil_append] at h7
                    have hbx7 := (hbx).evol hev7 (fun x hx e => by cases hx; have e2 : W6.heap.size = W6.heap.size + 1 := e; omega)
                    have hbw7 := hb8.trans (hb7.mono (Nat.le_refl _))
                    refine hK _ _ ⟨⟨w7, hbw7⟩, rfl⟩ ?_
                    clear hK
                    refine anyT_one 10 rfl (by kernel_rfl) rfl (fun K hK => ?_)
                    have hs10 := src_box (aq := a7) HV6.out hbw7 hbx7 (fun y hy => (h7.new y hy).1)
                    refine app_entsO _ _ rfl W6.heap.size rfl h7 rfl hs10.1 (m := 1) rfl (l2 := [v]) rfl hs10.2 (by omega) hbw7.size ?_
                    intro a10 c10 w10 h10 hb10 _
                    have hbw10 := hbw7.trans (hb10.mono (Nat.le_refl _))
                    refine hK _ _ ⟨⟨w10, hbw10⟩, rfl⟩ ?_
                    clear hK
                    have H10 := Lib.hid h10
                    have HB10 := Lib.hid hbw10
                    refine anyT_done (by kernel_rfl) ?_
                    simp only [opsAt, List.filterMap_cons, List.filterMap_nil, List.getElem?_cons_zero, List.getElem?_cons_succ]
                    go_wp2
                    go_meet
                    exact ⟨a10, c10, rfl, H10, HB10⟩
                · go_simp
                  have hba := hd0.alloc (Nat.le_refl _) (.cells #[.string (bstr v.key), .int .u64 v.seq, .bool v.gone, .slice a2 v.val.length c2] 30)
                  refine hK _ _ ⟨⟨_, hba⟩, rfl⟩ ?_
                  clear hK
                  have hbx := load_box W6.drew v a2 c2
                  refine anyT_one 0 rfl (by kernel_rfl) rfl (fun K hK => ?_)
                  go_simp
                  have hb8 := hba.alloc hba.size (.cells #[] 30)
                  refine hK _ _ ⟨⟨_, hb8⟩, rfl⟩ ?_
                  clear hK
                  refine anyT_one 7 rfl (by kernel_rfl) rfl (fun K hK => ?_)
                  have hbx8 := hbx.below (below_alloc1 (W6.drew.alloc (.cells #[.string (bstr v.key), .int .u64 v.seq, .bool v.gone, .slice a2 v.val.length c2] 30)) (.cells #[] 30))
                  have hac0 : AccE ((W6.drew.alloc (.cells #[.string (bstr v.key), .int .u64 v.seq, .bool v.gone, .slice a2 v.val.length c2] 30)).alloc (.cells #[] 30)) W6.heap.size (some ⟨W6.heap.size + 1, 0, none⟩) 0 0 [] := by
                    have h9 := accE_lit (W6.drew.alloc (.cells #[.string (bstr v.key), .int .u64 v.seq, .bool v.gone, .slice a2 v.val.length c2] 30))
                    rw [World.size_alloc] at h9
                    exact h9.mono (Nat.le_succ _)
                  have hs7 := HSRC.out ((W6.drew.alloc (.cells #[.string (bstr v.key), .int .u64 v.seq, .bool v.gone, .slice a2 v.val.length c2] 30)).alloc (.cells #[] 30)) (some ⟨W6.heap.size + 1, 0, none⟩) hb8 (fun y hy => by cases hy; exact Nat.le_succ _)
                  refine app_entsO _ _ rfl W6.heap.size rfl hac0 rfl hs7.1 hcl hml hs7.2 (by omega) hb8.size ?_
                  intro a7 c7 w7 h7 hb7 hev7
                  simp only [Nat.zero_add]
                  rw [Nat.zero_add, List.nil_append] at h7
                  have hbx7 := hbx8.evol hev7 (fun x hx e => by cases hx; have e2 : W6.heap.size + 1 = W6.heap.size := e; omega)
                  have hbw7 := hb8.trans (hb7.mono (Nat.le_refl _))
                  refine hK _ _ ⟨⟨w7, hbw7⟩, rfl⟩ ?_
                  clear hK
                  refine anyT_one 10 rfl (by kernel_rfl) rfl (fun K hK => ?_)
                  have hs10 := src_box (aq := a7) HV6.out hbw7 hbx7 (fun y hy => (h7.new y hy).1)
                  refine app_entsO _ _ rfl W6.heap.size rfl h7 rfl hs10.1 (m := 1) rfl (l2 := [v]) rfl hs10.2 (by omega) hbw7.size ?_
                  intro a10 c10 w10 h10 hb10 _
                  have hbw10 := hbw7.trans (hb10.mono (Nat.le_refl _))
                  refine hK _ _ ⟨⟨w10, hbw10⟩, rfl⟩ ?_
                  clear hK
                  have H10 := Lib.hid h10
                  have HB10 := Lib.hid hbw10
                  refine anyT_done (by kernel_rfl) ?_
                  simp only [opsAt, List.filterMap_cons, List.filterMap_nil, List.getElem?_cons_zero, List.getElem?_cons_succ]
                  go_wp2
                  go_meet
                  exact ⟨a10, c10, rfl, H10, HB10⟩
              case rest =>
                obtain ⟨a6, c6, rfl, h6, hb6⟩ := hcut
                have hw6c := hb6.out.size
                have q1' := cell_later hb6.out q1
                have HR7 := Lib.hid ((hb6.out.block rb (Array.getElem?_eq_some_iff.1 HR6.out).1).trans HR6.out)
                have HA7 := Lib.hid (HA6.out.below hb6.out)
                have HH7 := Lib.hid (own_below HH6.out hb6.out)
                have HI7 := Lib.hid (HI6.out.below hb6.out)
                obtain ⟨csB, hcl2, hml2, hsrc2⟩ := HA6.out.rear (lo := k) hpl
                have HSRC2 := Lib.hid hsrc2
                have hrlt : rb < W6.heap.size := (Array.getElem?_eq_some_iff.1 HR6.out).1
                obtain ⟨i0, hi0, _, hz1, _⟩ := info_parts infoE
                have hsl2 : ∀ W, (Instr.slice 23 (.slice aL L.length cL) (some (.int .i64 (k : Int))) none none).run Try.prog W = .ok (.slice (subAn aL cL k 4) (L.length - k) (cL - k)) W := fun W => run_slice_l Try.underlying23 hi0 hz1 aL L.length cL rfl hpl W
                have f7 : ∀ j, wc.frozen? ⟨rb, j, none⟩ = false := fun j => by simp [World.frozen?, HR7.out]
                clear hi0 hz1 hsrc2 q1 y1 y2 y3 y4 hsl hcl hml HSRC
                have hA7n : ∀ y, a6 = some y → W6.heap.size ≤ y.block := fun y hy => (h6.out.new y hy).1
                have hs11 := HSRC2.out wc a6 hb6.out hA7n
                have hnum : k + 1 + (L.length - k) = L.length + 1 := by omega
                have hLc2 := hLc
                go_upto_region 12 with (at_builtin; refine app_ents rfl _ _ rfl W6.heap.size rfl h6.out rfl hs11.1 hcl2 hml2 hs11.2 (by omega) hw6c ?_; intro a7 c7 w7 h7 hb7 hev7; have hr7 := (hb7.block rb hrlt).trans HR7.out; have c71 := cell_of_row _ _ 1 _ _ _ hr7; have f71 : (∀ j, w7.frozen? ⟨rb, j, none⟩ = false) := (fun j => by simp [World.frozen?, hr7]); simp at c71; have H7 := Lib.hid h7; have HB7 := Lib.hid hb7; have HR71 := Lib.hid hr7; clear h7 hb7 hev7 hr7)
                rw [hnum] at H7
                have HNUM := Lib.hid hnum
                clear hnum
                have hk8 : Keep [rb] w7 (w7.setCell ⟨rb, 1, none⟩ (.slice a7 (L.length + 1) c7)) := (Keep.refl _ _).set (p := ⟨rb, 1, none⟩) _ (.inr ⟨List.mem_singleton.2 rfl, fun n => by rw [c71]; exact fun e => by cases e⟩)
                have hrs8 : ∀ b ∈ [rb], ∃ t m, w7.shape? b = some (t, m) ∧ t = 43 := fun b hb => by rw [List.mem_singleton.1 hb]; exact ⟨_, _, shape_of HR71.out, rfl⟩
                have hbw7 := hb6.out.trans (HB7.out.mono (Nat.le_refl _))
                have hr8 := set_heap (k := 1) (.slice a7 (L.length + 1) c7) HR71.out
                have hA8 : AccE (w7.setCell ⟨rb, 1, none⟩ (.slice a7 (L.length + 1) c7)) W6.heap.size a7 (L.length + 1) c7 (L.take k ++ [v] ++ L.drop k) := by
                  obtain ⟨cs, e1, e2⟩ := H7.out.row
                  exact ⟨H7.out.len, cs, own_apart e1 hk8 (fun b hb => by obtain ⟨t, m, e3, e4⟩ := hrs8 b hb; exact ⟨t, m, e3, by rw [e4]; decide⟩), fun i hi => by
                    obtain ⟨ai, ci, e3, e4, e5⟩ := e2 i hi
                    exact ⟨ai, ci, e3, e4.keep hk8, e5⟩⟩
                have hH8 : AccH (w7.setCell ⟨rb, 1, none⟩ (.slice a7 (L.length + 1) c7)) B aH hs.length cH hs := own_apart (own_below HH6.out hbw7) hk8 (fun b hb => by obtain ⟨t, m, e3, e4⟩ := hrs8 b hb; exact ⟨t, m, e3, by rw [e4]; decide⟩)
                have hI8 := (HI6.out.below hbw7).keepB hk8 (fun b hb => by rw [List.mem_singleton.1 hb]; exact g5) HG7.out
                have hkw8 : Keep (rb :: db aL) w (w7.setCell ⟨rb, 1, none⟩ (.slice a7 (L.length + 1) c7)) := (HK6.out.trans' (Keep.of_below hbw7) (fun b hb => .inl hb)).trans' hk8 (fun b hb => .inl (by rw [List.mem_singleton.1 hb]; exact List.mem_cons_self))
                obtain ⟨W8, hW8⟩ : ∃ W8, w7.setCell ⟨rb, 1, none⟩ (.slice a7 (L.length + 1) c7) = W8 := ⟨_, rfl⟩
                rw [hW8] at hr8 hA8 hH8 hI8 hkw8 ⊢
                have h68 : W6.heap.size ≤ W8.heap.size := by rw [← hW8, World.size_setCell]; exact hbw7.size
                have HR8 := Lib.hid hr8
                have HA8 := Lib.hid hA8
                have HH8 := Lib.hid hH8
                have HI8 := Lib.hid hI8
                have HK8 := Lib.hid hkw8
                have d2 := cell_of_row _ _ 2 _ _ _ hr8
                simp at d2
                have hh12 : k ≤ hs.length := by omega
                have hHc := own_cap hH8
                obtain ⟨hhr1, hhl1⟩ := hH8.front hh12
                obtain ⟨hhr2, hhl2⟩ := hH8.part (lo := k) (hi := hs.length) (mx := cH) hh12 (Nat.le_refl _) (by have := hHc.2.1; omega)
                rw [List.take_of_length_le (Nat.le_refl _)] at hhr2 hhl2
                have hkc : k ≤ cH := by have := hHc.2.1; omega
                have HHR1 := Lib.hid (And.intro hhr1 hhl1)
                have HHR2 := Lib.hid (And.intro hhr2 hhl2)
                have hsn : hs.length ≤ 100000000 := by omega
                have G6 := Lib.hid g6
                obtain ⟨j0, hj0, _, hj1, _⟩ := info_parts infoI
                have hsl3 : ∀ W, (Instr.slice 22 (.slice aH hs.length cH) (some (.int .i64 (k : Int))) none none).run Try.prog W = .ok (.slice (subAn aH cH k 1) (hs.length - k) (cH - k)) W := fun W => run_slice_l Try.underlying22 hj0 hj1 aH hs.length cH rfl hh12 W
                have hsl4 : ∀ W, (Instr.slice 22 (.slice aH hs.length cH) none (some (.int .i64 (k : Int))) none).run Try.prog W = .ok (.slice aH k cH) W := fun W => run_slice_h Try.underlying22 hj0 hj1 aH hs.length cH rfl hkc W
                clear g6 hj0 hj1
                have hrl8 : rb < W8.heap.size := (Array.getElem?_eq_some_iff.1 hr8).1
                clear hhr1 hhl1 hhr2 hhl2 hHc hW8 hk8 hrs8 hbw7 hr8 hA8 hH8 hI8 hkw8
                go_upto_region 13 with (at_builtin; first
                  | (refine app_hs rfl _ _ rfl W8.heap.size rfl (accH_lit W8) rfl (HHR1.out.1.below (below_alloc1 W8 _)) HHR1.out.2 (by omega) (le_alloc (Nat.le_refl _)) ?_; intro a9 c9 w9 h9 hb9 hev9; rw [Nat.zero_add, List.nil_append] at h9; have H9 := Lib.hid h9; have HB9 := Lib.hid ((below_alloc1 W8 _).trans hb9); clear h9 hb9 hev9)
                  | (refine app_hs rfl _ _ rfl W8.heap.size rfl (own_below H9.out (below_alloc1 w9 _)) rfl hv_box (m := 1) rfl (by omega) (le_alloc HB9.out.size) ?_; intro a10 c10 w10 h10 hb10 hev10; have H10 := Lib.hid h10; have HB10 := Lib.hid (HB9.out.trans (((below_alloc1 w9 _).mono HB9.out.size).trans hb10)); clear h10 hb10 hev10))
                have HRR2 := Lib.hid HHR2.out.1
                have h8B : B ≤ W8.heap.size := by omega
                have d10 := cell_of_row _ _ 2 _ _ _ ((HB10.out.block rb hrl8).trans HR8.out)
                simp at d10
                have hwW6 : w.heap.size ≤ W6.heap.size := Nat.le_of_lt hw6
                have HN2 : Hid (k + 1 + (hs.length - k) = hs.length + 1) := Lib.hid (by omega)
                go_wp2_with (at_builtin; refine app_hs rfl _ _ rfl W8.heap.size rfl H10.out rfl (HRR2.out.below HB10.out) HHR2.out.2 (by omega) HB10.out.size ?_; intro a11 c11 w11 h11 hb11 hev11; have hbw11 := HB10.out.trans hb11; have hr11 := (hbw11.block rb hrl8).trans HR8.out; have c112 := cell_of_row _ _ 2 _ _ _ hr11; have f11 : (∀ j, w11.frozen? ⟨rb, j, none⟩ = false) := (fun j => by simp [World.frozen?, hr11]); simp at c112; have H11 := Lib.hid h11; have HB11 := Lib.hid hbw11; have HR11 := Lib.hid hr11; clear h11 hb11 hev11 hbw11 hr11)
                have hk12 : Keep [rb] w11 (w11.setCell ⟨rb, 2, none⟩ (.slice a11 (k + 1 + (hs.length - k)) c11)) := (Keep.refl _ _).set (p := ⟨rb, 2, none⟩) _ (.inr ⟨List.mem_singleton.2 rfl, fun n => by rw [c112]; exact fun e => by cases e⟩)
                have hrs12 : ∀ b ∈ [rb], ∃ t m, w11.shape? b = some (t, m) ∧ t = 43 := fun b hb => by rw [List.mem_singleton.1 hb]; exact ⟨_, _, shape_of HR11.out, rfl⟩
                have hr12 := set_heap (k := 2) (.slice a11 (k + 1 + (hs.length - k)) c11) HR11.out
                have hlay : Ent.lay L e.laid = L.take k ++ [v] ++ L.drop k := by
                  rw [← HVE.out]
                  unfold Ent.lay
                  rw [if_neg HHAS.out, ← HPE.out]
                  simp
                have hlayh : Ent.layh L hs e.laid (tower ld L.length) = hs.take k ++ [h] ++ hs.drop k := by
                  rw [← HVE.out, ← HHE.out]
                  unfold Ent.layh
                  rw [if_neg HHAS.out, ← HPE.out]
                  simp
                have hl1 : (Ent.lay L e.laid).length = L.length + 1 := by rw [hlay]; simp; omega
                have hl2 : (Ent.layh L hs e.laid (tower ld L.length)).length = hs.length + 1 := by rw [hlayh]; simp; omega
                have hA12 : AccE (w11.setCell ⟨rb, 2, none⟩ (.slice a11 (k + 1 + (hs.length - k)) c11)) W6.heap.size a7 (L.length + 1) c7 (L.take k ++ [v] ++ L.drop k) := by
                  obtain ⟨cs, e1, e2⟩ := (HA8.out.below HB11.out).row
                  exact ⟨HA8.out.len, cs, own_apart e1 hk12 (fun b hb => by obtain ⟨t, m, e3, e4⟩ := hrs12 b hb; exact ⟨t, m, e3, by rw [e4]; decide⟩), fun i hi => by
                    obtain ⟨ai, ci, e3, e4, e5⟩ := e2 i hi
                    exact ⟨ai, ci, e3, e4.keep hk12, e5⟩⟩
                have hH12 : AccH (w11.setCell ⟨rb, 2, none⟩ (.slice a11 (k + 1 + (hs.length - k)) c11)) W8.heap.size a11 (k + 1 + (hs.length - k)) c11 (hs.take k ++ [h] ++ hs.drop k) := own_apart H11.out hk12 (fun b hb => by obtain ⟨t, m, e3, e4⟩ := hrs12 b hb; exact ⟨t, m, e3, by rw [e4]; decide⟩)
                refine bodyPost_ret (results_none rfl _ _ _) rfl ⟨rb :: db a7, rfl, ?_, fun b hb => ?_, ?_⟩
                · exact ((HK8.out.trans' (Keep.of_below HB11.out) (fun b hb => .inl hb)).trans' hk12 (fun b hb => .inl (by rw [List.mem_singleton.1 hb]; exact List.mem_cons_self)))
                · rcases List.mem_cons.1 hb with e1 | e1
                  · exact .inl (by rw [e1]; exact List.mem_cons_self)
                  · obtain ⟨y, hy, rfl⟩ := mem_db.1 e1
                    exact .inr (Nat.le_trans hwW6 (HA8.out.new y hy).1)
                · refine ⟨a7, c7, a11, c11, ?_, ?_, ?_, (HI8.out.below HB11.out).keepB hk12 (fun b hb => by rw [List.mem_singleton.1 hb]; exact g5) HG7.out, g5, by rw [hl1, hl2, G6.out], HG7.out, rfl⟩
                  · rw [hr12, hl1, hl2, HN2.out]
                    rfl
                  · rw [hl1, hlay]
                    exact hA12.mono (by omega)
                  · rw [hl2, hlayh]
                    rw [HN2.out] at hH12 ⊢
                    exact own_mono hH12 h8B
end Go.Proofs.Ytgcealgkhlbgmaa
