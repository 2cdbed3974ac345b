/- The reference's versions: Apply of one edit. -/
import Derived.Test.YtlipgaefflecaaaZCaH
set_option linter.unusedVariables false
set_option linter.unusedSimpArgs false
set_option maxRecDepth 100000
set_option linter.unusedVariables false
set_option linter.unusedSimpArgs false
namespace Go.Proofs.Ytlipgaefflecaaa
open Go.RowKit

theorem AccT.ne {w : World} {B n c b n' c' : Nat} {x : Addr} {a' : Option Addr} {sq nx wl : Int} {l : List Tab} (h : AccT w B (some x) n c l) (hv : VBox w b a' n' c' sq nx wl) : x.block ≠ b := by
  rcases h.2.2 with ⟨h1, _⟩ | ⟨g, cap, cur, h1, h2, h3, _⟩
  · cases h1
  · cases h1
    rintro rfl
    rw [hv.blk] at h3
    cases h3
theorem acct_vput {w : World} {B n c b n' c' n2 c2 : Nat} {a a' a2 : Option Addr} {sq nx wl sq' nx' wl' : Int} {l : List Tab} (h : AccT w B a n c l) (hv : VBox w b a' n' c' sq' nx' wl') : AccT (vset w b a2 n2 c2 sq nx wl) B a n c l :=
  ⟨h.1, own_oth h.2 (((((Oth.refl (some ⟨b, 0, none⟩) w).set rfl (p := ⟨b, 0, none⟩) rfl _).set rfl (p := ⟨b, 1, none⟩) rfl _).set rfl (p := ⟨b, 2, none⟩) rfl _).set rfl (p := ⟨b, 3, none⟩) rfl _) (fun x y hx hy => by
    subst hy
    cases hx
    exact (h.ne hv).symm)⟩
theorem VBox.evol {w w' : World} {b n c : Nat} {a : Option Addr} {sq nx wl : Int} (h : VBox w b a n c sq nx wl) {ao ao' : Option Addr} (k : Evol w ao w' ao') (hne : ∀ x, ao = some x → x.block ≠ b) : VBox w' b a n c sq nx wl :=
  ⟨(k.1.block b h.lt (fun e => by
    cases ao with
    | none => cases e
    | some x => exact hne x rfl (by simpa using e.symm))).trans h.blk⟩
/-- An edit in cells. -/
structure EdAt (w : World) (b o : Nat) (aA : Option Addr) (nA cA : Nat) (aD : Option Addr) (nD cD : Nat) : Prop where
  c0 : w.cell? ⟨b, o, none⟩ = some (.slice aA nA cA)
  c1 : w.cell? ⟨b, o + 1, none⟩ = some (.slice aD nD cD)
  c2 : w.cell? ⟨b, o + 2, none⟩ = some (.int .u64 0)
  c3 : w.cell? ⟨b, o + 3, none⟩ = some (.int .i64 0)
  c4 : w.cell? ⟨b, o + 4, none⟩ = some (.int .i64 0)
theorem EdAt.below {w w' : World} {b o : Nat} {aA : Option Addr} {nA cA : Nat} {aD : Option Addr} {nD cD : Nat} (h : EdAt w b o aA nA cA aD nD cD) (hb : Below w.heap.size w w') : EdAt w' b o aA nA cA aD nD cD := ⟨cell_later hb h.c0, cell_later hb h.c1, cell_later hb h.c2, cell_later hb h.c3, cell_later hb h.c4⟩
set_option maxHeartbeats 3000000 in
theorem apply_any (a : Option Addr) (n c : Nat) (l : List Tab) (sq nx wl : Int) (aA : Option Addr) (nA cA : Nat) (A : List Tab) (aD : Option Addr) (nD cD : Nat) (D : List Int) (be oe ce : Nat) (w : World) (h : Ts w a n c l) (hA : Ts w aA nA cA A) (hD : Zs w aD nD cD D) (hE : EdAt w be oe aA nA cA aD nD cD) (hF : Ca.Fits l A D) (hce : 1 ≤ ce ∧ ce ≤ 1000) :
    Calls Try.prog 8 #[vv a n c sq nx wl, .slice (some ⟨be, oe, none⟩) 1 ce] w fun e w' => ∃ a' n' c' L, e = .returned (.tuple #[vv a' n' c' sq nx wl, .int .i64 0]) ∧ AccT w' w.heap.size a' n' c' L ∧ L.Perm (A ++ dropF l D) ∧ Below w.heap.size w w' := by
  have HTS : Hid (∀ W, Below w.heap.size w W → Ts W a n c l) := Lib.hid fun W k => h.below k
  have HA : Hid (∀ W, Below w.heap.size w W → Ts W aA nA cA A) := Lib.hid fun W k => hA.below k
  have HD : Hid (∀ W, Below w.heap.size w W → Zs W aD nD cD D) := Lib.hid fun W k => hD.below k
  have HED : Hid (∀ W, Below w.heap.size w W → EdAt W be oe aA nA cA aD nD cD) := Lib.hid fun W k => hE.below k
  have HF := Lib.hid hF
  have hle := h.le
  have hln : n ≤ 1000 := by rw [← h.1]; exact hF.len
  clear h hA hD hE hF
  have hvb := VBox.new w a n c sq nx wl
  have hbv := below_alloc1 w (.cells #[.slice a n c, .int .u64 sq, .int .i64 nx, .int .i64 wl] 31)
  have hrb := VBox.new (w.alloc (.cells #[.slice a n c, .int .u64 sq, .int .i64 nx, .int .i64 wl] 31)) none 0 0 0 0 0
  have hbr := below_alloc1 (w.alloc (.cells #[.slice a n c, .int .u64 sq, .int .i64 nx, .int .i64 wl] 31)) (.cells #[.slice none 0 0, .int .u64 0, .int .i64 0, .int .i64 0] 31)
  rw [World.size_alloc] at hrb
  obtain ⟨w0, hw0⟩ : ∃ w0, (w.alloc (.cells #[.slice a n c, .int .u64 sq, .int .i64 nx, .int .i64 wl] 31)).alloc (.cells #[.slice none 0 0, .int .u64 0, .int .i64 0, .int .i64 0] 31) = w0 := ⟨_, rfl⟩
  rw [hw0] at hrb hbr
  have hv0 := hvb.below hbr hvb.lt
  have HB0 : Hid (Below w.heap.size w w0) := Lib.hid (hbv.trans (hbr.mono hbv.size))
  have HV0 := Lib.hid hv0
  have HR0 := Lib.hid hrb
  obtain ⟨v0, v1, v2, v3, _⟩ := hv0.cells
  have HVV := Lib.hid (And.intro v0 (And.intro v1 (And.intro v2 v3)))
  clear hvb hbv hrb hbr hv0 v0 v1 v2 v3
  unfold vv
  go_enter Try.func8, Try.ntmps8
  go_upto_region 1 with fail
  clear hw0
  refine wp_region_steps [12] 12 12 (by kernel_rfl) (by kernel_rfl) rfl (fun W' => ∃ V : BW w0, W' = V.w) ?_
  have HBD : Hid (Below w0.heap.size w0 w0.drew) := Lib.hid (Below.refl _ _).drew
  generalize w0.drew = wD at *
  refine anyT_pull [1, 2, 4, 5, 6, 7, 8, 9] 12 4 (by intro c a d v w h; cases d <;> exact h) (by kernel_rfl) ⟨⟨_, HBD.out⟩, rfl⟩ ?_
  simp only [opsAt, List.filterMap_cons, List.filterMap_nil, List.getElem?_cons_zero, List.getElem?_cons_succ]
  iterate 8
    apply held_step
    · kernel_rfl
    · rintro _ ⟨V, rfl⟩
      obtain ⟨v0, v1, v2, v3⟩ := HVV.out
      have q0 := cell_later V.b v0
      have q1 := cell_later V.b v1
      have q2 := cell_later V.b v2
      have q3 := cell_later V.b v3
      go_simp
      rfl
  refine held_nil ?_
  apply anyT_two 0 11
  · rfl
  · rfl
  · kernel_rfl
  · kernel_rfl
  · kernel_rfl
  · intro K' hK
    go_simp
    have HBE := Lib.hid (HBD.out.trans ((below_alloc1 wD (.cells #[] 39)).mono HBD.out.size))
    have hszz : (wD.alloc (.cells #[] 39)).heap.size = wD.heap.size + 1 := World.size_alloc _ _
    have HAE := Lib.hid ((acct_lit0 wD).mono HBD.out.size)
    refine hK _ _ ⟨⟨_, HBE.out⟩, rfl⟩ ?_
    clear hK
    generalize wD.alloc (.cells #[] 39) = wE at *
    generalize wD.heap.size = gz at *
    apply anyT_two 3 11
    · rfl
    · rfl
    · kernel_rfl
    · kernel_rfl
    · kernel_rfl
    · intro K' hK
      refine step_app_te _ _ rfl w0.heap.size rfl HAE.out rfl (HTS.out wE (HB0.out.trans (HBE.out.mono HB0.out.size))) (by omega) HBE.out.size ?_
      intro a4 c4 wG h4 hb4 hev
      simp only [Nat.zero_add, List.nil_append] at h4 ⊢
      have HBG := Lib.hid (HBE.out.trans hb4)
      have HAG := Lib.hid h4
      refine hK _ _ ⟨⟨_, HBG.out⟩, rfl⟩ ?_
      clear hK h4 hb4 hev
      refine anyT_pull [10] 12 1 (by intro c a d v w h; cases d <;> exact h) (by kernel_rfl) ⟨⟨_, HBG.out⟩, rfl⟩ ?_
      simp only [opsAt, List.filterMap_cons, List.filterMap_nil, List.getElem?_cons_zero, List.getElem?_cons_succ]
      apply held_step
      · kernel_rfl
      · rintro _ ⟨V, rfl⟩
        go_simp
        rfl
      refine held_nil ?_
      apply anyT_one 11
      · rfl
      · kernel_rfl
      · kernel_rfl
      intro K' hK
      go_simp
      have HBI := Lib.hid (HBG.out.trans ((below_alloc1 wG (.cells #[.slice none 0 0, .int .u64 0, .int .i64 0, .int .i64 0] 31)).mono HBG.out.size))
      have hszo : (wG.alloc (.cells #[.slice none 0 0, .int .u64 0, .int .i64 0, .int .i64 0] 31)).heap.size = wG.heap.size + 1 := World.size_alloc _ _
      have HAG2 := Lib.hid (HAG.out.below (below_alloc1 wG (.cells #[.slice none 0 0, .int .u64 0, .int .i64 0, .int .i64 0] 31)))
      have HVO := Lib.hid (VBox.new wG none 0 0 0 0 0)
      have HGO : Hid (w0.heap.size ≤ wG.heap.size) := Lib.hid HBG.out.size
      refine hK _ _ ⟨⟨_, HBI.out⟩, rfl⟩ ?_
      clear hK
      generalize wG.alloc (.cells #[.slice none 0 0, .int .u64 0, .int .i64 0, .int .i64 0] 31) = wI at *
      generalize wG.heap.size = go at *
      refine anyT_done (by kernel_rfl) ?_
      simp only [opsAt, List.filterMap_cons, List.filterMap_nil, List.getElem?_cons_zero, List.getElem?_cons_succ]
      obtain ⟨r0, r1, r2, r3, rf⟩ := HVO.out.cells
      have HVP := Lib.hid (HVO.out.put (a' := a4) (n' := n) (c' := c4) (sq' := sq) (nx' := nx) (wl' := wl))
      have HAP := Lib.hid (acct_vput (b := go) (a2 := a4) (n2 := n) (c2 := c4) (sq := sq) (nx := nx) (wl := wl) HAG2.out HVO.out)
      have HBP := Lib.hid (vset_below (b := go) (a := a4) (n := n) (c := c4) (sq := sq) (nx := nx) (wl := wl) HBI.out HGO.out)
      obtain ⟨wS, hwS⟩ : ∃ wS, vset wI go a4 n c4 sq nx wl = wS := ⟨_, rfl⟩
      rw [hwS] at HVP HAP HBP
      unfold vset at hwS
      go_upto_region 2 with fail
      try rw [hwS]
      clear hwS r0 r1 r2 r3 rf
      go_wp2_with fail
      go_loopw [7] (fun iv wr => ∃ (a' : Option Addr) (n' c' : Nat) (L : List Tab), Hid (VBox wr go a' n' c' sq nx wl) ∧ Hid (AccT wr w0.heap.size a' n' c' L) ∧ Hid (Below w0.heap.size w0 wr) ∧ ((iv = .int .i64 0 ∧ Hid (L = l ∧ n' = n)) ∨ (iv = .int .i64 1 ∧ Hid (L.Perm (A ++ dropF l D))))) (fun iv _ => 1 - (intOf iv).toNat)
      case atStart => exact ⟨a4, n, c4, l, HVP, HAP, HBP, .inl ⟨rfl, Lib.hid ⟨rfl, rfl⟩⟩⟩
      case round =>
        obtain ⟨a', n', c', L, HV, HL, HB, hst⟩ := hrel
        rcases hst with ⟨rfl, HS⟩ | ⟨rfl, HS⟩
        · obtain ⟨hS1, hS2⟩ := HS.out
          have HBI1 := Lib.hid (HB0.out.trans (HB.out.mono HB0.out.size))
          have HONE : Hid (∀ W, Below wr.heap.size wr W → Calls Try.prog 15 #[vv a' n' c' sq nx wl, edv aA nA cA aD nD cD] W fun e w' => ∃ a'' n'' c'' L', e = .returned (.tuple #[vv a'' n'' c'' sq nx wl, .int .i64 0]) ∧ AccT w' W.heap.size a'' n'' c'' L' ∧ L'.Perm (A ++ dropF l D) ∧ Below W.heap.size W w') := Lib.hid fun W k => by
            have kw := HBI1.out.trans (k.mono HBI1.out.size)
            have h1 := HL.out.ts.below k
            rw [hS1] at h1
            exact one_any a' n' c' l sq nx wl aA nA cA A aD nD cD D W h1 (HA.out W kw) (HD.out W kw) HF.out
          unfold vv edv at HONE
          clear hS1 hS2
          go_upto_region 6 with fail
          refine wp_region_steps [10] 10 10 (by kernel_rfl) (by kernel_rfl) rfl (fun W' => ∃ V : BW w0, W' = V.w) ?_
          have HBX : Hid (Below wr.heap.size wr wr.drew) := Lib.hid (Below.refl _ _).drew
          generalize wr.drew = wX at *
          have HBX0 := Lib.hid (HB.out.trans (HBX.out.mono HB.out.size))
          refine anyT_pull [1, 2, 3, 4] 10 6 (by intro c a d v w h; cases d <;> exact h) (by kernel_rfl) ⟨⟨_, HBX0.out⟩, rfl⟩ ?_
          simp only [opsAt, List.filterMap_cons, List.filterMap_nil, List.getElem?_cons_zero, List.getElem?_cons_succ]
          iterate 4
            apply held_step
            · kernel_rfl
            · rintro _ ⟨V, rfl⟩
              have ge := HED.out V.w (HB0.out.trans (V.b.mono HB0.out.size))
              have e0 := ge.c0
              have e1 := ge.c1
              have e2 := ge.c2
              have e3 := ge.c3
              have e4 := ge.c4
              go_simp
              rfl
          refine held_nil ?_
          apply anyT_one 0
          · rfl
          · kernel_rfl
          · kernel_rfl
          intro K' hK
          obtain ⟨r0, r1, r2, r3, _⟩ := (HV.out.below HBX.out HV.out.lt).cells
          go_simp
          clear r0 r1 r2 r3
          refine hK _ _ ⟨⟨_, HBX0.out⟩, rfl⟩ ?_
          clear hK
          apply anyT_one 5
          · rfl
          · kernel_rfl
          · kernel_rfl
          intro K' hK
          go_simp
          refine (HONE.out wX HBX.out).mono ?_
          clear HONE
          rintro e wC ⟨a5, n5, c5, L5, rfl, h5, hp5, hb5⟩
          have HBC := Lib.hid (HBX.out.trans (hb5.mono HBX.out.size))
          have HAC := Lib.hid (h5.mono (Nat.le_trans HB.out.size HBX.out.size))
          have HP5 := Lib.hid hp5
          have HBC0 := Lib.hid (HB.out.trans (HBC.out.mono HB.out.size))
          refine hK _ _ ⟨⟨_, HBC0.out⟩, rfl⟩ ?_
          clear hK hb5 h5 hp5
          refine anyT_pull [6, 7, 8] 10 1 (by intro c a d v w h; cases d <;> exact h) (by kernel_rfl) ⟨⟨_, HBC0.out⟩, rfl⟩ ?_
          simp only [opsAt, List.filterMap_cons, List.filterMap_nil, List.getElem?_cons_zero, List.getElem?_cons_succ]
          iterate 3
            apply held_step
            · kernel_rfl
            · rintro _ ⟨V, rfl⟩
              go_simp
              rfl
          refine held_nil ?_
          have HVC : Hid (VBox wC go a' n' c' sq nx wl) := Lib.hid (HV.out.below HBC.out HV.out.lt)
          obtain ⟨r0, r1, r2, r3, rf⟩ := HVC.out.cells
          have HVP2 := Lib.hid (HVC.out.put (a' := a5) (n' := n5) (c' := c5) (sq' := sq) (nx' := nx) (wl' := wl))
          have HAP2 := Lib.hid (acct_vput (b := go) (a2 := a5) (n2 := n5) (c2 := c5) (sq := sq) (nx := nx) (wl := wl) HAC.out HVC.out)
          have HBP2 := Lib.hid (vset_below (b := go) (a := a5) (n := n5) (c := c5) (sq := sq) (nx := nx) (wl := wl) (HB.out.trans (HBC.out.mono HB.out.size)) HGO.out)
          obtain ⟨wT, hwT⟩ : ∃ wT, vset wC go a5 n5 c5 sq nx wl = wT := ⟨_, rfl⟩
          rw [hwT] at HVP2 HAP2 HBP2
          unfold vset at hwT
          apply anyT_one 9
          · rfl
          · kernel_rfl
          · kernel_rfl
          intro K' hK
          go_simp
          try rw [hwT]
          refine hK _ _ ⟨⟨_, HBP2.out⟩, rfl⟩ ?_
          refine anyT_done (by kernel_rfl) ?_
          simp only [opsAt, List.filterMap_cons, List.filterMap_nil, List.getElem?_cons_zero, List.getElem?_cons_succ]
          go_upto_region 7 with fail
          clear hwT r0 r1 r2 r3 rf
          go_wp2_with fail
          go_roundw
          case rel => exact ⟨a5, n5, c5, L5, HVP2, HAP2, HBP2, .inr ⟨rfl, HP5⟩⟩
          case measure => simp [intOf]
        · have HR : Hid (VBox wr (w.heap.size + 1) none 0 0 0 0 0) := Lib.hid (HR0.out.below HB.out HR0.out.lt)
          obtain ⟨p0, p1, p2, p3, _⟩ := HV.out.cells
          obtain ⟨r0, r1, r2, r3, rf⟩ := HR.out.cells
          have HQ : Hid (VBox (vset wr (w.heap.size + 1) a' n' c' sq nx wl) (w.heap.size + 1) a' n' c' sq nx wl) := Lib.hid HR.out.put
          have HNEW := Lib.hid (acct_vput (b := w.heap.size + 1) (a2 := a') (n2 := n') (c2 := c') (sq := sq) (nx := nx) (wl := wl) HL.out HR.out)
          have HBE := Lib.hid (vset_below (b := w.heap.size + 1) (a := a') (n := n') (c := c') (sq := sq) (nx := nx) (wl := wl) (HB0.out.trans (HB.out.mono HB0.out.size)) (by omega))
          go_wp2
          obtain ⟨q0, q1, q2, q3, _⟩ := HQ.out.cells
          unfold vset at q0 q1 q2 q3 HNEW HBE
          exact bodyPost_ret (v := .tuple #[.agg #[.slice a' n' c', .int .u64 sq, .int .i64 nx, .int .i64 wl], .int .i64 0]) (by simp [results, Try.results8, go_sem, q0, q1, q2, q3]) rfl ⟨a', n', c', L, rfl, HNEW.out.mono HB0.out.size, HS.out, HBE.out⟩
    · intro K' hK
      go_simp
      have HBF := Lib.hid (HBE.out.trans ((below_alloc1 wE (.cells #[.slice none 0 0, .int .u64 0, .int .i64 0, .int .i64 0] 31)).mono HBE.out.size))
      have hszo : (wE.alloc (.cells #[.slice none 0 0, .int .u64 0, .int .i64 0, .int .i64 0] 31)).heap.size = wE.heap.size + 1 := World.size_alloc _ _
      have HAE2 := Lib.hid (HAE.out.below (below_alloc1 wE (.cells #[.slice none 0 0, .int .u64 0, .int .i64 0, .int .i64 0] 31)))
      have HVO := Lib.hid (VBox.new wE none 0 0 0 0 0)
      have HGO : Hid (w0.heap.size ≤ wE.heap.size) := Lib.hid HBE.out.size
      refine hK _ _ ⟨⟨_, HBF.out⟩, rfl⟩ ?_
      clear hK
      generalize wE.alloc (.cells #[.slice none 0 0, .int .u64 0, .int .i64 0, .int .i64 0] 31) = wF at *
      generalize wE.heap.size = go at *
      subst hszz
      generalize gz + 1 = go at *
      apply anyT_one 3
      · rfl
      · kernel_rfl
      · kernel_rfl
      intro K' hK
      refine step_app_te _ _ rfl w0.heap.size rfl HAE2.out rfl (HTS.out wF (HB0.out.trans (HBF.out.mono HB0.out.size))) (by omega) HBF.out.size ?_
      intro a4 c4 wG h4 hb4 hev
      simp only [Nat.zero_add, List.nil_append] at h4 ⊢
      have HBG := Lib.hid (HBF.out.trans hb4)
      have HAG := Lib.hid h4
      have HVO2 := Lib.hid (HVO.out.evol hev (fun x hx => by cases hx; exact HAE2.out.ne HVO.out))
      refine hK _ _ ⟨⟨_, HBG.out⟩, rfl⟩ ?_
      clear hK h4 hb4 hev
      refine anyT_pull [10] 12 0 (by intro c a d v w h; cases d <;> exact h) (by kernel_rfl) ⟨⟨_, HBG.out⟩, rfl⟩ ?_
      simp only [opsAt, List.filterMap_cons, List.filterMap_nil, List.getElem?_cons_zero, List.getElem?_cons_succ]
      apply held_step
      · kernel_rfl
      · rintro _ ⟨V, rfl⟩
        go_simp
        rfl
      refine held_nil ?_
      refine anyT_done (by kernel_rfl) ?_
      simp only [opsAt, List.filterMap_cons, List.filterMap_nil, List.getElem?_cons_zero, List.getElem?_cons_succ]
      obtain ⟨r0, r1, r2, r3, rf⟩ := HVO2.out.cells
      have HVP := Lib.hid (HVO2.out.put (a' := a4) (n' := n) (c' := c4) (sq' := sq) (nx' := nx) (wl' := wl))
      have HAP := Lib.hid (acct_vput (b := go) (a2 := a4) (n2 := n) (c2 := c4) (sq := sq) (nx := nx) (wl := wl) HAG.out HVO2.out)
      have HBP := Lib.hid (vset_below (b := go) (a := a4) (n := n) (c := c4) (sq := sq) (nx := nx) (wl := wl) HBG.out HGO.out)
      obtain ⟨wS, hwS⟩ : ∃ wS, vset wG go a4 n c4 sq nx wl = wS := ⟨_, rfl⟩
      rw [hwS] at HVP HAP HBP
      unfold vset at hwS
      go_upto_region 2 with fail
      try rw [hwS]
      clear hwS r0 r1 r2 r3 rf
      go_wp2_with fail
      go_loopw [7] (fun iv wr => ∃ (a' : Option Addr) (n' c' : Nat) (L : List Tab), Hid (VBox wr go a' n' c' sq nx wl) ∧ Hid (AccT wr w0.heap.size a' n' c' L) ∧ Hid (Below w0.heap.size w0 wr) ∧ ((iv = .int .i64 0 ∧ Hid (L = l ∧ n' = n)) ∨ (iv = .int .i64 1 ∧ Hid (L.Perm (A ++ dropF l D))))) (fun iv _ => 1 - (intOf iv).toNat)
      case atStart => exact ⟨a4, n, c4, l, HVP, HAP, HBP, .inl ⟨rfl, Lib.hid ⟨rfl, rfl⟩⟩⟩
      case round =>
        obtain ⟨a', n', c', L, HV, HL, HB, hst⟩ := hrel
        rcases hst with ⟨rfl, HS⟩ | ⟨rfl, HS⟩
        · obtain ⟨hS1, hS2⟩ := HS.out
          have HBG1 := Lib.hid (HB0.out.trans (HB.out.mono HB0.out.size))
          have HONE : Hid (∀ W, Below wr.heap.size wr W → Calls Try.prog 15 #[vv a' n' c' sq nx wl, edv aA nA cA aD nD cD] W fun e w' => ∃ a'' n'' c'' L', e = .returned (.tuple #[vv a'' n'' c'' sq nx wl, .int .i64 0]) ∧ AccT w' W.heap.size a'' n'' c'' L' ∧ L'.Perm (A ++ dropF l D) ∧ Below W.heap.size W w') := Lib.hid fun W k => by
            have kw := HBG1.out.trans (k.mono HBG1.out.size)
            have h1 := HL.out.ts.below k
            rw [hS1] at h1
            exact one_any a' n' c' l sq nx wl aA nA cA A aD nD cD D W h1 (HA.out W kw) (HD.out W kw) HF.out
          unfold vv edv at HONE
          clear hS1 hS2
          go_upto_region 6 with fail
          refine wp_region_steps [10] 10 10 (by kernel_rfl) (by kernel_rfl) rfl (fun W' => ∃ V : BW w0, W' = V.w) ?_
          have HBX : Hid (Below wr.heap.size wr wr.drew) := Lib.hid (Below.refl _ _).drew
          generalize wr.drew = wX at *
          have HBX0 := Lib.hid (HB.out.trans (HBX.out.mono HB.out.size))
          refine anyT_pull [1, 2, 3, 4] 10 6 (by intro c a d v w h; cases d <;> exact h) (by kernel_rfl) ⟨⟨_, HBX0.out⟩, rfl⟩ ?_
          simp only [opsAt, List.filterMap_cons, List.filterMap_nil, List.getElem?_cons_zero, List.getElem?_cons_succ]
          iterate 4
            apply held_step
            · kernel_rfl
            · rintro _ ⟨V, rfl⟩
              have ge := HED.out V.w (HB0.out.trans (V.b.mono HB0.out.size))
              have e0 := ge.c0
              have e1 := ge.c1
              have e2 := ge.c2
              have e3 := ge.c3
              have e4 := ge.c4
              go_simp
              rfl
          refine held_nil ?_
          apply anyT_one 0
          · rfl
          · kernel_rfl
          · kernel_rfl
          intro K' hK
          obtain ⟨r0, r1, r2, r3, _⟩ := (HV.out.below HBX.out HV.out.lt).cells
          go_simp
          clear r0 r1 r2 r3
          refine hK _ _ ⟨⟨_, HBX0.out⟩, rfl⟩ ?_
          clear hK
          apply anyT_one 5
          · rfl
          · kernel_rfl
          · kernel_rfl
          intro K' hK
          go_simp
          refine (HONE.out wX HBX.out).mono ?_
          clear HONE
          rintro e wC ⟨a5, n5, c5, L5, rfl, h5, hp5, hb5⟩
          have HBC := Lib.hid (HBX.out.trans (hb5.mono HBX.out.size))
          have HAC := Lib.hid (h5.mono (Nat.le_trans HB.out.size HBX.out.size))
          have HP5 := Lib.hid hp5
          have HBC0 := Lib.hid (HB.out.trans (HBC.out.mono HB.out.size))
          refine hK _ _ ⟨⟨_, HBC0.out⟩, rfl⟩ ?_
          clear hK hb5 h5 hp5
          refine anyT_pull [6, 7, 8] 10 1 (by intro c a d v w h; cases d <;> exact h) (by kernel_rfl) ⟨⟨_, HBC0.out⟩, rfl⟩ ?_
          simp only [opsAt, List.filterMap_cons, List.filterMap_nil, List.getElem?_cons_zero, List.getElem?_cons_succ]
          iterate 3
            apply held_step
            · kernel_rfl
            · rintro _ ⟨V, rfl⟩
              go_simp
              rfl
          refine held_nil ?_
          have HVC : Hid (VBox wC go a' n' c' sq nx wl) := Lib.hid (HV.out.below HBC.out HV.out.lt)
          obtain ⟨r0, r1, r2, r3, rf⟩ := HVC.out.cells
          have HVP2 := Lib.hid (HVC.out.put (a' := a5) (n' := n5) (c' := c5) (sq' := sq) (nx' := nx) (wl' := wl))
          have HAP2 := Lib.hid (acct_vput (b := go) (a2 := a5) (n2 := n5) (c2 := c5) (sq := sq) (nx := nx) (wl := wl) HAC.out HVC.out)
          have HBP2 := Lib.hid (vset_below (b := go) (a := a5) (n := n5) (c := c5) (sq := sq) (nx := nx) (wl := wl) (HB.out.trans (HBC.out.mono HB.out.size)) HGO.out)
          obtain ⟨wT, hwT⟩ : ∃ wT, vset wC go a5 n5 c5 sq nx wl = wT := ⟨_, rfl⟩
          rw [hwT] at HVP2 HAP2 HBP2
          unfold vset at hwT
          apply anyT_one 9
          · rfl
          · kernel_rfl
          · kernel_rfl
          intro K' hK
          go_simp
          try rw [hwT]
          refine hK _ _ ⟨⟨_, HBP2.out⟩, rfl⟩ ?_
          refine anyT_done (by kernel_rfl) ?_
          simp only [opsAt, List.filterMap_cons, List.filterMap_nil, List.getElem?_cons_zero, List.getElem?_cons_succ]
          go_upto_region 7 with fail
          clear hwT r0 r1 r2 r3 rf
          go_wp2_with fail
          go_roundw
          case rel => exact ⟨a5, n5, c5, L5, HVP2, HAP2, HBP2, .inr ⟨rfl, HP5⟩⟩
          case measure => simp [intOf]
        · have HR : Hid (VBox wr (w.heap.size + 1) none 0 0 0 0 0) := Lib.hid (HR0.out.below HB.out HR0.out.lt)
          obtain ⟨p0, p1, p2, p3, _⟩ := HV.out.cells
          obtain ⟨r0, r1, r2, r3, rf⟩ := HR.out.cells
          have HQ : Hid (VBox (vset wr (w.heap.size + 1) a' n' c' sq nx wl) (w.heap.size + 1) a' n' c' sq nx wl) := Lib.hid HR.out.put
          have HNEW := Lib.hid (acct_vput (b := w.heap.size + 1) (a2 := a') (n2 := n') (c2 := c') (sq := sq) (nx := nx) (wl := wl) HL.out HR.out)
          have HBE := Lib.hid (vset_below (b := w.heap.size + 1) (a := a') (n := n') (c := c') (sq := sq) (nx := nx) (wl := wl) (HB0.out.trans (HB.out.mono HB0.out.size)) (by omega))
          go_wp2
          obtain ⟨q0, q1, q2, q3, _⟩ := HQ.out.cells
          unfold vset at q0 q1 q2 q3 HNEW HBE
          exact bodyPost_ret (v := .tuple #[.agg #[.slice a' n' c', .int .u64 sq, .int .i64 nx, .int .i64 wl], .int .i64 0]) (by simp [results, Try.results8, go_sem, q0, q1, q2, q3]) rfl ⟨a', n', c', L, rfl, HNEW.out.mono HB0.out.size, HS.out, HBE.out⟩
  · intro K' hK
    go_simp
    have HBE := Lib.hid (HBD.out.trans ((below_alloc1 wD (.cells #[.slice none 0 0, .int .u64 0, .int .i64 0, .int .i64 0] 31)).mono HBD.out.size))
    have hszo : (wD.alloc (.cells #[.slice none 0 0, .int .u64 0, .int .i64 0, .int .i64 0] 31)).heap.size = wD.heap.size + 1 := World.size_alloc _ _
    have HVO := Lib.hid (VBox.new wD none 0 0 0 0 0)
    have HGO : Hid (w0.heap.size ≤ wD.heap.size) := Lib.hid HBD.out.size
    refine hK _ _ ⟨⟨_, HBE.out⟩, rfl⟩ ?_
    clear hK
    generalize wD.alloc (.cells #[.slice none 0 0, .int .u64 0, .int .i64 0, .int .i64 0] 31) = wE at *
    generalize wD.heap.size = go at *
    apply anyT_one 0
    · rfl
    · kernel_rfl
    · kernel_rfl
    intro K' hK
    go_simp
    have HBF := Lib.hid (HBE.out.trans ((below_alloc1 wE (.cells #[] 39)).mono HBE.out.size))
    have hszz : (wE.alloc (.cells #[] 39)).heap.size = wE.heap.size + 1 := World.size_alloc _ _
    have HAE := Lib.hid ((acct_lit0 wE).mono HBE.out.size)
    have HVO1 := Lib.hid (HVO.out.below (below_alloc1 wE (.cells #[] 39)) HVO.out.lt)
    refine hK _ _ ⟨⟨_, HBF.out⟩, rfl⟩ ?_
    clear hK
    generalize wE.alloc (.cells #[] 39) = wF at *
    generalize wE.heap.size = gz at *
    subst hszo
    generalize go + 1 = gz at *
    apply anyT_one 3
    · rfl
    · kernel_rfl
    · kernel_rfl
    intro K' hK
    refine step_app_te _ _ rfl w0.heap.size rfl HAE.out rfl (HTS.out wF (HB0.out.trans (HBF.out.mono HB0.out.size))) (by omega) HBF.out.size ?_
    intro a4 c4 wG h4 hb4 hev
    simp only [Nat.zero_add, List.nil_append] at h4 ⊢
    have HBG := Lib.hid (HBF.out.trans hb4)
    have HAG := Lib.hid h4
    have HVO2 := Lib.hid (HVO1.out.evol hev (fun x hx => by cases hx; exact HAE.out.ne HVO1.out))
    refine hK _ _ ⟨⟨_, HBG.out⟩, rfl⟩ ?_
    clear hK h4 hb4 hev
    refine anyT_pull [10] 12 0 (by intro c a d v w h; cases d <;> exact h) (by kernel_rfl) ⟨⟨_, HBG.out⟩, rfl⟩ ?_
    simp only [opsAt, List.filterMap_cons, List.filterMap_nil, List.getElem?_cons_zero, List.getElem?_cons_succ]
    apply held_step
    · kernel_rfl
    · rintro _ ⟨V, rfl⟩
      go_simp
      rfl
    refine held_nil ?_
    refine anyT_done (by kernel_rfl) ?_
    simp only [opsAt, List.filterMap_cons, List.filterMap_nil, List.getElem?_cons_zero, List.getElem?_cons_succ]
    obtain ⟨r0, r1, r2, r3, rf⟩ := HVO2.out.cells
    have HVP := Lib.hid (HVO2.out.put (a' := a4) (n' := n) (c' := c4) (sq' := sq) (nx' := nx) (wl' := wl))
    have HAP := Lib.hid (acct_vput (b := go) (a2 := a4) (n2 := n) (c2 := c4) (sq := sq) (nx := nx) (wl := wl) HAG.out HVO2.out)
    have HBP := Lib.hid (vset_below (b := go) (a := a4) (n := n) (c := c4) (sq := sq) (nx := nx) (wl := wl) HBG.out HGO.out)
    obtain ⟨wS, hwS⟩ : ∃ wS, vset wG go a4 n c4 sq nx wl = wS := ⟨_, rfl⟩
    rw [hwS] at HVP HAP HBP
    unfold vset at hwS
    go_upto_region 2 with fail
    try rw [hwS]
    clear hwS r0 r1 r2 r3 rf
    go_wp2_with fail
    go_loopw [7] (fun iv wr => ∃ (a' : Option Addr) (n' c' : Nat) (L : List Tab), Hid (VBox wr go a' n' c' sq nx wl) ∧ Hid (AccT wr w0.heap.size a' n' c' L) ∧ Hid (Below w0.heap.size w0 wr) ∧ ((iv = .int .i64 0 ∧ Hid (L = l ∧ n' = n)) ∨ (iv = .int .i64 1 ∧ Hid (L.Perm (A ++ dropF l D))))) (fun iv _ => 1 - (intOf iv).toNat)
    case atStart => exact ⟨a4, n, c4, l, HVP, HAP, HBP, .inl ⟨rfl, Lib.hid ⟨rfl, rfl⟩⟩⟩
    case round =>
      obtain ⟨a', n', c', L, HV, HL, HB, hst⟩ := hrel
      rcases hst with ⟨rfl, HS⟩ | ⟨rfl, HS⟩
      · obtain ⟨hS1, hS2⟩ := HS.out
        have HBG1 := Lib.hid (HB0.out.trans (HB.out.mono HB0.out.size))
        have HONE : Hid (∀ W, Below wr.heap.size wr W → Calls Try.prog 15 #[vv a' n' c' sq nx wl, edv aA nA cA aD nD cD] W fun e w' => ∃ a'' n'' c'' L', e = .returned (.tuple #[vv a'' n'' c'' sq nx wl, .int .i64 0]) ∧ AccT w' W.heap.size a'' n'' c'' L' ∧ L'.Perm (A ++ dropF l D) ∧ Below W.heap.size W w') := Lib.hid fun W k => by
          have kw := HBG1.out.trans (k.mono HBG1.out.size)
          have h1 := HL.out.ts.below k
          rw [hS1] at h1
          exact one_any a' n' c' l sq nx wl aA nA cA A aD nD cD D W h1 (HA.out W kw) (HD.out W kw) HF.out
        unfold vv edv at HONE
        clear hS1 hS2
        go_upto_region 6 with fail
        refine wp_region_steps [10] 10 10 (by kernel_rfl) (by kernel_rfl) rfl (fun W' => ∃ V : BW w0, W' = V.w) ?_
        have HBX : Hid (Below wr.heap.size wr wr.drew) := Lib.hid (Below.refl _ _).drew
        generalize wr.drew = wX at *
        have HBX0 := Lib.hid (HB.out.trans (HBX.out.mono HB.out.size))
        refine anyT_pull [1, 2, 3, 4] 10 6 (by intro c a d v w h; cases d <;> exact h) (by kernel_rfl) ⟨⟨_, HBX0.out⟩, rfl⟩ ?_
        simp only [opsAt, List.filterMap_cons, List.filterMap_nil, List.getElem?_cons_zero, List.getElem?_cons_succ]
        iterate 4
          apply held_step
          · kernel_rfl
          · rintro _ ⟨V, rfl⟩
            have ge := HED.out V.w (HB0.out.trans (V.b.mono HB0.out.size))
            have e0 := ge.c0
            have e1 := ge.c1
            have e2 := ge.c2
            have e3 := ge.c3
            have e4 := ge.c4
            go_simp
            rfl
        refine held_nil ?_
        apply anyT_one 0
        · rfl
        · kernel_rfl
        · kernel_rfl
        intro K' hK
        obtain ⟨r0, r1, r2, r3, _⟩ := (HV.out.below HBX.out HV.out.lt).cells
        go_simp
        clear r0 r1 r2 r3
        refine hK _ _ ⟨⟨_, HBX0.out⟩, rfl⟩ ?_
        clear hK
        apply anyT_one 5
        · rfl
        · kernel_rfl
        · kernel_rfl
        intro K' hK
        go_simp
        refine (HONE.out wX HBX.out).mono ?_
        clear HONE
        rintro e wC ⟨a5, n5, c5, L5, rfl, h5, hp5, hb5⟩
        have HBC := Lib.hid (HBX.out.trans (hb5.mono HBX.out.size))
        have HAC := Lib.hid (h5.mono (Nat.le_trans HB.out.size HBX.out.size))
        have HP5 := Lib.hid hp5
        have HBC0 := Lib.hid (HB.out.trans (HBC.out.mono HB.out.size))
        refine hK _ _ ⟨⟨_, HBC0.out⟩, rfl⟩ ?_
        clear hK hb5 h5 hp5
        refine anyT_pull [6, 7, 8] 10 1 (by intro c a d v w h; cases d <;> exact h) (by kernel_rfl) ⟨⟨_, HBC0.out⟩, rfl⟩ ?_
        simp only [opsAt, List.filterMap_cons, List.filterMap_nil, List.getElem?_cons_zero, List.getElem?_cons_succ]
        iterate 3
          apply held_step
          · kernel_rfl
          · rintro _ ⟨V, rfl⟩
            go_simp
            rfl
        refine held_nil ?_
        have HVC : Hid (VBox wC go a' n' c' sq nx wl) := Lib.hid (HV.out.below HBC.out HV.out.lt)
        obtain ⟨r0, r1, r2, r3, rf⟩ := HVC.out.cells
        have HVP2 := Lib.hid (HVC.out.put (a' := a5) (n' := n5) (c' := c5) (sq' := sq) (nx' := nx) (wl' := wl))
        have HAP2 := Lib.hid (acct_vput (b := go) (a2 := a5) (n2 := n5) (c2 := c5) (sq := sq) (nx := nx) (wl := wl) HAC.out HVC.out)
        have HBP2 := Lib.hid (vset_below (b := go) (a := a5) (n := n5) (c := c5) (sq := sq) (nx := nx) (wl := wl) (HB.out.trans (HBC.out.mono HB.out.size)) HGO.out)
        obtain ⟨wT, hwT⟩ : ∃ wT, vset wC go a5 n5 c5 sq nx wl = wT := ⟨_, rfl⟩
        rw [hwT] at HVP2 HAP2 HBP2
        unfold vset at hwT
        apply anyT_one 9
        · rfl
        · kernel_rfl
        · kernel_rfl
        intro K' hK
        go_simp
        try rw [hwT]
        refine hK _ _ ⟨⟨_, HBP2.out⟩, rfl⟩ ?_
        refine anyT_done (by kernel_rfl) ?_
        simp only [opsAt, List.filterMap_cons, List.filterMap_nil, List.getElem?_cons_zero, List.getElem?_cons_succ]
        go_upto_region 7 with fail
        clear hwT r0 r1 r2 r3 rf
        go_wp2_with fail
        go_roundw
        case rel => exact ⟨a5, n5, c5, L5, HVP2, HAP2, HBP2, .inr ⟨rfl, HP5⟩⟩
        case measure => simp [intOf]
      · have HR : Hid (VBox wr (w.heap.size + 1) none 0 0 0 0 0) := Lib.hid (HR0.out.below HB.out HR0.out.lt)
        obtain ⟨p0, p1, p2, p3, _⟩ := HV.out.cells
        obtain ⟨r0, r1, r2, r3, rf⟩ := HR.out.cells
        have HQ : Hid (VBox (vset wr (w.heap.size + 1) a' n' c' sq nx wl) (w.heap.size + 1) a' n' c' sq nx wl) := Lib.hid HR.out.put
        have HNEW := Lib.hid (acct_vput (b := w.heap.size + 1) (a2 := a') (n2 := n') (c2 := c') (sq := sq) (nx := nx) (wl := wl) HL.out HR.out)
        have HBE := Lib.hid (vset_below (b := w.heap.size + 1) (a := a') (n := n') (c := c') (sq := sq) (nx := nx) (wl := wl) (HB0.out.trans (HB.out.mono HB0.out.size)) (by omega))
        go_wp2
        obtain ⟨q0, q1, q2, q3, _⟩ := HQ.out.cells
        unfold vset at q0 q1 q2 q3 HNEW HBE
        exact bodyPost_ret (v := .tuple #[.agg #[.slice a' n' c', .int .u64 sq, .int .i64 nx, .int .i64 wl], .int .i64 0]) (by simp [results, Try.results8, go_sem, q0, q1, q2, q3]) rfl ⟨a', n', c', L, rfl, HNEW.out.mono HB0.out.size, HS.out, HBE.out⟩
end Go.Proofs.Ytlipgaefflecaaa
