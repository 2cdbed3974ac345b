/- MasterHolds. -/
import Derived.Test.YtincllchoflpmaaMsN
namespace Go.Proofs.Ytincllchoflpmaa
open Go.RowKit
set_option linter.unusedVariables false

/-- Where a loop over commands stands: a configuration in its box. -/
def HoldI (w W : World) (B b3 : Nat) (c : Cf) : Prop := ∃ ac cc ast cs, CfAt W b3 c ac cc ast cs ∧ CfO W B c ac cc ast cs ∧ (∀ j, W.frozen? ⟨b3, j, none⟩ = false) ∧ Below w.heap.size w W ∧ B ≤ W.heap.size ∧ b3 < W.heap.size
theorem CfAt.later {w w' : World} {n b : Nat} {c : Cf} {ac ast : Option Addr} {cc cs : Nat} (h : CfAt w b c ac cc ast cs) (hb : Below n w w') (hn : b < n) : CfAt w' b c ac cc ast cs :=
  ⟨(hb.cell (p := ⟨b, 0, none⟩) hn).trans h.epoch, (hb.cell (p := ⟨b, 1, none⟩) hn).trans h.chain, (hb.cell (p := ⟨b, 2, none⟩) hn).trans h.stores⟩
theorem HoldI.below {w W W' : World} {B b3 : Nat} {c : Cf} (h : HoldI w W B b3 c) (hb : Below W.heap.size W W') : HoldI w W' B b3 c := by
  obtain ⟨ac, cc, ast, cs, h1, h2, h3, h4, h5, h6⟩ := h
  exact ⟨ac, cc, ast, cs, h1.below hb, h2.below hb, fun j => (hb.frozen (p := ⟨b3, j, none⟩) h6).trans (h3 j), h4.trans (hb.mono h4.size), Nat.le_trans h5 hb.size, Nat.lt_of_lt_of_le h6 hb.size⟩
theorem HoldI.cset {w W : World} {B b3 : Nat} {c d : Cf} {a7 a8 : Option Addr} {c7 c8 : Nat} (h : HoldI w W B b3 c) (hlo : w.heap.size ≤ b3) (hB : b3 < B) (ho : CfO W B d a7 c7 a8 c8) : HoldI w (cset W b3 d a7 c7 a8 c8) B b3 d := by
  obtain ⟨ac, cc, ast, cs, h1, h2, h3, h4, h5, h6⟩ := h
  have hz : (Go.Proofs.Ytincllchoflpmaa.cset W b3 d a7 c7 a8 c8).heap.size = W.heap.size := by unfold Go.Proofs.Ytincllchoflpmaa.cset; simp
  exact ⟨a7, c7, a8, c8, cset_at h1, cset_low ho hB, fun j => by unfold Go.Proofs.Ytincllchoflpmaa.cset; simp [h3], cset_below h4 hlo, by rw [hz]; exact h5, by rw [hz]; exact h6⟩
def HoldR (w W : World) (b3 : Nat) (c : Cf) (ac : Option Addr) (cc : Nat) (ast : Option Addr) (cs : Nat) : Prop := CfAt W b3 c ac cc ast cs ∧ CfR W c ac cc ast cs
theorem rank_place (c : Cf) (n : Int) : (if c.place n < 0 then ((c.chain.length : Nat) : Int) else c.place n) = (c.rank n : Nat) := by
  rw [place_at]
  unfold Cf.rank
  by_cases h : Ms.at c.chain n < c.chain.length
  · rw [if_pos h, if_neg (by omega)]
  · rw [if_neg h, if_pos (by decide)]
    have := Ms.at_le c.chain n
    omega

set_option maxRecDepth 8000 in
set_option maxHeartbeats 10000000 in
theorem masterHolds_walk (a : Option Addr) (n cp : Nat) (l : List Cm) (w : World) (hl : Xs w a n cp l) :
    Calls Try.prog 5 #[.slice a n cp] w fun e w' => e = .returned (.bool true) ∧ Below w.heap.size w w' := by
  have HL := Lib.hid hl
  have hle := hl.le.1
  have HNL := Lib.hid hl.1
  have HKN := Lib.hid (known_any w)
  clear hl
  go_enter Try.func5, Try.ntmps5
  go_wp2_with fail
  refine HKN.out.mono ?_
  rintro e w1 ⟨rfl, hb⟩
  have HB1 := Lib.hid hb
  clear hb HKN
  by_cases hbig : 1000 < n
  · have t : decide ((1000 : Int) < (n : Int)) = true := decide_eq_true (by omega)
    clear hbig
    go_wp2
    go_ret
    exact ⟨rfl, HB1.out⟩
  have t : decide ((1000 : Int) < (n : Int)) = false := decide_eq_false (by omega)
  clear hbig
  go_upto_region 6 with fail
  have hc := cf_box w1 Ms.zero none 0 none 0
  have hb2 := below_alloc1 w1 (.cells #[.int .i64 0, .slice none 0 0, .slice none 0 0] 41)
  have hz2 := World.size_alloc w1 (.cells #[.int .i64 0, .slice none 0 0, .slice none 0 0] 41)
  have hf2 : ∀ j, (w1.alloc (.cells #[.int .i64 0, .slice none 0 0, .slice none 0 0] 41)).frozen? ⟨w1.heap.size, j, none⟩ = false := fun j => (frozen?_alloc_cells _ _ _ _).trans (by simp [World.frozen?])
  have hc' : CfAt (w1.alloc (.cells #[.int .i64 0, .slice none 0 0, .slice none 0 0] 41)) w1.heap.size Ms.zero none 0 none 0 := hc
  obtain ⟨W2, hW2⟩ : ∃ W2, w1.alloc (.cells #[.int .i64 0, .slice none 0 0, .slice none 0 0] 41) = W2 := ⟨_, rfl⟩
  obtain ⟨b3, hb3⟩ : ∃ b, b = w1.heap.size := ⟨_, rfl⟩
  rw [hW2] at hc' hb2 hz2 hf2 ⊢
  rw [← hb3] at hc' hz2 hf2 ⊢
  obtain ⟨B, hB⟩ : ∃ B, B = W2.heap.size := ⟨_, rfl⟩
  have HP : Hid (w.heap.size ≤ b3 ∧ b3 < B) := Lib.hid ⟨by rw [hb3]; exact HB1.out.size, by omega⟩
  have HI0 : Hid (HoldI w W2 B b3 (Ms.zero.run (l.take 0))) := Lib.hid ⟨none, 0, none, 0, hc', ⟨AccM.nil _ _, AccI.nil _ _⟩, hf2, HB1.out.trans (hb2.mono HB1.out.size), by omega, by omega⟩
  clear hc hc' hb2 hz2 hf2 hW2 hb3 hB HB1 t
  go_wp2_with fail
  go_loopw [4] (fun i wr => ∃ k : Nat, k ≤ n ∧ i = .int .i64 k ∧ Hid (HoldI w wr B b3 (Ms.zero.run (l.take k)))) (fun i _ => n - (intOf i).toNat)
  case atStart => exact ⟨0, Nat.zero_le _, rfl, HI0⟩
  case round =>
    obtain ⟨k, hk, rfl, hI⟩ := hrel
    by_cases hlt : k < n
    case neg =>
      obtain rfl : k = n := by omega
      obtain ⟨_, _, _, _, _, _, _, hbz, _⟩ := hI.out
      have HBZ := Lib.hid hbz
      clear hbz hI
      go_wp2
      go_ret
      exact ⟨rfl, HBZ.out⟩
    obtain ⟨W, hW⟩ : ∃ W, W = wr := ⟨_, rfl⟩
    subst hW
    have hIo := hI.out
    obtain ⟨ac, cc, ast, cs, hcf, hco, hfz, hbz, hBz, hbl⟩ := hIo
    obtain ⟨b, off, rfl, hat⟩ := (HL.out.below hbz).get hlt
    have HSN : Hid (Ms.zero.run (l.take (k + 1)) = (Ms.zero.run (l.take k)).next (nth l k)) := Lib.hid (by
      rw [List.take_succ_eq_append_getElem (by rw [HNL.out]; exact hlt), Cf.run_snoc, nth_eq _ (by rw [HNL.out]; exact hlt)])
    have HOK : Hid ((Ms.zero.run (l.take k)).Ok) := Lib.hid (Cf.run_ok Ms.zero_ok _)
    obtain ⟨x, hx⟩ : ∃ x, x = nth l k := ⟨_, rfl⟩
    obtain ⟨c, hck⟩ : ∃ c, c = Ms.zero.run (l.take k) := ⟨_, rfl⟩
    rw [← hx] at hat HSN
    rw [← hck] at hcf hco HSN HOK hI
    have p0 := hcf.epoch
    have p1 := hcf.chain
    have p2 := hcf.stores
    have m1 := hat.kind
    have m2 := hat.node
    have m3 := hat.birth
    have m4 := hat.epoch
    obtain ⟨d, hd⟩ : ∃ d, d = (c.step x).1 := ⟨_, rfl⟩
    obtain ⟨er, her⟩ : ∃ er, er = (c.step x).2 := ⟨_, rfl⟩
    have HD := Lib.hid (And.intro hd her)
    have HDO : Hid (∀ V : BW W, Calls Try.prog 18 #[.agg #[.int .i64 c.epoch, .slice ac c.chain.length cc, .slice ast c.stores.length cs], .agg #[.int .i64 x.kind, .int .i64 x.node, .int .i64 x.birth, .int .i64 x.epoch]] V.w (DoP V.w (d, er))) := Lib.hid fun V => by
      have := do_any c ac ast cc cs x V.w ((CfO.r hco).below V.b) HOK.out.few
      rw [show c.step x = (d, er) by rw [hd, her]] at this
      exact this
    have HAT := Lib.hid hat
    have HBZ := Lib.hid hBz
    have HCF := Lib.hid (And.intro hcf (And.intro hco hbz))
    clear hx hck hd her hcf hco hfz hbz hBz hbl hat
    go_upto_region 9 with fail
    go_cut [5, 6] (fun p t wx => ∃ g a7 c7 a8 c8, p = .pointer (some ⟨g, 0, none⟩) ∧ t = .int .i64 er ∧ Hid (W.heap.size ≤ g ∧ g < wx.heap.size ∧ CfAt wx g d a7 c7 a8 c8 ∧ CfO wx W.heap.size d a7 c7 a8 c8 ∧ Below W.heap.size W wx))
    case first =>
      have hb0 := (Below.refl W.heap.size W).drew
      refine wp_region_steps [11] 11 11 (by kernel_rfl) (by kernel_rfl) rfl (fun W' => ∃ V : BW W, W' = V.w) ?_
      refine anyT_pull [0, 1, 2, 3, 4] 11 6 (by intro c a d v w h; cases d <;> exact h) (by kernel_rfl) ⟨⟨W.drew, hb0⟩, rfl⟩ ?_
      simp only [opsAt, List.filterMap_cons, List.filterMap_nil, List.getElem?_cons_zero, List.getElem?_cons_succ]
      iterate 5
        apply held_step
        · rfl
        · rintro _ ⟨V, rfl⟩
          have ml0 := BW.cell p0 V
          have ml1 := BW.cell p1 V
          have ml2 := BW.cell p2 V
          have ml3 := BW.cell m1 V
          have ml4 := BW.cell m2 V
          have ml5 := BW.cell m3 V
          have ml6 := BW.cell m4 V
          go_simp
          rfl
      refine held_nil ?_
      refine anyT_two 5 9 rfl rfl (by kernel_rfl) rfl rfl (fun K hK => ?_) (fun K hK => ?_)
      · go_simp
        refine (HDO.out ⟨W.drew, hb0⟩).mono ?_
        rintro en w5 ⟨a7, c7, a8, c8, rfl, hO, hb5⟩
        simp only [cval]
        have hb5' : Below W.heap.size W w5 := hb0.trans (hb5.mono hb0.size)
        refine hK _ _ ⟨⟨w5, hb5'⟩, rfl⟩ ?_
        clear hK
        refine anyT_pull [6, 7, 8] 11 2 (by intro c a d v w h; cases d <;> exact h) (by kernel_rfl) ⟨⟨w5, hb5'⟩, rfl⟩ ?_
        simp only [opsAt, List.filterMap_cons, List.filterMap_nil, List.getElem?_cons_zero, List.getElem?_cons_succ]
        iterate 3
          apply held_step
          · rfl
          · rintro _ ⟨V, rfl⟩
            go_simp
            rfl
        refine held_nil ?_
        refine anyT_one 9 rfl (by kernel_rfl) rfl (fun K hK => ?_)
        go_simp
        have h56 := below_alloc1 w5 (.cells #[.int .i64 0, .slice none 0 0, .slice none 0 0] 41)
        have hb6 := hb5'.trans (h56.mono hb5'.size)
        have hz : CfAt (w5.alloc (.cells #[.int .i64 0, .slice none 0 0, .slice none 0 0] 41)) w5.heap.size Ms.zero none 0 none 0 := cf_box w5 Ms.zero none 0 none 0
        have hff : ∀ j, (w5.alloc (.cells #[.int .i64 0, .slice none 0 0, .slice none 0 0] 41)).frozen? ⟨w5.heap.size, j, none⟩ = false := fun j => (frozen?_alloc_cells _ _ _ _).trans (by simp [World.frozen?])
        have hg := hb5'.size
        have hgl : w5.heap.size < (w5.alloc (.cells #[.int .i64 0, .slice none 0 0, .slice none 0 0] 41)).heap.size := by rw [World.size_alloc]; exact Nat.lt_succ_self _
        have hsv : CfO (cset (w5.alloc (.cells #[.int .i64 0, .slice none 0 0, .slice none 0 0] 41)) w5.heap.size d a7 c7 a8 c8) W.heap.size d a7 c7 a8 c8 := (hO.mono hb0.size).below (cset_below (c := d) (ac := a7) (cc := c7) (ast := a8) (cs := c8) h56 (Nat.le_refl _))
        refine hK _ _ ⟨⟨_, hb6⟩, rfl⟩ ?_
        clear hK
        obtain ⟨w6, hw6⟩ : ∃ w6, w5.alloc (.cells #[.int .i64 0, .slice none 0 0, .slice none 0 0] 41) = w6 := ⟨_, rfl⟩
        rw [hw6] at hb6 hz hff hgl hsv ⊢
        clear hw6 h56 hO hb5 hb5'
        have r0 := hz.epoch
        have r1 := hz.chain
        have r2 := hz.stores
        have HF := Lib.hid (And.intro hg (And.intro hgl (And.intro (cset_at (c := d) (ac := a7) (cc := c7) (ast := a8) (cs := c8) hz) (And.intro hsv (cset_below (c := d) (ac := a7) (cc := c7) (ast := a8) (cs := c8) hb6 hg)))))
        clear hz hsv hb6 hg hgl
        refine anyT_one 10 rfl (by kernel_rfl) rfl (fun K hK => ?_)
        go_simp
        refine hK _ _ ⟨⟨_, HF.out.2.2.2.2⟩, rfl⟩ ?_
        clear hK
        refine anyT_done (by kernel_rfl) ?_
        simp only [opsAt, List.filterMap_cons, List.filterMap_nil, List.getElem?_cons_zero, List.getElem?_cons_succ]
        go_wp2
        go_meet
        exact ⟨w5.heap.size, a7, c7, a8, c8, rfl, rfl, Lib.hid ⟨HF.out.1, by have h9 := HF.out.2.1; simpa [World.size_setCell] using h9, HF.out.2.2⟩⟩
      · go_simp
        have hba : Below W.heap.size W (W.alloc (.cells #[.int .i64 0, .slice none 0 0, .slice none 0 0] 41)).drew := (below_alloc1 W (.cells #[.int .i64 0, .slice none 0 0, .slice none 0 0] 41)).drew
        have hz0 : CfAt (W.alloc (.cells #[.int .i64 0, .slice none 0 0, .slice none 0 0] 41)).drew W.heap.size Ms.zero none 0 none 0 := CfAt.below (cf_box W Ms.zero none 0 none 0) ((Below.refl _ _).drew)
        have hff0 : ∀ j, (W.alloc (.cells #[.int .i64 0, .slice none 0 0, .slice none 0 0] 41)).drew.frozen? ⟨W.heap.size, j, none⟩ = false := fun j => (frozen?_alloc_cells W _ _ _).trans (by simp [World.frozen?])
        have hsz0 : (W.alloc (.cells #[.int .i64 0, .slice none 0 0, .slice none 0 0] 41)).drew.heap.size = W.heap.size + 1 := World.size_alloc W _
        refine hK _ _ ⟨⟨_, hba⟩, rfl⟩ ?_
        clear hK
        obtain ⟨w6, hw6⟩ : ∃ w6, (W.alloc (.cells #[.int .i64 0, .slice none 0 0, .slice none 0 0] 41)).drew = w6 := ⟨_, rfl⟩
        rw [hw6] at hba hz0 hff0 hsz0 ⊢
        clear hw6
        refine anyT_one 5 rfl (by kernel_rfl) rfl (fun K hK => ?_)
        go_simp
        refine (HDO.out ⟨w6, hba⟩).mono ?_
        rintro en w5 ⟨a7, c7, a8, c8, rfl, hO, hb5⟩
        simp only [cval]
        have hb5' : Below W.heap.size W w5 := hba.trans (hb5.mono hba.size)
        have hff : ∀ j, w5.frozen? ⟨W.heap.size, j, none⟩ = false := fun j => (hb5.frozen (p := ⟨W.heap.size, j, none⟩) (by show W.heap.size < _; rw [hsz0]; exact Nat.lt_succ_self _)).trans (hff0 j)
        have hz := hz0.below hb5
        have hgl : W.heap.size < w5.heap.size := by have h9 : w6.heap.size ≤ w5.heap.size := hb5.size; rw [hsz0] at h9; exact h9
        have hsv : CfO (cset w5 W.heap.size d a7 c7 a8 c8) W.heap.size d a7 c7 a8 c8 := (cset_low (c := d) (ac := a7) (cc := c7) (ast := a8) (cs := c8) hO (by rw [hsz0]; exact Nat.lt_succ_self _)).mono hba.size
        refine hK _ _ ⟨⟨w5, hb5'⟩, rfl⟩ ?_
        clear hK
        refine anyT_pull [6, 7, 8] 11 1 (by intro c a d v w h; cases d <;> exact h) (by kernel_rfl) ⟨⟨w5, hb5'⟩, rfl⟩ ?_
        simp only [opsAt, List.filterMap_cons, List.filterMap_nil, List.getElem?_cons_zero, List.getElem?_cons_succ]
        iterate 3
          apply held_step
          · rfl
          · rintro _ ⟨V, rfl⟩
            go_simp
            rfl
        refine held_nil ?_
        have hb6 := hb5'
        have hg := Nat.le_refl W.heap.size
        clear hz0 hff0 hsz0 hba hb5 hb5' hO
        have r0 := hz.epoch
        have r1 := hz.chain
        have r2 := hz.stores
        have HF := Lib.hid (And.intro hg (And.intro hgl (And.intro (cset_at (c := d) (ac := a7) (cc := c7) (ast := a8) (cs := c8) hz) (And.intro hsv (cset_below (c := d) (ac := a7) (cc := c7) (ast := a8) (cs := c8) hb6 hg)))))
        clear hz hsv hb6 hg hgl
        refine anyT_one 10 rfl (by kernel_rfl) rfl (fun K hK => ?_)
        go_simp
        refine hK _ _ ⟨⟨_, HF.out.2.2.2.2⟩, rfl⟩ ?_
        clear hK
        refine anyT_done (by kernel_rfl) ?_
        simp only [opsAt, List.filterMap_cons, List.filterMap_nil, List.getElem?_cons_zero, List.getElem?_cons_succ]
        go_wp2
        go_meet
        exact ⟨W.heap.size, a7, c7, a8, c8, rfl, rfl, Lib.hid ⟨HF.out.1, by have h9 := HF.out.2.1; simpa [World.size_setCell] using h9, HF.out.2.2⟩⟩
    case rest =>
    obtain ⟨g, a7, c7, a8, c8, rfl, rfl, HG⟩ := hcut
    obtain ⟨W9, hW9⟩ : ∃ W9, W9 = wc := ⟨_, rfl⟩
    subst hW9
    have HI9 := Lib.hid (hI.out.below HG.out.2.2.2.2)
    clear p0 p1 p2 m1 m2 m3 m4 HDO
    by_cases he : er = 0
    case neg =>
      have t : (er != 0) = true := by simp [he]
      have HNX2 : Hid (Ms.zero.run (l.take (k + 1)) = c) := Lib.hid (by rw [HSN.out]; unfold Cf.next; rw [if_neg (by rw [← HD.out.2]; exact he)])
      clear he
      go_wp2
      go_roundw
      case rel => exact ⟨k + 1, by omega, by go_num, Lib.hid (by rw [HNX2.out]; exact HI9.out)⟩
      case measure => simp [intOf]; omega
    subst he
    have HST : Hid ((c.step x).2 = 0) := Lib.hid HD.out.2.symm
    have HNX : Hid (Ms.zero.run (l.take (k + 1)) = d) := Lib.hid (by rw [HSN.out]; unfold Cf.next; rw [if_pos HST.out, HD.out.1])
    have HDK : Hid d.Ok := Lib.hid (by rw [HD.out.1]; exact (Cf.step_ok HST.out).2)
    have HEP : Hid (d.epoch = if x.kind = 3 then c.epoch else c.epoch + 1) := Lib.hid (by rw [HD.out.1]; exact Cf.step_epoch HST.out)
    have HOR : Hid ((d.chain.map (·.node)).Pairwise (fun a b => c.rank a < c.rank b)) := Lib.hid (by rw [HD.out.1]; exact Cf.step_order HST.out)
    have HSO : Hid (0 < c.chain.length → 0 < d.chain.length) := Lib.hid (by rw [HD.out.1]; exact Cf.step_some HST.out)
    have HC9 : Hid (CfAt W9 b3 c ac cc ast cs ∧ CfO W9 B c ac cc ast cs) := Lib.hid ⟨HCF.out.1.below HG.out.2.2.2.2, HCF.out.2.1.below HG.out.2.2.2.2⟩
    have HX9 := Lib.hid (HAT.out.below HG.out.2.2.2.2)
    have p0 := HC9.out.1.epoch
    have p1 := HC9.out.1.chain
    have p2 := HC9.out.1.stores
    have q0 := HG.out.2.2.1.epoch
    have q1 := HG.out.2.2.1.chain
    have q2 := HG.out.2.2.1.stores
    have m1 := HX9.out.kind
    obtain ⟨bq, hbq⟩ : ∃ bq, bq = decide (x.kind = 3) := ⟨_, rfl⟩
    have e1 := HOK.out.lo
    have e2 := HOK.out.hi
    obtain ⟨ce, hce⟩ : ∃ ce, ce = c.epoch := ⟨_, rfl⟩
    obtain ⟨de, hde⟩ : ∃ de, de = d.epoch := ⟨_, rfl⟩
    rw [← hce] at p0 e1 e2
    rw [← hde] at q0
    have hee := HEP.out
    rw [← hce, ← hde] at hee
    have HE := Lib.hid (And.intro hce hde)
    have t0 : ((0 : Int) != 0) = false := by simp
    have t1 : decide (de < ce) = false := decide_eq_false (by rw [hee]; split <;> omega)
    have t2 : decide (ce + 1 < de) = false := decide_eq_false (by rw [hee]; split <;> omega)
    have t3 : (de == ce) = bq := by
      rw [hbq, int_beq, hee]
      by_cases h3 : x.kind = 3
      · rw [if_pos h3]; simp [h3]
      · rw [if_neg h3]; simp [h3]; omega
    have t4 : (x.kind == 3) = bq := by rw [hbq, int_beq]
    have t5 : (bq != bq) = false := by cases bq <;> rfl
    have t6 : IntKind.i64.wrap (ce + 1) = ce + 1 := Go.IntWalk.i64_in _ (by omega)
    have i1 : (0 : Int) ≤ (k : Int) := by omega
    have i2 : (k : Int) < (n : Int) := by omega
    have HCK : Hid (∀ V : BW W9, Calls Try.prog 19 #[.agg #[.int .i64 de, .slice a7 d.chain.length c7, .slice a8 d.stores.length c8]] V.w fun e w' => e = .returned (.int .i64 0) ∧ Below V.w.heap.size V.w w') := Lib.hid fun V => by
      have h9 := check_any d a7 a8 c7 c8 V.w (HG.out.2.2.2.1.r.below V.b)
      unfold Cf.chk at h9
      rw [if_pos ((Cf.ok_iff d).2 HDK.out)] at h9
      rw [hde]
      exact h9
    clear hbq hce hde hee e1 e2 hI HCF HAT
    go_upto_region 11 with fail
    refine wp_region_class (w0 := W9) (by kernel_rfl) (by kernel_rfl) (Below.refl _ _) ?_
    have l0 := BW.cell p0
    have l1 := BW.cell q0
    have l2 := BW.cell q1
    have l3 := BW.cell q2
    have l4 := BW.cell m1
    repeat (first | go_big_quiet_step ((go_at_call 19; exact calls_class (HCK.out _))))
    refine wpQuiet_nil ?_
    intro w11 hb11; replace hb11 := BW.of hb11
    have HB11 := Lib.hid hb11
    have HI11 := Lib.hid (HI9.out.below hb11)
    have HC11 := Lib.hid (And.intro (HC9.out.1.below hb11) (HC9.out.2.below hb11))
    have HG11 : Hid (CfAt w11 g d a7 c7 a8 c8 ∧ CfO w11 B d a7 c7 a8 c8) := Lib.hid ⟨HG.out.2.2.1.below hb11, (HG.out.2.2.2.1.mono HBZ.out).below hb11⟩
    clear l0 l1 l2 l3 l4 hb11 p0 p1 p2 q0 q1 q2 m1 t0 t1 t2 t3 t4 t5 t6 HCK HC9 HI9 HG HX9
    have p0 := HC11.out.1.epoch
    have p1 := HC11.out.1.chain
    have p2 := HC11.out.1.stores
    have q0 := HG11.out.1.epoch
    have q1 := HG11.out.1.chain
    have q2 := HG11.out.1.stores
    obtain ⟨m, hm⟩ : ∃ m, m = d.chain.length := ⟨_, rfl⟩
    have hm5 : m ≤ 5 := by rw [hm]; exact HDK.out.len
    obtain ⟨ncl, hncl⟩ : ∃ ncl, ncl = c.chain.length := ⟨_, rfl⟩
    have hnc5 : ncl ≤ 5 := by rw [hncl]; exact HOK.out.len
    rw [← hm] at q1
    rw [← hncl] at p1
    have HM := Lib.hid (And.intro hm hncl)
    have HMS : Hid (Ms w11 a7 m c7 d.chain) := Lib.hid (by rw [hm]; exact HG11.out.2.chain.ms)
    clear hm hncl
    go_upto_region 16 with fail
    obtain ⟨wv, hwv⟩ : ∃ wv, wv = decide (m = 0) := ⟨_, rfl⟩
    have HWV := Lib.hid hwv
    have hwe : ((m : Int) == 0) = wv := by rw [hwv, int_beq]; simp
    try simp only [hwe]
    clear hwv hwe
    go_wp2_with fail
    go_loopw [7, 8, 9] (fun s7 s8 s9 wq => ∃ (j : Nat) (z : Int), j ≤ m ∧ s9 = .int .i64 j ∧ s8 = .bool (wv || Ms.whole (d.chain.take j)) ∧ s7 = .int .i64 z ∧ Hid (∀ i, j ≤ i → i < m → z < (c.rank (nth d.chain i).node : Nat)) ∧ Hid (Below w11.heap.size w11 wq)) (fun _ _ i _ => m - (intOf i).toNat)
    case atStart => exact ⟨0, -1, Nat.zero_le _, rfl, by simp [Ms.whole], rfl, Lib.hid (fun i _ _ => by omega), Lib.hid (Below.refl _ _)⟩
    case round =>
      obtain ⟨j, z, hj, rfl, rfl, rfl, hz, hbq⟩ := hrel
      by_cases hjm : j < m
      · obtain ⟨bm, offm, rfl, hatm⟩ := (HMS.out.below hbq.out).get hjm
        have HWS : Hid ((wv || Ms.whole (d.chain.take (j + 1))) = ((wv || Ms.whole (d.chain.take j)) || (nth d.chain j).whole)) := Lib.hid (by
          have hjl : j < d.chain.length := by rw [← HM.out.1]; exact hjm
          rw [List.take_succ_eq_append_getElem hjl, ← nth_eq _ hjl]
          unfold Ms.whole
          rw [List.any_append]
          simp [Bool.or_assoc])
        have HZJ := Lib.hid (hz.out j (Nat.le_refl _) hjm)
        have HZN : Hid (∀ i, j + 1 ≤ i → i < m → (c.rank (nth d.chain j).node : Nat) < ((c.rank (nth d.chain i).node : Nat) : Int)) := Lib.hid fun i h1 h2 => by
          have hml := HM.out.1
          have h3 := List.pairwise_iff_getElem.1 HOR.out j i (by simp; omega) (by simp; omega) (by omega)
          rw [List.getElem_map, List.getElem_map, ← nth_eq _ (by omega), ← nth_eq _ (by omega)] at h3
          omega
        obtain ⟨y, hy⟩ : ∃ y, y = nth d.chain j := ⟨_, rfl⟩
        rw [← hy] at hatm HWS HZJ HZN
        have y1 := hatm.node
        have y2 := hatm.birth
        have y3 := hatm.whole
        replace p0 := cell_later hbq.out p0
        replace p1 := cell_later hbq.out p1
        replace p2 := cell_later hbq.out p2
        replace q1 := cell_later hbq.out q1
        have HPLC : Hid (∀ V : BW wr, Calls Try.prog 20 #[.agg #[.int .i64 c.epoch, .slice ac ncl cc, .slice ast c.stores.length cs], .int .i64 y.node] V.w fun e w' => e = .returned (.int .i64 (c.place y.node)) ∧ Below V.w.heap.size V.w w') := Lib.hid fun V => by
          have hpl := place_any c ac ast cc cs y.node V.w ((HC11.out.2.r.below hbq.out).below V.b)
          unfold cval at hpl
          rw [← HM.out.2] at hpl
          exact hpl
        have HRK := Lib.hid (rank_place c y.node)
        rw [← HM.out.2] at HRK
        obtain ⟨pl, hple⟩ : ∃ pl, pl = c.place y.node := ⟨_, rfl⟩
        rw [← hple] at HPLC HRK
        obtain ⟨rk, hrk⟩ : ∃ rk : Nat, rk = c.rank y.node := ⟨_, rfl⟩
        rw [← hrk] at HRK HZJ HZN
        obtain ⟨vw, hvw⟩ : ∃ vw, vw = (wv || Ms.whole (d.chain.take j)) := ⟨_, rfl⟩
        rw [← hvw] at HWS ⊢
        have i1 : (0 : Int) ≤ (j : Int) := by omega
        have i2 : (j : Int) < (m : Int) := by omega
        have HBQ := Lib.hid hbq.out
        clear hatm hy hple hrk hvw hz hbq q0 q2
        cases vw with
        | true =>
          go_upto_region 19 with fail
          refine wp_region_class (w0 := wr) (by kernel_rfl) (by kernel_rfl) (Below.refl _ _) ?_
          have l0 := BW.cell p0
          have l1 := BW.cell p1
          have l2 := BW.cell p2
          have l3 := BW.cell q1
          have l4 := BW.cell y1
          repeat (first | go_big_quiet_step ((go_at_call 20; exact calls_class (HPLC.out _))))
          refine wpQuiet_nil ?_
          intro w20 hb20; replace hb20 := BW.of hb20
          clear l0 l1 l2 l3 l4
          have HB20 := Lib.hid (HBQ.out.trans (hb20.mono HBQ.out.size))
          replace p1 := cell_later hb20 p1
          clear hb20 p0 p2 q1 y1 y2 y3 HPLC HBQ
          by_cases h0 : pl < 0
          · have t1 : decide (pl < (0 : Int)) = true := decide_eq_true h0
            have hrk : (ncl : Int) = (rk : Int) := by rw [← HRK.out, if_pos h0]
            have t2 : decide ((ncl : Int) ≤ z) = false := decide_eq_false (by have := HZJ.out; omega)
            have HKR := Lib.hid hrk
            clear h0 hrk
            go_wp2
            go_roundw
            case rel => exact ⟨j + 1, (ncl : Int), by omega, by go_num, by rw [HWS.out]; rfl, rfl, Lib.hid (fun i h1 h2 => by rw [HKR.out]; exact HZN.out i h1 h2), HB20⟩
            case measure => simp [intOf]; omega
          · have t1 : decide (pl < (0 : Int)) = false := decide_eq_false h0
            have hrk : pl = (rk : Int) := by rw [← HRK.out, if_neg h0]
            have t2 : decide (pl ≤ z) = false := decide_eq_false (by have := HZJ.out; omega)
            have HKR := Lib.hid hrk
            clear h0 hrk
            go_wp2
            go_roundw
            case rel => exact ⟨j + 1, pl, by omega, by go_num, by rw [HWS.out]; rfl, rfl, Lib.hid (fun i h1 h2 => by rw [HKR.out]; exact HZN.out i h1 h2), HB20⟩
            case measure => simp [intOf]; omega
        | false =>
          go_upto_region 19 with fail
          refine wp_region_class (w0 := wr) (by kernel_rfl) (by kernel_rfl) (Below.refl _ _) ?_
          have l0 := BW.cell p0
          have l1 := BW.cell p1
          have l2 := BW.cell p2
          have l3 := BW.cell q1
          have l4 := BW.cell y1
          repeat (first | go_big_quiet_step ((go_at_call 20; exact calls_class (HPLC.out _))))
          refine wpQuiet_nil ?_
          intro w20 hb20; replace hb20 := BW.of hb20
          clear l0 l1 l2 l3 l4
          have HB20 := Lib.hid (HBQ.out.trans (hb20.mono HBQ.out.size))
          replace p1 := cell_later hb20 p1
          clear hb20 p0 p2 q1 y1 y2 y3 HPLC HBQ
          by_cases h0 : pl < 0
          · have t1 : decide (pl < (0 : Int)) = true := decide_eq_true h0
            have hrk : (ncl : Int) = (rk : Int) := by rw [← HRK.out, if_pos h0]
            have t2 : decide ((ncl : Int) ≤ z) = false := decide_eq_false (by have := HZJ.out; omega)
            have HKR := Lib.hid hrk
            clear h0 hrk
            go_wp2
            go_roundw
            case rel => exact ⟨j + 1, (ncl : Int), by omega, by go_num, by rw [HWS.out]; rfl, rfl, Lib.hid (fun i h1 h2 => by rw [HKR.out]; exact HZN.out i h1 h2), HB20⟩
            case measure => simp [intOf]; omega
          · have t1 : decide (pl < (0 : Int)) = false := decide_eq_false h0
            have hrk : pl = (rk : Int) := by rw [← HRK.out, if_neg h0]
            have t2 : decide (pl ≤ z) = false := decide_eq_false (by have := HZJ.out; omega)
            have HKR := Lib.hid hrk
            clear h0 hrk
            go_wp2
            go_roundw
            case rel => exact ⟨j + 1, pl, by omega, by go_num, by rw [HWS.out]; rfl, rfl, Lib.hid (fun i h1 h2 => by rw [HKR.out]; exact HZN.out i h1 h2), HB20⟩
            case measure => simp [intOf]; omega
      · obtain rfl : j = m := by omega
        have HWT : Hid ((wv || Ms.whole (d.chain.take j)) = true) := Lib.hid (by
          rw [HWV.out, List.take_of_length_le (by rw [← HM.out.1]; exact Nat.le_refl _)]
          rcases HDK.out.whole with e | e
          · have := HM.out.1
            rw [e] at this
            simp at this
            simp [this]
          · rw [e]; simp)
        obtain ⟨vw, hvw⟩ : ∃ vw, vw = (wv || Ms.whole (d.chain.take j)) := ⟨_, rfl⟩
        rw [← hvw] at HWT ⊢
        have hvt : vw = true := HWT.out
        subst hvt
        replace p0 := cell_later hbq.out p0
        replace p1 := cell_later hbq.out p1
        replace p2 := cell_later hbq.out p2
        replace q0 := cell_later hbq.out q0
        replace q1 := cell_later hbq.out q1
        replace q2 := cell_later hbq.out q2
        have HI20 := Lib.hid (HI11.out.below hbq.out)
        have HG20 := Lib.hid (HG11.out.2.below hbq.out)
        have HDL : Hid (d.chain.length = j) := Lib.hid HM.out.1.symm
        have t1 : decide ((5 : Int) < (j : Int)) = false := decide_eq_false (by omega)
        have f3 : ∀ i, wr.frozen? ⟨b3, i, none⟩ = false := by obtain ⟨_, _, _, _, _, _, h3, _⟩ := HI20.out; exact h3
        have HFIN := Lib.hid (HI20.out.cset HP.out.1 HP.out.2 HG20.out)
        unfold cset at HFIN
        rw [HDL.out] at HFIN
        by_cases hc0 : 0 < ncl
        · have t2 : decide (0 < ncl) = true := decide_eq_true hc0
          have t3 : ((j : Int) == 0) = false := by
            have h9 := HSO.out (by rw [← HM.out.2]; exact hc0)
            rw [HDL.out] at h9
            rw [int_beq]
            exact decide_eq_false (by omega)
          clear hvw hbq hz hc0
          go_wp2
          go_roundw
          case rel => exact ⟨k + 1, by omega, by go_num, Lib.hid (by rw [HNX.out]; exact HFIN.out)⟩
          case measure => simp [intOf]; omega
        · have t2 : decide (0 < ncl) = false := decide_eq_false hc0
          clear hvw hbq hz hc0
          go_wp2
          go_roundw
          case rel => exact ⟨k + 1, by omega, by go_num, Lib.hid (by rw [HNX.out]; exact HFIN.out)⟩
          case measure => simp [intOf]; omega
end Go.Proofs.Ytincllchoflpmaa
