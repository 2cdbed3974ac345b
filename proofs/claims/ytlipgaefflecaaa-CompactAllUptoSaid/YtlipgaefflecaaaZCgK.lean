/- merge.Prune. -/
import Derived.Test.YtlipgaefflecaaaZCgE
set_option linter.unusedVariables false
set_option linter.unusedSimpArgs false
set_option maxRecDepth 100000
set_option linter.unusedSimpArgs false
namespace Go.Proofs.Ytlipgaefflecaaa
open Go.RowKit
set_option linter.unusedVariables false
attribute [local go_sem] Oper.semAt_some

/-- One entry more, behind the append and the store into the box. -/
theorem Gath.step {w W w3 w4 : World} {Bo Bl : Nat} {lv : Value} {ls : List Ent} {e : Ent} {ao a4 : Option Addr} {k co c4 : Nat} {tmp : Obj} (hbo : Boxed W Bo 33 (.slice ao k co)) (hac : AccE W w.heap.size ao k co ls) (hbl : Boxed W Bl 33 lv) (hbel : Below w.heap.size w W)
    (hb : Below W.heap.size W w3) (h4 : AccE w4 w.heap.size a4 (k + 1) c4 (ls ++ [e])) (hb4 : Below w.heap.size (w3.alloc tmp) w4) (hev : Evol (w3.alloc tmp) ao w4 a4) (hBo : w.heap.size ≤ Bo) (hne : Bo ≠ Bl) :
    Gath w Bo Bl lv (ls ++ [e]) (w4.setCell ⟨Bo, 0, none⟩ (.slice a4 (k + 1) c4)) ∧ KeepsOthers W (w4.setCell ⟨Bo, 0, none⟩ (.slice a4 (k + 1) c4)) ∧ Kb w.heap.size Bl 33 lv W (w4.setCell ⟨Bo, 0, none⟩ (.slice a4 (k + 1) c4)) ∧
      ∀ B t v, Boxed W B t v → t ≠ 57 → Bo ≠ B → Boxed (w4.setCell ⟨Bo, 0, none⟩ (.slice a4 (k + 1) c4)) B t v := by
  have hA3 := (hac.below hb).below (below_alloc1 w3 tmp)
  have hbox : ∀ B t v, Boxed W B t v → t ≠ 57 → Boxed w4 B t v := fun B t v h ht => Boxed.evol ((Boxed.below h hb).alloc _) hA3 ht hev
  have hz1 := hbel.size
  have hz2 := hb.size
  have hbw := (((hb.mono hz1).alloc (Nat.le_trans hz1 hz2) tmp).trans hb4).setCell (p := ⟨Bo, 0, none⟩) hBo (.slice a4 (k + 1) c4)
  have hbo4 := hbox Bo _ _ hbo (by decide)
  have hbl4 := hbox Bl _ _ hbl (by decide)
  exact ⟨⟨⟨a4, k + 1, c4, hbo4.set _, h4.setBox hbo4 (by decide)⟩, Boxed.other hbl4 hne, hbel.trans hbw⟩,
    (((keeps_below hb).trans (KeepsOthers.alloc _ _)).trans (hA3.keeps hev)).trans (KeepsOthers.setCell _ _ _), ⟨hbw, fun _ => Boxed.other hbl4 hne⟩, fun B t v h ht hB => Boxed.other (hbox B t v h ht) hB⟩
def Ent.pruneOf {n : Nat} (keep : Nat) (bottom : Bool) (es : List Ent) (xs : List (Gp n)) : List Ent := xs.flatMap fun x => Ent.pruneSeg keep bottom (Ent.seg es x.1)
theorem pruneOf_snoc {n : Nat} (keep : Nat) (bottom : Bool) (es : List Ent) (xs : List (Gp n)) (x : Gp n) : Ent.pruneOf keep bottom es (xs ++ [x]) = Ent.pruneOf keep bottom es xs ++ Ent.pruneSeg keep bottom (Ent.seg es x.1) := by simp [Ent.pruneOf]
theorem pruneSeg_len (keep : Nat) (bottom : Bool) (g : List Ent) : (Ent.pruneSeg keep bottom g).length ≤ g.length := by unfold Ent.pruneSeg; split <;> simp <;> omega
theorem pruneOf_len {n : Nat} (keep : Nat) (bottom : Bool) (es : List Ent) : ∀ xs : List (Gp n), (Ent.pruneOf keep bottom es xs).length ≤ xs.length * n
  | [] => by simp [Ent.pruneOf]
  | x :: xs => by
    have := pruneOf_len keep bottom es xs
    have := pruneSeg_len keep bottom (Ent.seg es x.1)
    have h3 : (Ent.seg es x.1).length ≤ n := by unfold Ent.seg; have := x.2.2; simp; omega
    unfold Ent.pruneOf at *
    simp only [List.flatMap_cons, List.length_append, List.length_cons, Nat.add_mul]
    omega
theorem idx_le (up : Nat) (g : List Ent) : Ent.idx up g ≤ g.length := List.findIdx_le_length
/-- Between two entries of a group. -/
structure Inn (w : World) (Bo Bl Bu Bb : Nat) (lv : Value) (keep : Nat) (bottom : Bool) (ls : List Ent) (W wr : World) : Prop where
  g : Gath w Bo Bl lv ls wr
  u : Boxed wr Bu 25 (.int .u64 keep)
  b : Boxed wr Bb 4 (.bool bottom)
  ko : KeepsOthers W wr
  kb : Kb w.heap.size Bl 33 lv W wr
theorem Inn.below {w W wr wr' : World} {Bo Bl Bu Bb keep : Nat} {lv : Value} {bottom : Bool} {ls : List Ent} (h : Inn w Bo Bl Bu Bb lv keep bottom ls W wr) (hb : Below wr.heap.size wr wr') : Inn w Bo Bl Bu Bb lv keep bottom ls W wr' := by
  obtain ⟨⟨⟨a, k, c, h1, h2⟩, h3, h4⟩, h5, h6, h7, h8⟩ := h
  exact ⟨⟨⟨a, k, c, Boxed.below h1 hb, h2.below hb⟩, Boxed.below h3 hb, h4.trans (hb.mono h4.size)⟩, Boxed.below h5 hb, Boxed.below h6 hb, h7.trans (keeps_below hb), h8.trans ⟨hb.mono h4.size, fun x => Boxed.below x hb⟩⟩
set_option maxRecDepth 100000 in
set_option maxHeartbeats 8000000 in
theorem prune_any (a : Option Addr) (n c : Nat) (es : List Ent) (keep : Nat) (bottom : Bool) (w : World) (h : Es w a n c es) (hn : n ≤ 30000) (hv : ∀ e ∈ es, e.val.length ≤ 1000000000) :
    Calls Try.prog 23 #[.slice a n c, .int .u64 keep, .bool bottom] w (fun e w' => RetEs (if Ent.rightB es = true then Ent.prune es keep bottom else []) (if Ent.rightB es = true then 0 else 15) w e w') := by
  have hle := h.le.1
  have HN := Lib.hid h.1
  have HE := Lib.hid h
  have HV := Lib.hid hv
  clear h hv
  have HB0 := Lib.hid (((Below.refl w.heap.size w).alloc (Nat.le_refl _) (.cells #[.int .u64 keep] 25)).alloc (le_alloc (Nat.le_refl _)) (.cells #[.bool bottom] 4))
  cases hR : Ent.rightB es with
  | false =>
    have HM : Hid (∀ W, Es W a n c es → Calls Try.prog 33 #[.slice a n c] W fun e w' => e = .returned (.bool false) ∧ Below W.heap.size W w') := Lib.hid fun W h => by rw [← hR]; exact mright_any a n c es W h
    clear hR
    simp only [Bool.false_eq_true, if_false]
    refine calls_marks Try.func23 rfl ?_
    simp only [Try.ntmps23, List.size_toArray, List.length_cons, List.length_nil, Nat.reduceAdd, Nat.reduceSub, Array.replicate_succ, Array.replicate_zero, List.push_toArray, List.append_toArray, List.nil_append, List.cons_append]
    go_wp2_with fail
    refine (HM.out _ (HE.out.below HB0.out)).mono ?_
    rintro e w1 ⟨rfl, hb1⟩
    have HB1 := Lib.hid (HB0.out.trans (hb1.mono HB0.out.size))
    clear hb1
    go_wp2
    refine ret_m0 (results_tmp2 rfl _ _ _) ?_
    exact ret_es_nil HB1.out
  | true =>
    have HM : Hid (∀ W, Es W a n c es → Calls Try.prog 33 #[.slice a n c] W fun e w' => e = .returned (.bool true) ∧ Below W.heap.size W w') := Lib.hid fun W h => by rw [← hR]; exact mright_any a n c es W h
    have HR := Lib.hid hR
    clear hR
    simp only [if_true]
    refine calls_marks Try.func23 rfl ?_
    simp only [Try.ntmps23, List.size_toArray, List.length_cons, List.length_nil, Nat.reduceAdd, Nat.reduceSub, Array.replicate_succ, Array.replicate_zero, List.push_toArray, List.append_toArray, List.nil_append, List.cons_append]
    go_wp2_with fail
    refine (HM.out _ (HE.out.below HB0.out)).mono ?_
    rintro e w1 ⟨rfl, hb1⟩
    have hbx : Boxed w1 w.heap.size 25 (.int .u64 keep) := Boxed.below ((Boxed.new w _ _).alloc _) hb1
    have hbx2 : Boxed w1 (w.heap.size + 1) 4 (.bool bottom) := by
      have := Boxed.new (w.alloc (.cells #[.int .u64 keep] 25)) 4 (.bool bottom)
      rw [World.size_alloc] at this
      exact Boxed.below this hb1
    have HBX := Lib.hid hbx
    have HBX2 := Lib.hid hbx2
    have HB1 := Lib.hid (HB0.out.trans (hb1.mono HB0.out.size))
    clear hb1 hbx hbx2
    go_wp2_with fail
    refine (groups_any _ _ _ _).mono ?_
    rintro e w2 ⟨rfl, rfl⟩
    go_wp2_with fail
    obtain ⟨W0, hW0⟩ : ∃ W0, (w1.alloc (.cells #[.slice none 0 0] 33)).alloc (.cells #[.slice a n c] 33) = W0 := ⟨_, rfl⟩
    have hsz : W0.heap.size = w1.heap.size + 2 := by rw [← hW0]; simp
    have hws : w.heap.size + 1 < w1.heap.size := HBX2.out.lt
    have hB0 : Below w.heap.size w W0 := by rw [← hW0]; exact (HB1.out.alloc (by omega) _).alloc (by simp; omega) _
    have hBo : Boxed W0 w1.heap.size 33 (.slice none 0 0) := by rw [← hW0]; exact (Boxed.new w1 _ _).alloc _
    have hBl : Boxed W0 (w1.heap.size + 1) 33 (.slice a n c) := by
      have := Boxed.new (w1.alloc (.cells #[.slice none 0 0] 33)) 33 (.slice a n c)
      rw [World.size_alloc, hW0] at this
      exact this
    have hBu : Boxed W0 w.heap.size 25 (.int .u64 keep) := by rw [← hW0]; exact (HBX.out.alloc _).alloc _
    have hBb : Boxed W0 (w.heap.size + 1) 4 (.bool bottom) := by rw [← hW0]; exact (HBX2.out.alloc _).alloc _
    have eg := enters_of Try.func45 (by kernel_rfl) rfl
    have HSZ := Lib.hid hsz
    have HWS := Lib.hid hws
    rw [hW0]
    clear hW0 hsz hws
    refine range_wp (gf := 45) (lb := #[.pointer (some ⟨w1.heap.size + 1, 0, none⟩)]) rfl eg (groups_stops 3 (w1.heap.size + 1) a n c es w W0 HE.out hB0 hBl) (fun h k => h.trans k) (Kb.book hB0.size) (Below.refl _ _) (fun _ => rfl)
      (fun pre W => Gath w w1.heap.size (w1.heap.size + 1) (.slice a n c) (Ent.pruneOf keep bottom es pre) W ∧ Boxed W w.heap.size 25 (.int .u64 keep) ∧ Boxed W (w.heap.size + 1) 4 (.bool bottom)) (fun _ _ _ => False)
      (OwnFrom.and (Gath.own hB0.size) (fun s W W' row hs hg hr => ⟨Boxed.turned hs.1 hg (fun r e => (hr r e).2), Boxed.turned hs.2 hg (fun r e => (hr r e).2)⟩)) (fun _ _ _ _ _ hs _ _ => hs) ⟨⟨⟨_, _, _, hBo, AccE.nil _ _⟩, hBl, hB0⟩, hBu, hBb⟩ ?_ ?_ ?_
    · apply Exists.intro
      apply And.intro
      · intro l x W K hK
        simp only [gpv]
        gi_wp2
        exact hK
      · rintro l pre ⟨⟨f, t⟩, hft, htn⟩ W ⟨⟨⟨ao, k, co, hbo, hac⟩, hbl, hbel⟩, hbu, hbb⟩ hlen
        have hg : Es W (subAn a t f 4) (t - f) (t - f) (Ent.seg es (f, t)) := (HE.out.below hbel).part (Nat.le_of_lt hft) htn (Nat.le_refl _) (by have := HE.out.2.1; omega)
        have hgw : ∀ W', Below w.heap.size w W' → Es W' (subAn a t f 4) (t - f) (t - f) (Ent.seg es (f, t)) := fun W' h => (HE.out.below h).part (Nat.le_of_lt hft) htn (Nat.le_refl _) (by have := HE.out.2.1; omega)
        have hgl : ∀ i, i < t - f → (nth (Ent.seg es (f, t)) i).val.length ≤ 1000000000 := fun i hi => by
          have e1 : nth (Ent.seg es (f, t)) i ∈ Ent.seg es (f, t) := by rw [nth_eq _ (by rw [hg.1]; exact hi)]; exact List.getElem_mem _
          exact HV.out _ (List.mem_of_mem_take (List.mem_of_mem_drop e1))
        have hk : k ≤ 900000000 := by
          have h1 := pruneOf_len keep bottom es pre
          rw [hac.len] at h1
          have h2 : pre.length * n ≤ 30000 * 30000 := Nat.mul_le_mul (by omega) hn
          omega
        have HPOST := Lib.hid (pruneOf_snoc keep bottom es pre ⟨(f, t), hft, htn⟩)
        have hml : t - f ≤ 30000 := by omega
        dsimp only at HPOST ⊢
        generalize (⟨(f, t), hft, htn⟩ : Gp n) = X at *
        generalize Ent.seg es (f, t) = g at *
        generalize subAn a t f 4 = ag at *
        generalize t - f = m at *
        have cu := hbu.cell
        have HG := Lib.hid hg
        have HGL := Lib.hid hgl
        have HGW := Lib.hid hgw
        have HI : Hid (Inn w w1.heap.size (w1.heap.size + 1) w.heap.size (w.heap.size + 1) (.slice a n c) keep bottom (Ent.pruneOf keep bottom es pre) W W) := Lib.hid ⟨⟨⟨_, _, _, hbo, hac⟩, hbl, hbel⟩, hbu, hbb, KeepsOthers.refl _, Kb.refl _⟩
        have HLS := Lib.hid (show (Ent.pruneOf keep bottom es pre).length ≤ 900000000 by rw [hac.len]; exact hk)
        obtain ⟨i0, hi0, _, hz1, _⟩ := info_parts infoE
        have HSL : Hid (∀ (p : Nat) (W : World), p ≤ m → (Instr.slice 33 (.slice ag m m) none (some (.int .i64 (p : Int))) none).run Try.prog W = .ok (.slice ag p m) W) := Lib.hid fun p W hp => run_slice_h (P := Try.prog) Try.underlying33 hi0 hz1 ag m m rfl hp W
        clear hg hgl hgw hac hbo hbl hbu hbel hlen hi0 hz1 hk hbb
        gi_wp2_with fail
        refine ⟨trivial, ?_⟩
        refine (calls_in (newest_any ag m m g keep W HG.out)).mono ?_
        rintro e w2 ⟨rfl, hb2⟩
        have HI2 := Lib.hid (HI.out.below hb2)
        have HG2 := Lib.hid (HG.out.below hb2)
        have cb2 := HI2.out.b.cell
        have hidx := idx_le keep g
        rw [HG.out.1] at hidx
        clear hb2 HI HG cu
        rcases (show (¬ Ent.idx keep g < m) ∨ (Ent.idx keep g < m ∧ (nth g (Ent.idx keep g)).gone = true ∧ bottom = true) ∨ (Ent.idx keep g < m ∧ (nth g (Ent.idx keep g)).gone = true ∧ bottom = false) ∨ (Ent.idx keep g < m ∧ (nth g (Ent.idx keep g)).gone = false) by
          by_cases h1 : Ent.idx keep g < m
          · cases h2 : (nth g (Ent.idx keep g)).gone with
            | false => exact .inr (.inr (.inr ⟨h1, rfl⟩))
            | true =>
              cases h3 : bottom with
              | false => exact .inr (.inr (.inl ⟨h1, rfl, rfl⟩))
              | true => exact .inr (.inl ⟨h1, rfl, rfl⟩)
          · exact .inl h1) with h1 | ⟨h1, h2, h3⟩ | ⟨h1, h2, h3⟩ | ⟨h1, h2⟩
        · have HP : Hid (Ent.pruneSeg keep bottom g = g.take (Ent.idx keep g)) := Lib.hid (by unfold Ent.pruneSeg; rw [if_neg (fun h => h1 (by rw [HG2.out.1] at h; exact h.1))])
          have t1 : decide (Ent.idx keep g < m) = false := decide_eq_false h1
          have hs := fun W => HSL.out _ W hidx
          generalize Ent.idx keep g = p at *
          clear h1
          gi_wp2_with fail
          clear hs
          gi_loopw [43] (fun i wr => ∃ j : Nat, j ≤ p ∧ i = .int .i64 j ∧ Inn w w1.heap.size (w1.heap.size + 1) w.heap.size (w.heap.size + 1) (.slice a n c) keep bottom (Ent.pruneOf keep bottom es pre ++ g.take j) W wr) (fun i _ => p - (intOf i).toNat)
          case atStart => exact ⟨0, Nat.zero_le _, rfl, by rw [List.take_zero, List.append_nil]; exact HI2.out⟩
          case round =>
            clear HI2 HG2
            obtain ⟨j, hj, rfl, hin⟩ := hrel
            by_cases hlt : j < p
            · have hjm : j < m := by omega
              obtain ⟨b7, o7, a7, d7, e7, he7, hv7⟩ := (HGW.out _ hin.g.2.2).vals hjm
              cases e7
              have hel := HGL.out j hjm
              have hts : g.take (j + 1) = g.take j ++ [nth g j] := take_snoc g (by rw [(HGW.out _ hin.g.2.2).1]; exact hjm)
              generalize nth g j = x at *
              obtain ⟨⟨⟨ao, k, co, hbo, hac⟩, hbl, hbel⟩, hu, hb, hko, hkb⟩ := hin
              have hk : k ≤ 999999999 := by
                have h1 := hac.len
                have h2 := HLS.out
                rw [List.length_append] at h1
                have h3 : (g.take j).length ≤ j := List.length_take_le _ _
                omega
              have q1 := he7.key
              have q2 := he7.seq
              have q3 := he7.gone
              have q4 := he7.val
              have hbx := load_box wr x a7 d7
              have hA := below_alloc1 wr (.cells #[.string (bstr x.key), .int .u64 x.seq, .bool x.gone, .slice a7 x.val.length d7] 57)
              have cbo := (Boxed.below hbo hA).cell
              have fbo := (Boxed.below hbo hA).frozen
              have p1 := hbx.key
              have p2 := hbx.seq
              have p3' := hbx.gone
              have p4 := hbx.val
              have HV7 := Lib.hid (hv7.below hA)
              have HTS := Lib.hid hts
              have HAC := Lib.hid hac
              have HBO := Lib.hid hbo
              have HBL := Lib.hid hbl
              have HBE := Lib.hid hbel
              have HU := Lib.hid hu
              have HB := Lib.hid hb
              have HKO := Lib.hid hko
              have HKB := Lib.hid hkb
              have HA := Lib.hid hA
              clear he7 hv7 hbx hA hts hac hbo hbl hbel hu hb hko hkb
              gi_wp2_with fail
              clear q1 q2 q3 q4
              obtain ⟨W1, hW1⟩ : ∃ W1, wr.alloc (.cells #[.string (bstr x.key), .int .u64 x.seq, .bool x.gone, .slice a7 x.val.length d7] 57) = W1 := ⟨_, rfl⟩
              rw [hW1] at p1 p2 p3' p4 cbo fbo HV7 HA ⊢
              clear hW1
              refine round_reads 2 4 (fun ⟨_, _, h⟩ => h) (fun _ _ _ _ _ h => h) (by kernel_rfl) (by kernel_rfl) (by kernel_rfl) (fun W' => ∃ V : BW W1, W' = V.w) ⟨⟨W1.drew, (Below.refl _ _).drew⟩, rfl⟩ ?_
              simp only [List.take_succ_cons, List.take_zero, List.drop_succ_cons, List.drop_zero]
              iterate 2
                apply held_step
                · rfl
                · rintro _ ⟨V, rfl⟩
                  have m0 := BW.cell cbo V
                  have m1 := BW.cell p1 V
                  have m2 := BW.cell p2 V
                  have m3 := BW.cell p3' V
                  have m4 := BW.cell p4 V
                  go_simp
                  rfl
              refine held_nil ?_
              refine walkS_step rfl (fun K hK => ?_)
              go_simp
              have hap := apart_any x a7 d7 W1.drew (HV7.out.below ((Below.refl _ _).drew)) hel
              unfold ev at hap
              refine hap.mono ?_
              rintro en w3 ⟨a3, c3, rfl, ho3, hb3⟩
              simp only [ev]
              have hb23 : Below W1.heap.size W1 w3 := ((Below.refl W1.heap.size W1).drew).trans hb3
              refine hK _ _ ⟨⟨w3, hb23⟩, rfl⟩ ?_
              refine walkS_step rfl (fun K hK => ?_)
              go_simp
              refine hK _ _ ⟨⟨_, hb23.alloc hb23.size _⟩, rfl⟩ ?_
              refine walkS_nil ?_
              clear hK
              have HB23 := Lib.hid (HA.out.trans (hb23.mono HA.out.size))
              have HO3 := Lib.hid ho3
              have hzd : wr.heap.size ≤ W1.drew.heap.size := HA.out.size
              clear hb3 ho3 hb23 hap p1 p2 p3' p4 cbo fbo
              have hz1 := HBE.out.size
              have hz3 := HB23.out.size
              go_wp2_with (at_builtin; refine app_ent rfl _ _ rfl w.heap.size rfl ((HAC.out.below HB23.out).below (below_alloc1 w3 _)) rfl (load_box w3 _ _ _) (HO3.out.bs.below (below_alloc1 w3 _)) (fun _ x y hx hy e => by have h1 := (HO3.out.new x hx).1; have h2 := (HAC.out.new y hy).2; omega) (by omega) (le_alloc (by omega)) ?_; intro a4 c4 w4 h4 hb4 hev4; have hbo4 := Boxed.evol ((Boxed.below HBO.out HB23.out).alloc _) ((HAC.out.below HB23.out).below (below_alloc1 w3 _)) (by decide) hev4; have cb4 := hbo4.cell; have fb4 := hbo4.frozen; have H4 := Lib.hid h4; have HB4 := Lib.hid hb4; have HEV4 := Lib.hid hev4; clear hbo4 h4 hb4 hev4)
              have hws := HWS.out
              obtain ⟨g1, g2, g3, g4⟩ := Gath.step HBO.out HAC.out HBL.out HBE.out HB23.out H4.out HB4.out HEV4.out (by omega) (by omega)
              have HI3 : Hid (Inn w w1.heap.size (w1.heap.size + 1) w.heap.size (w.heap.size + 1) (.slice a n c) keep bottom (Ent.pruneOf keep bottom es pre ++ g.take (j + 1)) W (w4.setCell ⟨w1.heap.size, 0, none⟩ (.slice a4 (k + 1) c4))) :=
                Lib.hid ⟨by rw [HTS.out, ← List.append_assoc]; exact g1, g4 _ _ _ HU.out (by decide) (by omega), g4 _ _ _ HB.out (by decide) (by omega), HKO.out.trans g2, HKB.out.trans g3⟩
              clear g1 g2 g3 g4 cb4 fb4 hws
              gi_wp2
              go_roundw
              case rel => exact ⟨j + 1, by omega, by go_num, HI3.out⟩
              case measure => simp [intOf]; omega
            · obtain rfl : j = p := by omega
              obtain ⟨hg', hu, hb, hko, hkb⟩ := hin
              have HG' := Lib.hid hg'
              have HU := Lib.hid hu
              have HB := Lib.hid hb
              have HKO := Lib.hid hko
              have HKB := Lib.hid hkb
              clear hg' hu hb hko hkb
              gi_wp2
              exact ⟨HKO.out, HKB.out, by rw [HPOST.out, HP.out]; exact HG'.out, HU.out, HB.out⟩
        · have HP : Hid (Ent.pruneSeg keep bottom g = g.take (Ent.idx keep g)) := Lib.hid (by unfold Ent.pruneSeg; rw [if_neg (fun h => by rw [h2, h3] at h; cases h.2)])
          obtain ⟨b1, o1, a1, d1, rfl, he1, hv1⟩ := HG2.out.vals h1
          have p3 := he1.gone
          rw [h2] at p3
          rw [h3] at cb2
          have t1 : decide (Ent.idx keep g < m) = true := decide_eq_true h1
          have hs := fun W => HSL.out _ W hidx
          clear he1 hv1
          generalize Ent.idx keep g = p at *
          clear h2 h3
          gi_wp2_with fail
          clear hs
          gi_loopw [43] (fun i wr => ∃ j : Nat, j ≤ p ∧ i = .int .i64 j ∧ Inn w w1.heap.size (w1.heap.size + 1) w.heap.size (w.heap.size + 1) (.slice a n c) keep bottom (Ent.pruneOf keep bottom es pre ++ g.take j) W wr) (fun i _ => p - (intOf i).toNat)
          case atStart => exact ⟨0, Nat.zero_le _, rfl, by rw [List.take_zero, List.append_nil]; exact HI2.out⟩
          case round =>
            clear HI2 HG2
            obtain ⟨j, hj, rfl, hin⟩ := hrel
            by_cases hlt : j < p
            · have hjm : j < m := by omega
              obtain ⟨b7, o7, a7, d7, e7, he7, hv7⟩ := (HGW.out _ hin.g.2.2).vals hjm
              cases e7
              have hel := HGL.out j hjm
              have hts : g.take (j + 1) = g.take j ++ [nth g j] := take_snoc g (by rw [(HGW.out _ hin.g.2.2).1]; exact hjm)
              generalize nth g j = x at *
              obtain ⟨⟨⟨ao, k, co, hbo, hac⟩, hbl, hbel⟩, hu, hb, hko, hkb⟩ := hin
              have hk : k ≤ 999999999 := by
                have h1 := hac.len
                have h2 := HLS.out
                rw [List.length_append] at h1
                have h3 : (g.take j).length ≤ j := List.length_take_le _ _
                omega
              have q1 := he7.key
              have q2 := he7.seq
              have q3 := he7.gone
              have q4 := he7.val
              have hbx := load_box wr x a7 d7
              have hA := below_alloc1 wr (.cells #[.string (bstr x.key), .int .u64 x.seq, .bool x.gone, .slice a7 x.val.length d7] 57)
              have cbo := (Boxed.below hbo hA).cell
              have fbo := (Boxed.below hbo hA).frozen
              have p1 := hbx.key
              have p2 := hbx.seq
              have p3' := hbx.gone
              have p4 := hbx.val
              have HV7 := Lib.hid (hv7.below hA)
              have HTS := Lib.hid hts
              have HAC := Lib.hid hac
              have HBO := Lib.hid hbo
              have HBL := Lib.hid hbl
              have HBE := Lib.hid hbel
              have HU := Lib.hid hu
              have HB := Lib.hid hb
              have HKO := Lib.hid hko
              have HKB := Lib.hid hkb
              have HA := Lib.hid hA
              clear he7 hv7 hbx hA hts hac hbo hbl hbel hu hb hko hkb
              gi_wp2_with fail
              clear q1 q2 q3 q4
              obtain ⟨W1, hW1⟩ : ∃ W1, wr.alloc (.cells #[.string (bstr x.key), .int .u64 x.seq, .bool x.gone, .slice a7 x.val.length d7] 57) = W1 := ⟨_, rfl⟩
              rw [hW1] at p1 p2 p3' p4 cbo fbo HV7 HA ⊢
              clear hW1
              refine round_reads 2 4 (fun ⟨_, _, h⟩ => h) (fun _ _ _ _ _ h => h) (by kernel_rfl) (by kernel_rfl) (by kernel_rfl) (fun W' => ∃ V : BW W1, W' = V.w) ⟨⟨W1.drew, (Below.refl _ _).drew⟩, rfl⟩ ?_
              simp only [List.take_succ_cons, List.take_zero, List.drop_succ_cons, List.drop_zero]
              iterate 2
                apply held_step
                · rfl
                · rintro _ ⟨V, rfl⟩
                  have m0 := BW.cell cbo V
                  have m1 := BW.cell p1 V
                  have m2 := BW.cell p2 V
                  have m3 := BW.cell p3' V
                  have m4 := BW.cell p4 V
                  go_simp
                  rfl
              refine held_nil ?_
              refine walkS_step rfl (fun K hK => ?_)
              go_simp
              have hap := apart_any x a7 d7 W1.drew (HV7.out.below ((Below.refl _ _).drew)) hel
              unfold ev at hap
              refine hap.mono ?_
              rintro en w3 ⟨a3, c3, rfl, ho3, hb3⟩
              simp only [ev]
              have hb23 : Below W1.heap.size W1 w3 := ((Below.refl W1.heap.size W1).drew).trans hb3
              refine hK _ _ ⟨⟨w3, hb23⟩, rfl⟩ ?_
              refine walkS_step rfl (fun K hK => ?_)
              go_simp
              refine hK _ _ ⟨⟨_, hb23.alloc hb23.size _⟩, rfl⟩ ?_
              refine walkS_nil ?_
              clear hK
              have HB23 := Lib.hid (HA.out.trans (hb23.mono HA.out.size))
              have HO3 := Lib.hid ho3
              have hzd : wr.heap.size ≤ W1.drew.heap.size := HA.out.size
              clear hb3 ho3 hb23 hap p1 p2 p3' p4 cbo fbo
              have hz1 := HBE.out.size
              have hz3 := HB23.out.size
              go_wp2_with (at_builtin; refine app_ent rfl _ _ rfl w.heap.size rfl ((HAC.out.below HB23.out).below (below_alloc1 w3 _)) rfl (load_box w3 _ _ _) (HO3.out.bs.below (below_alloc1 w3 _)) (fun _ x y hx hy e => by have h1 := (HO3.out.new x hx).1; have h2 := (HAC.out.new y hy).2; omega) (by omega) (le_alloc (by omega)) ?_; intro a4 c4 w4 h4 hb4 hev4; have hbo4 := Boxed.evol ((Boxed.below HBO.out HB23.out).alloc _) ((HAC.out.below HB23.out).below (below_alloc1 w3 _)) (by decide) hev4; have cb4 := hbo4.cell; have fb4 := hbo4.frozen; have H4 := Lib.hid h4; have HB4 := Lib.hid hb4; have HEV4 := Lib.hid hev4; clear hbo4 h4 hb4 hev4)
              have hws := HWS.out
              obtain ⟨g1, g2, g3, g4⟩ := Gath.step HBO.out HAC.out HBL.out HBE.out HB23.out H4.out HB4.out HEV4.out (by omega) (by omega)
              have HI3 : Hid (Inn w w1.heap.size (w1.heap.size + 1) w.heap.size (w.heap.size + 1) (.slice a n c) keep bottom (Ent.pruneOf keep bottom es pre ++ g.take (j + 1)) W (w4.setCell ⟨w1.heap.size, 0, none⟩ (.slice a4 (k + 1) c4))) :=
                Lib.hid ⟨by rw [HTS.out, ← List.append_assoc]; exact g1, g4 _ _ _ HU.out (by decide) (by omega), g4 _ _ _ HB.out (by decide) (by omega), HKO.out.trans g2, HKB.out.trans g3⟩
              clear g1 g2 g3 g4 cb4 fb4 hws
              gi_wp2
              go_roundw
              case rel => exact ⟨j + 1, by omega, by go_num, HI3.out⟩
              case measure => simp [intOf]; omega
            · obtain rfl : j = p := by omega
              obtain ⟨hg', hu, hb, hko, hkb⟩ := hin
              have HG' := Lib.hid hg'
              have HU := Lib.hid hu
              have HB := Lib.hid hb
              have HKO := Lib.hid hko
              have HKB := Lib.hid hkb
              clear hg' hu hb hko hkb
              gi_wp2
              exact ⟨HKO.out, HKB.out, by rw [HPOST.out, HP.out]; exact HG'.out, HU.out, HB.out⟩
        · have HP : Hid (Ent.pruneSeg keep bottom g = g.take (Ent.idx keep g + 1)) := Lib.hid (by unfold Ent.pruneSeg; rw [if_pos ⟨by rw [HG2.out.1]; exact h1, by rw [h2, h3]; rfl⟩])
          obtain ⟨b1, o1, a1, d1, rfl, he1, hv1⟩ := HG2.out.vals h1
          have p3 := he1.gone
          rw [h2] at p3
          rw [h3] at cb2
          have t1 : decide (Ent.idx keep g < m) = true := decide_eq_true h1
          obtain ⟨p, hp⟩ : ∃ p, p = Ent.idx keep g + 1 := ⟨_, rfl⟩
          rw [← hp] at HP
          have hpi : ((Ent.idx keep g : Nat) : Int) + 1 = (p : Int) := by omega
          have hpm : p ≤ m := by omega
          have hs := fun W => HSL.out _ W hpm
          clear he1 hv1 h2 h3 hp
          gi_wp2_with fail
          clear hs
          gi_loopw [43] (fun i wr => ∃ j : Nat, j ≤ p ∧ i = .int .i64 j ∧ Inn w w1.heap.size (w1.heap.size + 1) w.heap.size (w.heap.size + 1) (.slice a n c) keep bottom (Ent.pruneOf keep bottom es pre ++ g.take j) W wr) (fun i _ => p - (intOf i).toNat)
          case atStart => exact ⟨0, Nat.zero_le _, rfl, by rw [List.take_zero, List.append_nil]; exact HI2.out⟩
          case round =>
            clear HI2 HG2
            obtain ⟨j, hj, rfl, hin⟩ := hrel
            by_cases hlt : j < p
            · have hjm : j < m := by omega
              obtain ⟨b7, o7, a7, d7, e7, he7, hv7⟩ := (HGW.out _ hin.g.2.2).vals hjm
              cases e7
              have hel := HGL.out j hjm
              have hts : g.take (j + 1) = g.take j ++ [nth g j] := take_snoc g (by rw [(HGW.out _ hin.g.2.2).1]; exact hjm)
              generalize nth g j = x at *
              obtain ⟨⟨⟨ao, k, co, hbo, hac⟩, hbl, hbel⟩, hu, hb, hko, hkb⟩ := hin
              have hk : k ≤ 999999999 := by
                have h1 := hac.len
                have h2 := HLS.out
                rw [List.length_append] at h1
                have h3 : (g.take j).length ≤ j := List.length_take_le _ _
                omega
              have q1 := he7.key
              have q2 := he7.seq
              have q3 := he7.gone
              have q4 := he7.val
              have hbx := load_box wr x a7 d7
              have hA := below_alloc1 wr (.cells #[.string (bstr x.key), .int .u64 x.seq, .bool x.gone, .slice a7 x.val.length d7] 57)
              have cbo := (Boxed.below hbo hA).cell
              have fbo := (Boxed.below hbo hA).frozen
              have p1 := hbx.key
              have p2 := hbx.seq
              have p3' := hbx.gone
              have p4 := hbx.val
              have HV7 := Lib.hid (hv7.below hA)
              have HTS := Lib.hid hts
              have HAC := Lib.hid hac
              have HBO := Lib.hid hbo
              have HBL := Lib.hid hbl
              have HBE := Lib.hid hbel
              have HU := Lib.hid hu
              have HB := Lib.hid hb
              have HKO := Lib.hid hko
              have HKB := Lib.hid hkb
              have HA := Lib.hid hA
              clear he7 hv7 hbx hA hts hac hbo hbl hbel hu hb hko hkb
              gi_wp2_with fail
              clear q1 q2 q3 q4
              obtain ⟨W1, hW1⟩ : ∃ W1, wr.alloc (.cells #[.string (bstr x.key), .int .u64 x.seq, .bool x.gone, .slice a7 x.val.length d7] 57) = W1 := ⟨_, rfl⟩
              rw [hW1] at p1 p2 p3' p4 cbo fbo HV7 HA ⊢
              clear hW1
              refine round_reads 2 4 (fun ⟨_, _, h⟩ => h) (fun _ _ _ _ _ h => h) (by kernel_rfl) (by kernel_rfl) (by kernel_rfl) (fun W' => ∃ V : BW W1, W' = V.w) ⟨⟨W1.drew, (Below.refl _ _).drew⟩, rfl⟩ ?_
              simp only [List.take_succ_cons, List.take_zero, List.drop_succ_cons, List.drop_zero]
              iterate 2
                apply held_step
                · rfl
                · rintro _ ⟨V, rfl⟩
                  have m0 := BW.cell cbo V
                  have m1 := BW.cell p1 V
                  have m2 := BW.cell p2 V
                  have m3 := BW.cell p3' V
                  have m4 := BW.cell p4 V
                  go_simp
                  rfl
              refine held_nil ?_
              refine walkS_step rfl (fun K hK => ?_)
              go_simp
              have hap := apart_any x a7 d7 W1.drew (HV7.out.below ((Below.refl _ _).drew)) hel
              unfold ev at hap
              refine hap.mono ?_
              rintro en w3 ⟨a3, c3, rfl, ho3, hb3⟩
              simp only [ev]
              have hb23 : Below W1.heap.size W1 w3 := ((Below.refl W1.heap.size W1).drew).trans hb3
              refine hK _ _ ⟨⟨w3, hb23⟩, rfl⟩ ?_
              refine walkS_step rfl (fun K hK => ?_)
              go_simp
              refine hK _ _ ⟨⟨_, hb23.alloc hb23.size _⟩, rfl⟩ ?_
              refine walkS_nil ?_
              clear hK
              have HB23 := Lib.hid (HA.out.trans (hb23.mono HA.out.size))
              have HO3 := Lib.hid ho3
              have hzd : wr.heap.size ≤ W1.drew.heap.size := HA.out.size
              clear hb3 ho3 hb23 hap p1 p2 p3' p4 cbo fbo
              have hz1 := HBE.out.size
              have hz3 := HB23.out.size
              go_wp2_with (at_builtin; refine app_ent rfl _ _ rfl w.heap.size rfl ((HAC.out.below HB23.out).below (below_alloc1 w3 _)) rfl (load_box w3 _ _ _) (HO3.out.bs.below (below_alloc1 w3 _)) (fun _ x y hx hy e => by have h1 := (HO3.out.new x hx).1; have h2 := (HAC.out.new y hy).2; omega) (by omega) (le_alloc (by omega)) ?_; intro a4 c4 w4 h4 hb4 hev4; have hbo4 := Boxed.evol ((Boxed.below HBO.out HB23.out).alloc _) ((HAC.out.below HB23.out).below (below_alloc1 w3 _)) (by decide) hev4; have cb4 := hbo4.cell; have fb4 := hbo4.frozen; have H4 := Lib.hid h4; have HB4 := Lib.hid hb4; have HEV4 := Lib.hid hev4; clear hbo4 h4 hb4 hev4)
              have hws := HWS.out
              obtain ⟨g1, g2, g3, g4⟩ := Gath.step HBO.out HAC.out HBL.out HBE.out HB23.out H4.out HB4.out HEV4.out (by omega) (by omega)
              have HI3 : Hid (Inn w w1.heap.size (w1.heap.size + 1) w.heap.size (w.heap.size + 1) (.slice a n c) keep bottom (Ent.pruneOf keep bottom es pre ++ g.take (j + 1)) W (w4.setCell ⟨w1.heap.size, 0, none⟩ (.slice a4 (k + 1) c4))) :=
                Lib.hid ⟨by rw [HTS.out, ← List.append_assoc]; exact g1, g4 _ _ _ HU.out (by decide) (by omega), g4 _ _ _ HB.out (by decide) (by omega), HKO.out.trans g2, HKB.out.trans g3⟩
              clear g1 g2 g3 g4 cb4 fb4 hws
              gi_wp2
              go_roundw
              case rel => exact ⟨j + 1, by omega, by go_num, HI3.out⟩
              case measure => simp [intOf]; omega
            · obtain rfl : j = p := by omega
              obtain ⟨hg', hu, hb, hko, hkb⟩ := hin
              have HG' := Lib.hid hg'
              have HU := Lib.hid hu
              have HB := Lib.hid hb
              have HKO := Lib.hid hko
              have HKB := Lib.hid hkb
              clear hg' hu hb hko hkb
              gi_wp2
              exact ⟨HKO.out, HKB.out, by rw [HPOST.out, HP.out]; exact HG'.out, HU.out, HB.out⟩
        · have HP : Hid (Ent.pruneSeg keep bottom g = g.take (Ent.idx keep g + 1)) := Lib.hid (by unfold Ent.pruneSeg; rw [if_pos ⟨by rw [HG2.out.1]; exact h1, by rw [h2]; rfl⟩])
          obtain ⟨b1, o1, a1, d1, rfl, he1, hv1⟩ := HG2.out.vals h1
          have p3 := he1.gone
          rw [h2] at p3
          have t1 : decide (Ent.idx keep g < m) = true := decide_eq_true h1
          obtain ⟨p, hp⟩ : ∃ p, p = Ent.idx keep g + 1 := ⟨_, rfl⟩
          rw [← hp] at HP
          have hpi : ((Ent.idx keep g : Nat) : Int) + 1 = (p : Int) := by omega
          have hpm : p ≤ m := by omega
          have hs := fun W => HSL.out _ W hpm
          clear he1 hv1 h2 hp cb2
          gi_wp2_with fail
          clear hs
          gi_loopw [43] (fun i wr => ∃ j : Nat, j ≤ p ∧ i = .int .i64 j ∧ Inn w w1.heap.size (w1.heap.size + 1) w.heap.size (w.heap.size + 1) (.slice a n c) keep bottom (Ent.pruneOf keep bottom es pre ++ g.take j) W wr) (fun i _ => p - (intOf i).toNat)
          case atStart => exact ⟨0, Nat.zero_le _, rfl, by rw [List.take_zero, List.append_nil]; exact HI2.out⟩
          case round =>
            clear HI2 HG2
            obtain ⟨j, hj, rfl, hin⟩ := hrel
            by_cases hlt : j < p
            · have hjm : j < m := by omega
              obtain ⟨b7, o7, a7, d7, e7, he7, hv7⟩ := (HGW.out _ hin.g.2.2).vals hjm
              cases e7
              have hel := HGL.out j hjm
              have hts : g.take (j + 1) = g.take j ++ [nth g j] := take_snoc g (by rw [(HGW.out _ hin.g.2.2).1]; exact hjm)
              generalize nth g j = x at *
              obtain ⟨⟨⟨ao, k, co, hbo, hac⟩, hbl, hbel⟩, hu, hb, hko, hkb⟩ := hin
              have hk : k ≤ 999999999 := by
                have h1 := hac.len
                have h2 := HLS.out
                rw [List.length_append] at h1
                have h3 : (g.take j).length ≤ j := List.length_take_le _ _
                omega
              have q1 := he7.key
              have q2 := he7.seq
              have q3 := he7.gone
              have q4 := he7.val
              have hbx := load_box wr x a7 d7
              have hA := below_alloc1 wr (.cells #[.string (bstr x.key), .int .u64 x.seq, .bool x.gone, .slice a7 x.val.length d7] 57)
              have cbo := (Boxed.below hbo hA).cell
              have fbo := (Boxed.below hbo hA).frozen
              have p1 := hbx.key
              have p2 := hbx.seq
              have p3' := hbx.gone
              have p4 := hbx.val
              have HV7 := Lib.hid (hv7.below hA)
              have HTS := Lib.hid hts
              have HAC := Lib.hid hac
              have HBO := Lib.hid hbo
              have HBL := Lib.hid hbl
              have HBE := Lib.hid hbel
              have HU := Lib.hid hu
              have HB := Lib.hid hb
              have HKO := Lib.hid hko
              have HKB := Lib.hid hkb
              have HA := Lib.hid hA
              clear he7 hv7 hbx hA hts hac hbo hbl hbel hu hb hko hkb
              gi_wp2_with fail
              clear q1 q2 q3 q4
              obtain ⟨W1, hW1⟩ : ∃ W1, wr.alloc (.cells #[.string (bstr x.key), .int .u64 x.seq, .bool x.gone, .slice a7 x.val.length d7] 57) = W1 := ⟨_, rfl⟩
              rw [hW1] at p1 p2 p3' p4 cbo fbo HV7 HA ⊢
              clear hW1
              refine round_reads 2 4 (fun ⟨_, _, h⟩ => h) (fun _ _ _ _ _ h => h) (by kernel_rfl) (by kernel_rfl) (by kernel_rfl) (fun W' => ∃ V : BW W1, W' = V.w) ⟨⟨W1.drew, (Below.refl _ _).drew⟩, rfl⟩ ?_
              simp only [List.take_succ_cons, List.take_zero, List.drop_succ_cons, List.drop_zero]
              iterate 2
                apply held_step
                · rfl
                · rintro _ ⟨V, rfl⟩
                  have m0 := BW.cell cbo V
                  have m1 := BW.cell p1 V
                  have m2 := BW.cell p2 V
                  have m3 := BW.cell p3' V
                  have m4 := BW.cell p4 V
                  go_simp
                  rfl
              refine held_nil ?_
              refine walkS_step rfl (fun K hK => ?_)
              go_simp
              have hap := apart_any x a7 d7 W1.drew (HV7.out.below ((Below.refl _ _).drew)) hel
              unfold ev at hap
              refine hap.mono ?_
              rintro en w3 ⟨a3, c3, rfl, ho3, hb3⟩
              simp only [ev]
              have hb23 : Below W1.heap.size W1 w3 := ((Below.refl W1.heap.size W1).drew).trans hb3
              refine hK _ _ ⟨⟨w3, hb23⟩, rfl⟩ ?_
              refine walkS_step rfl (fun K hK => ?_)
              go_simp
              refine hK _ _ ⟨⟨_, hb23.alloc hb23.size _⟩, rfl⟩ ?_
              refine walkS_nil ?_
              clear hK
              have HB23 := Lib.hid (HA.out.trans (hb23.mono HA.out.size))
              have HO3 := Lib.hid ho3
              have hzd : wr.heap.size ≤ W1.drew.heap.size := HA.out.size
              clear hb3 ho3 hb23 hap p1 p2 p3' p4 cbo fbo
              have hz1 := HBE.out.size
              have hz3 := HB23.out.size
              go_wp2_with (at_builtin; refine app_ent rfl _ _ rfl w.heap.size rfl ((HAC.out.below HB23.out).below (below_alloc1 w3 _)) rfl (load_box w3 _ _ _) (HO3.out.bs.below (below_alloc1 w3 _)) (fun _ x y hx hy e => by have h1 := (HO3.out.new x hx).1; have h2 := (HAC.out.new y hy).2; omega) (by omega) (le_alloc (by omega)) ?_; intro a4 c4 w4 h4 hb4 hev4; have hbo4 := Boxed.evol ((Boxed.below HBO.out HB23.out).alloc _) ((HAC.out.below HB23.out).below (below_alloc1 w3 _)) (by decide) hev4; have cb4 := hbo4.cell; have fb4 := hbo4.frozen; have H4 := Lib.hid h4; have HB4 := Lib.hid hb4; have HEV4 := Lib.hid hev4; clear hbo4 h4 hb4 hev4)
              have hws := HWS.out
              obtain ⟨g1, g2, g3, g4⟩ := Gath.step HBO.out HAC.out HBL.out HBE.out HB23.out H4.out HB4.out HEV4.out (by omega) (by omega)
              have HI3 : Hid (Inn w w1.heap.size (w1.heap.size + 1) w.heap.size (w.heap.size + 1) (.slice a n c) keep bottom (Ent.pruneOf keep bottom es pre ++ g.take (j + 1)) W (w4.setCell ⟨w1.heap.size, 0, none⟩ (.slice a4 (k + 1) c4))) :=
                Lib.hid ⟨by rw [HTS.out, ← List.append_assoc]; exact g1, g4 _ _ _ HU.out (by decide) (by omega), g4 _ _ _ HB.out (by decide) (by omega), HKO.out.trans g2, HKB.out.trans g3⟩
              clear g1 g2 g3 g4 cb4 fb4 hws
              gi_wp2
              go_roundw
              case rel => exact ⟨j + 1, by omega, by go_num, HI3.out⟩
              case measure => simp [intOf]; omega
            · obtain rfl : j = p := by omega
              obtain ⟨hg', hu, hb, hko, hkb⟩ := hin
              have HG' := Lib.hid hg'
              have HU := Lib.hid hu
              have HB := Lib.hid hb
              have HKO := Lib.hid hko
              have HKB := Lib.hid hkb
              clear hg' hu hb hko hkb
              gi_wp2
              exact ⟨HKO.out, HKB.out, by rw [HPOST.out, HP.out]; exact HG'.out, HU.out, HB.out⟩
    · rintro D xs W hD hS ⟨⟨⟨ao, k, co, hbo, hac⟩, hbl, hbel⟩, hbu, hbb⟩ hK
      have cb := hbo.cell
      go_wp2
      have hr : ∀ r, some D = some r → ∃ o : Obj, W.heap[r]? = some o ∧ o.isCells = false := fun r e => by cases e; exact ⟨_, hK, rfl⟩
      refine ret_m1 hK (results_tmp2 rfl _ _ _) ⟨_, _, _, rfl, ?_, hbel.trans (below_shut (Nat.le_trans hB0.size hD) hK)⟩
      have e1 : Ent.pruneOf keep bottom es xs = Ent.prune es keep bottom := by
        rw [← Ent.pruneGo_all (right_pairwise HR.out) keep bottom]
        have := Ent.segs_prune (right_pairwise HR.out) keep bottom (xs := xs.map Subtype.val) (a := 0) (by rw [HN.out]; exact hS)
        rw [List.drop_zero] at this
        rw [this]
        simp [Ent.pruneOf, List.flatMap_map]
      rw [← e1]
      exact hac.turned (grownBy_putObj' W D _) hr
    · rintro D c pre W _ _ h _
      exact h.elim
end Go.Proofs.Ytlipgaefflecaaa
