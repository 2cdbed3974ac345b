/- merge.Seen. -/
import Derived.Test.YtmmlgcfhcdpolaaMgI
import Derived.Test.YtmmlgcfhcdpolaaReads
import Derived.Test.YtmmlgcfhcdpolaaRange
namespace Go.Proofs.Ytmmlgcfhcdpolaa
open Go.RowKit
set_option linter.unusedVariables false
attribute [local go_sem] Oper.semAt_some

theorem groups_any (a : Option Addr) (n c : Nat) (w : World) :
    Calls Try.prog 30 #[.slice a n c] w fun e w' => e = .returned (.func (.func 38) #[] #[.pointer (some ⟨w.heap.size, 0, none⟩)]) ∧ w' = w.alloc (.cells #[.slice a n c] 26) := by
  go_enter Try.func30, Try.ntmps30
  go_wp2
  go_ret
  exact ⟨rfl, rfl⟩
/-- The sequence of groups. -/
theorem groups_stops (m Bl : Nat) (a : Option Addr) (n c : Nat) (es : List Ent) (wS w : World) (hE : Es wS a n c es) (hSW : Below wS.heap.size wS w) (hBl : Boxed w Bl 26 (.slice a n c)) :
    SeqStopsK Fence.wide (m + 1) Try.prog 38 #[.pointer (some ⟨Bl, 0, none⟩)] (gpv a) (Kb wS.heap.size Bl 26 (.slice a n c)) (fun xs : List (Gp n) => Ent.Segs es 0 (xs.map Subtype.val) n) (fun _ => True) n w :=
  fun l J Jx W hb hJ _ hY h0 => groups1_in m l Bl a n c es wS hE J Jx W (hSW.trans (hb.mono hSW.size)) hJ hY (Boxed.below hBl hb) h0
/-- Entries of the call's own and a number are told. -/
def RetEs (l : List Ent) (er : Int) (w : World) (e : Ending) (w' : World) : Prop := ∃ a n c, e = .returned (.tuple #[.slice a n c, .int .i64 er]) ∧ AccE w' w.heap.size a n c l ∧ Below w.heap.size w w'
theorem ret_es_nil {w w' : World} {er : Int} (hb : Below w.heap.size w w') : RetEs [] er w (.returned (.tuple #[.slice none 0 0, .int .i64 er])) w' := ⟨_, _, _, rfl, AccE.nil _ _, hb⟩
def Ent.seenOf {n : Nat} (up : Nat) (es : List Ent) (xs : List (Gp n)) : List Ent := xs.flatMap fun x => Ent.seenSeg up (Ent.seg es x.1)
theorem seenOf_snoc {n : Nat} (up : Nat) (es : List Ent) (xs : List (Gp n)) (x : Gp n) : Ent.seenOf up es (xs ++ [x]) = Ent.seenOf up es xs ++ Ent.seenSeg up (Ent.seg es x.1) := by simp [Ent.seenOf]
theorem seenSeg_len (up : Nat) (g : List Ent) : (Ent.seenSeg up g).length ≤ 1 := by unfold Ent.seenSeg; split <;> simp
theorem seenOf_len {n : Nat} (up : Nat) (es : List Ent) : ∀ xs : List (Gp n), (Ent.seenOf up es xs).length ≤ xs.length
  | [] => Nat.le_refl _
  | x :: xs => by
    have := seenOf_len up es xs
    have := seenSeg_len up (Ent.seg es x.1)
    unfold Ent.seenOf at *
    simp only [List.flatMap_cons, List.length_append, List.length_cons]
    omega
/-- What a loop that gathers entries holds between two rounds. -/
def Gath (w : World) (Bo Bl : Nat) (lv : Value) (ls : List Ent) (W : World) : Prop :=
  (∃ a k c, Boxed W Bo 26 (.slice a k c) ∧ AccE W w.heap.size a k c ls) ∧ Boxed W Bl 26 lv ∧ Below w.heap.size w W
theorem Gath.own {β : Type} {w : World} {Bo Bl B : Nat} {lv : Value} {f : β → List Ent} (hB : w.heap.size ≤ B) : OwnFrom B (fun s W => Gath w Bo Bl lv (f s) W) := by
  intro s W W' row hs hg hr
  obtain ⟨⟨a, k, c, h1, h2⟩, h3, h4⟩ := hs
  have hr' : ∀ r, row = some r → ∃ o : Obj, W.heap[r]? = some o ∧ o.isCells = false := fun r e => (hr r e).2
  exact ⟨⟨a, k, c, Boxed.turned h1 hg hr', h2.turned hg hr'⟩, Boxed.turned h3 hg hr', h4.grown hg h4.size (fun k e => Nat.le_trans hB (hr k e).1)⟩
theorem adj_lt {l : List Ent} (h : Ent.adj l l.length) : ∀ (d i : Nat), i + d + 1 < l.length → Ent.lt (nth l i) (nth l (i + d + 1))
  | 0, i, hi => by
    have := h (i + 1) (by omega) hi
    rw [Nat.add_sub_cancel] at this
    exact Ent.cmp_lt.1 this
  | d + 1, i, hi => by
    have h1 := adj_lt h d i (by omega)
    have h2 := h (i + (d + 1) + 1) (by omega) hi
    rw [Nat.add_sub_cancel] at h2
    exact Ent.lt_trans h1 (Ent.cmp_lt.1 h2)
theorem right_pairwise {l : List Ent} (h : Ent.rightB l = true) : l.Pairwise Ent.lt := by
  rw [List.pairwise_iff_getElem]
  intro i j hi hj hij
  have := adj_lt (rightB_spec.1 h).2 (j - i - 1) i (by omega)
  rw [show i + (j - i - 1) + 1 = j by omega, nth_eq _ hi, nth_eq _ hj] at this
  exact this
set_option maxRecDepth 100000 in
set_option maxHeartbeats 4000000 in
theorem seen_any (a : Option Addr) (n c : Nat) (es : List Ent) (up : Nat) (w : World) (h : Es w a n c es) (hn : n ≤ 30000) (hv : ∀ e ∈ es, e.val.length ≤ 1000000000) :
    Calls Try.prog 16 #[.slice a n c, .int .u64 up] w (fun e w' => RetEs (if Ent.rightB es = true then Ent.seen es up else []) (if Ent.rightB es = true then 0 else 15) w e w') := by
  have hle := h.le.1
  have HN := Lib.hid h.1
  have HE := Lib.hid h
  have HV := Lib.hid hv
  clear h hv
  cases hR : Ent.rightB es with
  | false =>
    have HM : Hid (∀ W, Es W a n c es → Calls Try.prog 14 #[.slice a n c] W fun e w' => e = .returned (.bool false) ∧ Below W.heap.size W w') := Lib.hid fun W h => by rw [← hR]; exact mright_any a n c es W h
    clear hR
    simp only [Bool.false_eq_true, if_false]
    refine calls_marks Try.func16 rfl ?_
    simp only [Try.ntmps16, List.size_toArray, List.length_cons, List.length_nil, Nat.reduceAdd, Nat.reduceSub, Array.replicate_succ, Array.replicate_zero, List.push_toArray, List.append_toArray, List.nil_append, List.cons_append]
    go_wp2_with fail
    refine (HM.out _ (HE.out.below (below_alloc1 _ _))).mono ?_
    rintro e w1 ⟨rfl, hb1⟩
    have HB1 := Lib.hid ((below_alloc1 w (.cells #[.int .u64 up] 22)).trans (hb1.mono (le_alloc (Nat.le_refl _))))
    clear hb1
    go_wp2
    refine ret_m0 (results_tmp2 rfl _ _ _) ?_
    exact ret_es_nil HB1.out
  | true =>
    have HM : Hid (∀ W, Es W a n c es → Calls Try.prog 14 #[.slice a n c] W fun e w' => e = .returned (.bool true) ∧ Below W.heap.size W w') := Lib.hid fun W h => by rw [← hR]; exact mright_any a n c es W h
    have HR := Lib.hid hR
    clear hR
    simp only [if_true]
    refine calls_marks Try.func16 rfl ?_
    simp only [Try.ntmps16, List.size_toArray, List.length_cons, List.length_nil, Nat.reduceAdd, Nat.reduceSub, Array.replicate_succ, Array.replicate_zero, List.push_toArray, List.append_toArray, List.nil_append, List.cons_append]
    go_wp2_with fail
    refine (HM.out _ (HE.out.below (below_alloc1 _ _))).mono ?_
    rintro e w1 ⟨rfl, hb1⟩
    have hbx : Boxed w1 w.heap.size 22 (.int .u64 up) := Boxed.below (Boxed.new w _ _) hb1
    have HBX := Lib.hid hbx
    have HB1 := Lib.hid ((below_alloc1 w (.cells #[.int .u64 up] 22)).trans (hb1.mono (le_alloc (Nat.le_refl _))))
    clear hb1 hbx
    go_wp2_with fail
    refine (groups_any _ _ _ _).mono ?_
    rintro e w2 ⟨rfl, rfl⟩
    go_wp2_with fail
    obtain ⟨W0, hW0⟩ : ∃ W0, (w1.alloc (.cells #[.slice none 0 0] 26)).alloc (.cells #[.slice a n c] 26) = W0 := ⟨_, rfl⟩
    have hsz : W0.heap.size = w1.heap.size + 2 := by rw [← hW0]; simp
    have hws : w.heap.size < w1.heap.size := HBX.out.lt
    have hB0 : Below w.heap.size w W0 := by rw [← hW0]; exact (HB1.out.alloc (Nat.le_of_lt hws) _).alloc (by simp; omega) _
    have hBo : Boxed W0 w1.heap.size 26 (.slice none 0 0) := by rw [← hW0]; exact (Boxed.new w1 _ _).alloc _
    have hBl : Boxed W0 (w1.heap.size + 1) 26 (.slice a n c) := by
      have := Boxed.new (w1.alloc (.cells #[.slice none 0 0] 26)) 26 (.slice a n c)
      rw [World.size_alloc, hW0] at this
      exact this
    have hBu : Boxed W0 w.heap.size 22 (.int .u64 up) := by rw [← hW0]; exact (HBX.out.alloc _).alloc _
    have eg := enters_of Try.func38 (by kernel_rfl) rfl
    have HSZ := Lib.hid hsz
    have HWS := Lib.hid hws
    rw [hW0]
    clear hW0 hsz hws
    refine range_wp (gf := 38) (lb := #[.pointer (some ⟨w1.heap.size + 1, 0, none⟩)]) rfl eg (groups_stops 3 (w1.heap.size + 1) a n c es w W0 HE.out hB0 hBl) (fun h k => h.trans k) (Kb.book hB0.size) (Below.refl _ _) (fun _ => rfl)
      (fun pre W => Gath w w1.heap.size (w1.heap.size + 1) (.slice a n c) (Ent.seenOf up es pre) W ∧ Boxed W w.heap.size 22 (.int .u64 up)) (fun _ _ _ => False)
      (OwnFrom.and (Gath.own hB0.size) (fun s W W' row hs hg hr => Boxed.turned hs hg (fun r e => (hr r e).2))) (fun _ _ _ _ _ hs _ _ => hs) ⟨⟨⟨_, _, _, hBo, AccE.nil _ _⟩, hBl, hB0⟩, hBu⟩ ?_ ?_ ?_
    · apply Exists.intro
      apply And.intro
      · intro l x W K hK
        simp only [gpv]
        gi_wp2
        exact hK
      · rintro l pre ⟨⟨f, t⟩, hft, htn⟩ W ⟨⟨⟨ao, k, co, hbo, hac⟩, hbl, hbel⟩, hbu⟩ hlen
        have hg : Es W (subAn a t f 4) (t - f) (t - f) (Ent.seg es (f, t)) := (HE.out.below hbel).part (Nat.le_of_lt hft) htn (Nat.le_refl _) (by have := HE.out.2.1; omega)
        have hgl : ∀ i, i < t - f → (nth (Ent.seg es (f, t)) i).val.length ≤ 1000000000 := fun i hi => by
          have e1 : nth (Ent.seg es (f, t)) i ∈ Ent.seg es (f, t) := by rw [nth_eq _ (by rw [hg.1]; exact hi)]; exact List.getElem_mem _
          exact HV.out _ (List.mem_of_mem_take (List.mem_of_mem_drop e1))
        have hk : k ≤ 30000 := by
          have h1 := seenOf_len up es pre
          rw [hac.len] at h1
          omega
        have HPOST := Lib.hid (seenOf_snoc up es pre ⟨(f, t), hft, htn⟩)
        have hml := hg.le.1
        dsimp only at HPOST ⊢
        generalize (⟨(f, t), hft, htn⟩ : Gp n) = X at *
        generalize Ent.seg es (f, t) = g at *
        generalize subAn a t f 4 = ag at *
        generalize t - f = m at *
        have cu := hbu.cell
        have HG := Lib.hid hg
        have HGL := Lib.hid hgl
        have HAC := Lib.hid hac
        have HBO := Lib.hid hbo
        have HBL := Lib.hid hbl
        have HBU := Lib.hid hbu
        have HBE := Lib.hid hbel
        clear hg hgl hac hbo hbl hbu hbel hlen
        gi_wp2_with fail
        refine ⟨trivial, ?_⟩
        refine (calls_in (newest_any ag m m g up W HG.out)).mono ?_
        rintro e w2 ⟨rfl, hb2⟩
        have HB2 := Lib.hid hb2
        have hbo2 := (Boxed.below HBO.out hb2).cell
        have hbof := (Boxed.below HBO.out hb2).frozen
        by_cases hi : Ent.idx up g < m
        · obtain ⟨b1, o1, a1, d1, rfl, he1, hv1⟩ := (HG.out.below hb2).vals hi
          have p1 := he1.key
          have p2 := he1.seq
          have p3 := he1.gone
          have p4 := he1.val
          have HV1 := Lib.hid hv1
          have hel := HGL.out _ hi
          have t1 : decide (Ent.idx up g < m) = true := decide_eq_true hi
          clear hb2 he1 hv1
          cases hgo : (nth g (Ent.idx up g)).gone with
          | true =>
            rw [hgo] at p3
            have HGO := Lib.hid hgo
            clear hgo
            gi_wp2
            refine ⟨keeps_below HB2.out, ⟨HB2.out.mono HBE.out.size, fun _ => Boxed.below HBL.out HB2.out⟩, ⟨⟨_, _, _, Boxed.below HBO.out HB2.out, ?_⟩, Boxed.below HBL.out HB2.out, HBE.out.trans (HB2.out.mono HBE.out.size)⟩, Boxed.below HBU.out HB2.out⟩
            have e1 : Ent.seenSeg up g = [] := by
              unfold Ent.seenSeg
              rw [if_neg (fun h => by rw [HGO.out] at h; cases h.2)]
            rw [HPOST.out, e1, List.append_nil]
            exact HAC.out.below HB2.out
          | false =>
            rw [hgo] at p3
            have HGO := Lib.hid hgo
            clear hgo
            gi_wp2_with fail
            refine round_reads 5 7 (fun ⟨_, _, h⟩ => h) (fun _ _ _ _ _ h => h) (by kernel_rfl) (by kernel_rfl) (by kernel_rfl) (fun W' => ∃ V : BW w2, W' = V.w) ⟨⟨w2.drew, (Below.refl _ _).drew⟩, rfl⟩ ?_
            simp only [List.take_succ_cons, List.take_zero, List.drop_succ_cons, List.drop_zero]
            iterate 5
              apply held_step
              · rfl
              · rintro _ ⟨V, rfl⟩
                have m0 := BW.cell hbo2 V
                have m1 := BW.cell p1 V
                have m2 := BW.cell p2 V
                have m3 := BW.cell p3 V
                have m4 := BW.cell p4 V
                go_simp
                rfl
            refine held_nil ?_
            refine walkS_step rfl (fun K hK => ?_)
            go_simp
            have hap := apart_any (nth g (Ent.idx up g)) a1 d1 w2.drew (HV1.out.below ((Below.refl _ _).drew)) hel
            unfold ev at hap
            rw [HGO.out] at hap
            refine hap.mono ?_
            rintro en w3 ⟨a3, c3, rfl, ho3, hb3⟩
            simp only [ev]
            have hb23 : Below w2.heap.size w2 w3 := ((Below.refl w2.heap.size w2).drew).trans hb3
            refine hK _ _ ⟨⟨w3, hb23⟩, rfl⟩ ?_
            refine walkS_step rfl (fun K hK => ?_)
            go_simp
            refine hK _ _ ⟨⟨_, hb23.alloc hb23.size _⟩, rfl⟩ ?_
            refine walkS_nil ?_
            clear hK
            have HB23 := Lib.hid hb23
            have HO3 := Lib.hid ho3
            clear hb3 ho3 hb23 hap p1 p2 p3 p4 hbo2
            have hz1 := HBE.out.size
            have hz2 := HB2.out.size
            have hz3 := HB23.out.size
            go_wp2_with (at_builtin; refine app_ent rfl _ _ rfl w.heap.size rfl (((HAC.out.below HB2.out).below HB23.out).below (below_alloc1 w3 _)) rfl (load_box w3 _ _ _) (HO3.out.bs.below (below_alloc1 w3 _)) (fun _ x y hx hy e => by have h1 := (HO3.out.new x hx).1; have h2 := (HAC.out.new y hy).2; simp at h1; omega) (by omega) (le_alloc (by omega)) ?_; intro a4 c4 w4 h4 hb4 hev4; have hbo4 := Boxed.evol ((Boxed.below (Boxed.below HBO.out HB2.out) HB23.out).alloc _) (((HAC.out.below HB2.out).below HB23.out).below (below_alloc1 w3 _)) (by decide) hev4; have cb4 := hbo4.cell; have fb4 := hbo4.frozen; have HBO4 := Lib.hid hbo4; have H4 := Lib.hid h4; have HB4 := Lib.hid hb4; have HEV4 := Lib.hid hev4; clear hbo4 h4 hb4 hev4)
            have hA3 := ((HAC.out.below HB2.out).below HB23.out).below (below_alloc1 w3 (.cells #[.string (bstr (nth g (Ent.idx up g)).key), .int .u64 (nth g (Ent.idx up g)).seq, .bool (nth g (Ent.idx up g)).gone, .slice a3 (nth g (Ent.idx up g)).val.length c3] 25))
            have hbl4 := Boxed.evol ((Boxed.below (Boxed.below HBL.out HB2.out) HB23.out).alloc _) hA3 (by decide) HEV4.out
            have hbu4 := Boxed.evol ((Boxed.below (Boxed.below HBU.out HB2.out) HB23.out).alloc _) hA3 (by decide) HEV4.out
            have hws := HWS.out
            have hbw := ((((HB2.out.mono hz1).trans (HB23.out.mono (Nat.le_trans hz1 hz2))).alloc (by omega) _).trans HB4.out).setCell (p := ⟨w1.heap.size, 0, none⟩) (Nat.le_of_lt hws) (.slice a4 (k + 1) c4)
            refine ⟨?_, ⟨hbw, fun _ => Boxed.other hbl4 (by omega)⟩, ⟨⟨a4, k + 1, c4, HBO4.out.set _, ?_⟩, Boxed.other hbl4 (by omega), HBE.out.trans hbw⟩, Boxed.other hbu4 (by omega)⟩
            · exact ((((keeps_below HB2.out).trans (keeps_below HB23.out)).trans (KeepsOthers.alloc _ _)).trans (hA3.keeps HEV4.out)).trans (KeepsOthers.setCell _ _ _)
            · rw [HPOST.out]
              have e1 : Ent.seenSeg up g = [nth g (Ent.idx up g)] := by
                unfold Ent.seenSeg
                rw [if_pos ⟨by rw [HG.out.1]; exact hi, HGO.out⟩]
              rw [e1]
              exact H4.out.setBox HBO4.out (by decide)
        · have t1 : decide (Ent.idx up g < m) = false := decide_eq_false hi
          clear hb2
          gi_wp2
          refine ⟨keeps_below HB2.out, ⟨HB2.out.mono HBE.out.size, fun _ => Boxed.below HBL.out HB2.out⟩, ⟨⟨_, _, _, Boxed.below HBO.out HB2.out, ?_⟩, Boxed.below HBL.out HB2.out, HBE.out.trans (HB2.out.mono HBE.out.size)⟩, Boxed.below HBU.out HB2.out⟩
          have e1 : Ent.seenSeg up g = [] := by
            unfold Ent.seenSeg
            rw [if_neg (fun h => hi (by rw [HG.out.1] at h; exact h.1))]
          rw [HPOST.out, e1, List.append_nil]
          exact HAC.out.below HB2.out
    · rintro D xs W hD hS ⟨⟨⟨ao, k, co, hbo, hac⟩, hbl, hbel⟩, hbu⟩ hK
      have cb := hbo.cell
      go_wp2
      have hr : ∀ r, some D = some r → ∃ o : Obj, W.heap[r]? = some o ∧ o.isCells = false := fun r e => by cases e; exact ⟨_, hK, rfl⟩
      refine ret_m1 hK (results_tmp2 rfl _ _ _) ⟨_, _, _, rfl, ?_, hbel.trans (below_shut (Nat.le_trans hB0.size hD) hK)⟩
      have e1 : Ent.seenOf up es xs = Ent.seen es up := by
        rw [← Ent.seenGo_all (right_pairwise HR.out) up]
        have := Ent.segs_seen up (l := es) (xs := xs.map Subtype.val) (a := 0) (by rw [HN.out]; exact hS)
        rw [List.drop_zero] at this
        rw [this]
        simp [Ent.seenOf, List.flatMap_map]
      rw [← e1]
      exact hac.turned (grownBy_putObj' W D _) hr
    · rintro D c pre W _ _ h _
      exact h.elim
end Go.Proofs.Ytmmlgcfhcdpolaa
