/- An arm of master.Do: a member is whole. -/
import Derived.Test.YtincllchoflpmaaMsJ
import Derived.Laws.StructEq
namespace Go.Proofs.Ytincllchoflpmaa
open Go.RowKit
set_option linter.unusedVariables false

theorem mb_held : Try.prog.stoodInHeld 48 = false := by kernel_rfl
theorem mb_guard : Try.prog.eqGuardType Try.prog.depth 48 = false := by kernel_rfl
theorem mb_fields : Try.prog.underlying 48 = some (.struct (Try.prog.fieldsOf 48)) := by kernel_rfl
theorem mb_eqB (m o : Mb) : decide (m = o) = ((m.node == o.node) && (m.birth == o.birth) && (m.whole == o.whole)) := by
  cases m; cases o
  rw [Bool.eq_iff_iff]
  simp [and_assoc]
theorem mb_equal (m o : Mb) (w : World) : (Op.equalIn 10000 48 (.agg #[.int .i64 m.node, .int .i64 m.birth, .bool m.whole]) (.agg #[.int .i64 o.node, .int .i64 o.birth, .bool o.whole])).run Try.prog w = .ok (decide (m = o)) w := by
  rw [run_equalIn_struct w _ _ _ _ mb_fields mb_held, mb_eqB]
  simp only [Program.fieldsOf, Try.underlying48]
  by_cases h1 : m.node = o.node
  · by_cases h2 : m.birth = o.birth
    · by_cases h3 : m.whole = o.whole
      · simp [Op.eqFields, go_sem, h1, h2, h3, Try.underlying3, Try.underlying4]
      · simp [Op.eqFields, go_sem, h1, h2, h3, Try.underlying3, Try.underlying4]
    · simp [Op.eqFields, go_sem, h1, h2, Try.underlying3, Try.underlying4]
  · simp [Op.eqFields, go_sem, h1, Try.underlying3, Try.underlying4]
theorem own_set {w : World} {B e s n c g : Nat} {cs : List Value} (h : w.ownsRow B e s (.slice (some ⟨g, 0, none⟩) n c) n cs) (k : Nat) (u : Value) : (w.setCell ⟨g, k, none⟩ u).ownsRow B e s (.slice (some ⟨g, 0, none⟩) n c) n (cs.set k u) := by
  refine ⟨by rw [List.length_set]; exact h.1, ?_⟩
  rcases h.2 with ⟨h1, _⟩ | ⟨g', cap, cur, h1, h2, h3, h4, h5, h6, h7⟩
  · cases h1
  · cases h1
    refine .inr ⟨g, c, cur.setIfInBounds k u, rfl, h2, ?_, h4, h5, by rw [Array.size_setIfInBounds]; exact h6, ?_⟩
    · simp only [World.setCell, Array.getElem?_modify]
      rw [if_pos trivial, h3]
      rfl
    · rw [Array.toList_setIfInBounds, ← h7, List.take_set]
theorem mv_setW : ∀ (l : List Mb) (i : Nat), i < l.length → mv (l.set i ⟨(nth l i).node, (nth l i).birth, true⟩) = (mv l).set (i * 3 + 2) (.bool true)
  | [], i, h => by simp at h
  | m :: l, 0, _ => by simp [mv, mcells, nth]
  | m :: l, i + 1, h => by
    have ih := mv_setW l i (by simpa using h)
    have e : nth (m :: l) (i + 1) = nth l i := by simp [nth]
    rw [e, List.set_cons_succ]
    unfold mv at *
    rw [List.flatMap_cons, List.flatMap_cons, ih, List.set_append_right _ _ (by simp [mcells]; omega)]
    congr 2
    simp [mcells]
    omega
theorem SwS.setW {w W : World} {B b2 b3 b4 g i : Nat} {c : Cf} {ast : Option Addr} {cc cs : Nat} {x : Cm} (h : SwS w W B b2 b3 b4 c (some ⟨g, 0, none⟩) cc ast cs x) (hi : i < c.chain.length) :
    W.frozen? ⟨g, i * 3 + 2, none⟩ = false ∧ SwS w (W.setCell ⟨g, i * 3 + 2, none⟩ (.bool true)) B b2 b3 b4 ⟨c.epoch, c.chain.set i ⟨(nth c.chain i).node, (nth c.chain i).birth, true⟩, c.stores⟩ (some ⟨g, 0, none⟩) cc ast cs x := by
  have hg : B ≤ g := own_low h.own.chain.2 _ rfl
  have hb : Below B W (W.setCell ⟨g, i * 3 + 2, none⟩ (.bool true)) := (Below.refl _ _).setCell (p := ⟨g, i * 3 + 2, none⟩) hg _
  have ho : Oth (some ⟨g, 0, none⟩) W (W.setCell ⟨g, i * 3 + 2, none⟩ (.bool true)) := Oth.set (p := ⟨g, i * 3 + 2, none⟩) (x := ⟨g, 0, none⟩) (Oth.refl _ _) rfl rfl _
  have hl : AccM (W.setCell ⟨g, i * 3 + 2, none⟩ (.bool true)) B (some ⟨g, 0, none⟩) c.chain.length cc (c.chain.set i ⟨(nth c.chain i).node, (nth c.chain i).birth, true⟩) := ⟨by simp, by rw [mv_setW _ _ hi]; exact own_set h.own.chain.2 _ _⟩
  have hst : AccI (W.setCell ⟨g, i * 3 + 2, none⟩ (.bool true)) B ast c.stores.length cs c.stores := ⟨h.own.stores.1, own_oth h.own.stores.2.1 ho (own_ne h.own.chain.2 h.own.stores.2.1 (by decide)), h.own.stores.2.2⟩
  have hbx := h.box.later2 hb h.low
  have hlen : (c.chain.set i ⟨(nth c.chain i).node, (nth c.chain i).birth, true⟩).length = c.chain.length := by simp
  refine ⟨(own_spare h.own.chain.2).2 _, ⟨⟨hbx.cf.epoch, ?_, hbx.cf.stores⟩, hbx.cm, hbx.res, hbx.f2, hbx.f4, hbx.below, hbx.place⟩, CfO.mk (c := ⟨c.epoch, c.chain.set i ⟨(nth c.chain i).node, (nth c.chain i).birth, true⟩, c.stores⟩) ?_ hst, h.low, by rw [World.size_setCell]; exact h.base⟩
  · simp only [hlen]; exact hbx.cf.chain
  · simp only [hlen]; exact hl

set_option maxRecDepth 8000 in
set_option maxHeartbeats 2000000 in
theorem arm_whole {w W : World} {B b2 b3 b4 : Nat} {c : Cf} {ac ast : Option Addr} {cc cs : Nat} {x : Cm} {pl : Int} {lo : Nat} {hs : Bool} {r : Cf × Int} {K1 : Act → World → Prop} (S : SwS w W B b2 b3 b4 c ac cc ast cs x) (G : StepG c x) (hn : c.stores.length ≤ 1000000) (hk : x.kind = 3) (hpl : pl = c.place x.node) (hlo : lo = Ms.low c.stores x.node) (hhs : hs = Ms.has c.stores x.node) (hr : r = c.step x)
    (hK : ∀ a w', Code.wp Try.prog doTail (bodyPost Try.prog Try.f18 (DoP w r)) a w' → K1 a w') {u0 u1 u5 u6 u11 u12 u13 u14 u15 u16 u17 u18 u19 u20 u21 u22 u23 u24 u25 u26 u27 u28 u29 u30 u31 u32 u33 u34 u35 u36 u37 u38 u39 u40 u41 u42 u43 u44 u45 u46 u47 u48 u49 u50 u51 u52 u53 u54 u55 u56 u57 u58 u59 u60 u61 u62 u64 u65 u66 u67 u68 u69 u70 u71 u72 u73 u74 u75 u76 u77 u78 u79 u80 u81 u82 u83 u84 u85 u86 u87 u88 u89 u90 u91 u92 u93 u94 u95 u96 u97 u98 u99 u100 u101 u102 u103 u104 u105 u106 u107 u108 u109 u110 u111 u112 u113 u114 u115 u116 u117 u118 u119 u120 u121 u122 u123 u124 u125 u126 u127 u128 u129 u130 u131 u132 u133 u134 u135 u136 u137 u138 u139 u140 u141 u142 u143 u144 u145 u146 u147 u148 u149 u150 u151 u152 u153 u154 u155 u156 u157 u158 u159 u160 u161 u162 u163 : Value} :
    Code.wp Try.prog doSwitch (Exit.then K1 (bodyPost Try.prog Try.f18 (DoP w r))) ⟨#[u0, u1, .pointer (some ⟨b2, 0, none⟩), .pointer (some ⟨b3, 0, none⟩), .pointer (some ⟨b4, 0, none⟩), u5, u6, .int .i64 pl, .int .i64 (lo : Nat), .bool hs, .int .i64 0, u11, u12, u13, u14, u15, u16, u17, u18, u19, u20, u21, u22, u23, u24, u25, u26, u27, u28, u29, u30, u31, u32, u33, u34, u35, u36, u37, u38, u39, u40, u41, u42, u43, u44, u45, u46, u47, u48, u49, u50, u51, u52, u53, u54, u55, u56, u57, u58, u59, u60, u61, u62, .int .i64 3, u64, u65, u66, u67, u68, u69, u70, u71, u72, u73, u74, u75, u76, u77, u78, u79, u80, u81, u82, u83, u84, u85, u86, u87, u88, u89, u90, u91, u92, u93, u94, u95, u96, u97, u98, u99, u100, u101, u102, u103, u104, u105, u106, u107, u108, u109, u110, u111, u112, u113, u114, u115, u116, u117, u118, u119, u120, u121, u122, u123, u124, u125, u126, u127, u128, u129, u130, u131, u132, u133, u134, u135, u136, u137, u138, u139, u140, u141, u142, u143, u144, u145, u146, u147, u148, u149, u150, u151, u152, u153, u154, u155, u156, u157, u158, u159, u160, u161, u162, u163], []⟩ W := by
  have HOK := Lib.hid ((Cf.ok_iff c).1 G.1)
  have HK := Lib.hid hK
  have HG := Lib.hid G
  have HKD := Lib.hid hk
  have HPL := Lib.hid hpl
  have HLO := Lib.hid (And.intro hlo hhs)
  have HR := Lib.hid hr
  have HS := Lib.hid S
  have HHN := Lib.hid hn
  have p0 := S.box.cf.epoch
  have p1 := S.box.cf.chain
  have p2 := S.box.cf.stores
  have q0 := S.box.cm.kind
  have q1 := S.box.cm.node
  have q2 := S.box.cm.birth
  have q3 := S.box.cm.epoch
  simp only [Nat.zero_add] at q1 q2 q3
  have r0 := S.box.res.epoch
  have r1 := S.box.res.chain
  have r2 := S.box.res.stores
  have f2 := S.box.f2
  have f4 := S.box.f4
  clear hK G hk hpl hlo hhs hr S hn
  have hst := step_whole HG.out HKD.out
  by_cases he : x.epoch = c.epoch
  case neg =>
    have HST : Hid (r = (Ms.zero, 21)) := Lib.hid (by rw [HR.out, hst, if_pos he])
    have d0 : (x.epoch != c.epoch) = true := by simp [he]
    clear he hst
    conv => arg 2; whnf
    go_wp2
    refine HK.out _ _ ?_
    exact tail_err HS.out.box rfl HST.out
  have d0 : (x.epoch != c.epoch) = false := by simp [he]
  rw [if_neg (by simp [he])] at hst
  clear he
  have HB0 := Below.refl W.heap.size W
  by_cases hp0 : 0 ≤ pl
  case neg =>
    have HST : Hid (r = (Ms.zero, 23)) := Lib.hid (by rw [HR.out, hst, if_neg (fun h => place_no (by rw [← HPL.out]; exact hp0) h.1)])
    have d1 : decide (pl < (0 : Int)) = true := decide_eq_true (by omega)
    clear hp0 hst
    conv => arg 2; whnf
    go_upto_region 26 with fail
    refine wp_region_class (w0 := W) (by kernel_rfl) (by kernel_rfl) (Below.refl _ _) ?_
    repeat (first | go_big_quiet_step (fail))
    refine wpQuiet_nil ?_
    intro w1 hb1; replace hb1 := BW.of hb1
    have HT := Lib.hid (HS.out.below hb1)
    clear hb1 p0 p1 p2 q0 q1 q2 q3 r0 r1 r2 f2 f4
    go_wp2
    refine HK.out _ _ ?_
    exact tail_err HT.out.box rfl HST.out
  have hpp := place_lt (c := c) (n := x.node) (by rw [← HPL.out]; exact hp0)
  rw [← HPL.out] at hpp
  obtain ⟨i, hi⟩ : ∃ i, i = Ms.at c.chain x.node := ⟨_, rfl⟩
  have hnode := Ms.at_node (l := c.chain) (n := x.node)
  rw [← hi] at hst hpp
  obtain ⟨hlt, hpe⟩ := hpp
  rw [hpe]
  have d1 : decide ((i : Int) < (0 : Int)) = false := decide_eq_false (by omega)
  obtain ⟨g, rfl, hg1, hg2⟩ := own_form HS.out.own.chain.2 (by omega)
  obtain ⟨b, off, hbo, hat⟩ := HS.out.own.chain.ms.get hlt
  cases hbo
  have hgd : c.chain.getD i default = nth c.chain i := rfl
  have hnd : (nth c.chain i).node = x.node := by
    rw [nth_eq _ hlt]
    subst hi
    exact hnode hlt
  rw [hgd] at hst
  have HSET : Hid (r = if nth c.chain i = ⟨x.node, x.birth, false⟩ then (⟨c.epoch, c.chain.set i ⟨x.node, x.birth, true⟩, c.stores⟩, 0) else (Ms.zero, 23)) := Lib.hid (by
    rw [HR.out, hst]
    by_cases h : nth c.chain i = ⟨x.node, x.birth, false⟩
    · rw [if_pos ⟨hlt, h⟩, if_pos h]
    · rw [if_neg (fun h' => h h'.2), if_neg h])
  have m1 := hat.node
  have m2 := hat.birth
  have m3 := hat.whole
  obtain ⟨m, hm⟩ : ∃ m, m = nth c.chain i := ⟨_, rfl⟩
  rw [← hm] at m1 m2 m3 HSET hnd
  simp only [Nat.zero_add] at m1 m2 m3
  have HM := Lib.hid hm
  have HLT := Lib.hid hlt
  obtain ⟨n, hn⟩ : ∃ n, n = c.chain.length := ⟨_, rfl⟩
  have HN := Lib.hid hn
  rw [← hn] at p1 hlt
  have hl5 := HOK.out.len
  rw [← hn] at hl5
  have i1 : (0 : Int) ≤ (i : Int) := by omega
  have i2 : (i : Int) < (n : Int) := by omega
  obtain ⟨eq, heq⟩ : ∃ eq, eq = decide (m = ⟨x.node, x.birth, false⟩) := ⟨_, rfl⟩
  have HEQ := Lib.hid heq
  have hgu : ∀ (x y : Operand) (xs ys : Array Value) (w : World), (eqGuard .neq 48 x y (.agg xs) (.agg ys)).run Try.prog w = .ok () w := fun x y xs ys w => run_eqGuard_agg w .neq 48 x y xs ys mb_guard
  have hne : ∀ w : World, (binOp .neq 48 (.agg #[.int .i64 m.node, .int .i64 m.birth, .bool m.whole]) (.agg #[.int .i64 x.node, .int .i64 x.birth, .bool false])).run Try.prog w = .ok (.bool (!eq)) w := fun w => by
    rw [run_neq_struct, mb_equal m ⟨x.node, x.birth, false⟩, heq]
    rfl
  clear hp0 hst hpe hi hnode hgd hm hn hg1 hg2 hat hnd heq
  conv => arg 2; whnf
  go_upto_region 26 with fail
  refine wp_region_class (w0 := W) (by kernel_rfl) (by kernel_rfl) (Below.refl _ _) ?_
  have l1 := BW.cell p1
  have l2 := BW.cell q1
  have l3 := BW.cell q2
  have l4 := BW.cell m1
  have l5 := BW.cell m2
  have l6 := BW.cell m3
  repeat (first | go_big_quiet_step (fail))
  refine wpQuiet_nil ?_
  intro w1 hb1; replace hb1 := BW.of hb1
  clear l1 l2 l3 l4 l5 l6
  have HT := Lib.hid (HS.out.below hb1)
  cases eq with
  | false =>
    have HST : Hid (r = (Ms.zero, 23)) := Lib.hid (by rw [HSET.out, if_neg (by have := HEQ.out; simpa using this.symm)])
    clear hb1 p0 p1 p2 q0 q1 q2 q3 r0 r1 r2 f2 f4 m1 m2 m3 hgu hne
    go_wp2
    refine HK.out _ _ ?_
    exact tail_err HT.out.box rfl HST.out
  | true =>
  have hme : m = ⟨x.node, x.birth, false⟩ := by have := HEQ.out; simpa using this.symm
  have hsw := HT.out.setW (i := i) HLT.out
  rw [← HM.out, hme] at hsw
  have HST : Hid (r = (⟨c.epoch, c.chain.set i ⟨x.node, x.birth, true⟩, c.stores⟩, 0)) := Lib.hid (by rw [HSET.out, if_pos hme])
  have HSW := Lib.hid hsw
  have zf := hsw.1
  replace p1 := cell_later hb1 p1
  replace m3 := cell_later hb1 m3
  clear hme hsw hb1 p0 p2 q0 q1 q2 q3 r0 r1 r2 f2 f4 m1 m2 hgu hne HEQ
  go_upto_region 23 with fail
  have ht := HSW.out.2
  obtain ⟨W2, hW2⟩ : ∃ W2, w1.setCell ⟨g, i * 3 + 2, none⟩ (.bool true) = W2 := ⟨_, rfl⟩
  rw [hW2] at ht ⊢
  have hlen : (c.chain.set i ⟨x.node, x.birth, true⟩).length = n := by rw [HN.out]; simp
  have hfin := cset_at (c := ⟨c.epoch, c.chain.set i ⟨x.node, x.birth, true⟩, c.stores⟩) (ac := some ⟨g, 0, none⟩) (cc := cc) (ast := ast) (cs := cs) ht.box.res
  have hbe := cset_below (c := ⟨c.epoch, c.chain.set i ⟨x.node, x.birth, true⟩, c.stores⟩) (ac := some ⟨g, 0, none⟩) (cc := cc) (ast := ast) (cs := cs) ht.box.below ht.box.place.2.1
  have hown : CfO (cset W2 b4 ⟨c.epoch, c.chain.set i ⟨x.node, x.birth, true⟩, c.stores⟩ (some ⟨g, 0, none⟩) cc ast cs) B ⟨c.epoch, c.chain.set i ⟨x.node, x.birth, true⟩, c.stores⟩ (some ⟨g, 0, none⟩) cc ast cs := cset_low ht.own ht.low.2.2.1
  have x0 := ht.box.cf.epoch
  have x1 := ht.box.cf.chain
  have x2 := ht.box.cf.stores
  have s0 := ht.box.res.epoch
  have s1 := ht.box.res.chain
  have s2 := ht.box.res.stores
  have f4 := ht.box.f4
  have y0 := hfin.epoch
  have y1 := hfin.chain
  have y2 := hfin.stores
  have HOW := Lib.hid (hown.mono ht.low.2.2.2)
  unfold cset at y0 y1 y2 hbe HOW
  simp only [hlen] at x1 y0 y1 y2 hbe HOW
  have HBE := Lib.hid hbe
  have HLN := Lib.hid hlen
  clear hW2 ht hfin hbe hown hlen p1 m3 zf
  go_wp2
  refine bodyPost_ret (v := .tuple #[.agg #[.int .i64 c.epoch, .slice (some ⟨g, 0, none⟩) n cc, .slice ast c.stores.length cs], .int .i64 0]) (by simp [results, Try.results18, go_sem, y0, y1, y2]) rfl ?_
  rw [HST.out]
  refine ⟨some ⟨g, 0, none⟩, cc, ast, cs, ?_, HOW.out, HBE.out⟩
  unfold cval
  simp only [HLN.out]
end Go.Proofs.Ytincllchoflpmaa
