/- compact.level, compact.stretch. -/
import Derived.Test.YtlipgaefflecaaaZCgV
import Derived.Test.YtlipgaefflecaaaZCgE
import Derived.Test.YtlipgaefflecaaaRows
import Derived.Test.YtlipgaefflecaaaZBase
import Derived.ProofKit
import Derived.OpenShut
import Derived.ShutString
import Derived.JoinedCond
import Derived.SizedLaws
import Derived.Deep.CondSized
import Derived.Deep.Slices
import Derived.Deep.DeepCutAuto
set_option linter.unusedVariables false
set_option linter.unusedSimpArgs false
section
set_option maxRecDepth 100000
set_option linter.unusedVariables false
set_option linter.unusedSimpArgs false
namespace Go.Proofs.Ytlipgaefflecaaa
open Go.RowKit

def Tab.mn (x y : List UInt8) : List UInt8 := if Ent.klt y x = true then y else x
def Tab.mx (x y : List UInt8) : List UInt8 := if Ent.klt x y = true then y else x
theorem run_mn {P : Program} (w : World) (ts : Array TypeId) (t : TypeId) (x y : List UInt8) : (Builtin.min_ ts t #[.string (bstr x), .string (bstr y)]).run P w = .ok (.string (bstr (Tab.mn x y))) w := by
  unfold Tab.mn
  have e := bstr_beq x y
  rcases Ent.klt_total x y with h | h | h
  · have h2 := Ent.klt_asymm h
    rw [if_neg (by rw [h2]; simp)]
    simp [Builtin.min_, Builtin.min2, Op.stringOp, asBool, bstr_list, h]
  · subst h
    rw [Ent.klt_irrefl]
    simp [Builtin.min_, Builtin.min2, Op.stringOp, asBool, bstr_list]
  · have h2 := Ent.klt_asymm h
    have h3 := Ent.klt_ne h
    rw [if_pos h]
    have h4 : bstr x ≠ bstr y := fun e => h3 (bstr_inj e).symm
    simp [Builtin.min_, Builtin.min2, Op.stringOp, asBool, bstr_list, h2, Ne.symm h3, h4]
theorem run_mx {P : Program} (w : World) (ts : Array TypeId) (t : TypeId) (x y : List UInt8) : (Builtin.max_ ts t #[.string (bstr x), .string (bstr y)]).run P w = .ok (.string (bstr (Tab.mx x y))) w := by
  unfold Tab.mx
  cases h : Ent.klt x y <;> simp [Builtin.max_, Builtin.max2, Op.stringOp, asBool, bstr_list, h]
/-- A version as a value. -/
def vv (a : Option Addr) (n c : Nat) (sq nx wl : Int) : Value := .agg #[.slice a n c, .int .u64 sq, .int .i64 nx, .int .i64 wl]
def Tab.at (k : Int) (l : List Tab) : List Tab := l.filter fun t => t.level == k
theorem at_snoc (k : Int) (l : List Tab) {i : Nat} (hi : i < l.length) : Tab.at k (l.take (i + 1)) = Tab.at k (l.take i) ++ (if ((nth l i).level == k) = true then [nth l i] else []) := by
  unfold Tab.at
  rw [take_snoc l hi, List.filter_append]
  congr 1
  cases h : (nth l i).level == k <;> simp [h]
/-- Rows of tables of the call's own, nil if there are none. -/
def RetTs (B : Nat) (l : List Tab) (w : World) (e : Ending) (w' : World) : Prop := ∃ a n c, e = .returned (.slice a n c) ∧ AccT w' B a n c l ∧ (l = [] → a = none ∧ c = 0) ∧ Below B w w'
set_option maxHeartbeats 2000000 in
theorem level_any (a : Option Addr) (n c : Nat) (vt : List Tab) (sq nx wl k : Int) (w : World) (h : Ts w a n c vt) (hn : n ≤ 1000000) :
    Calls Try.prog 19 #[vv a n c sq nx wl, .int .i64 k] w (RetTs w.heap.size (Tab.at k vt) w) := by
  have hle := h.le.1
  have HN := Lib.hid h.1
  have HE := Lib.hid h
  clear h
  unfold vv
  go_enter Try.func19, Try.ntmps19
  go_wp2_with fail
  go_loopw [5, 11] (fun o iv wr => ∃ (i m co : Nat) (ao : Option Addr), i ≤ n ∧ m ≤ i ∧ o = .slice ao m co ∧ iv = .int .i64 i ∧ Hid (AccT wr w.heap.size ao m co (Tab.at k (vt.take i))) ∧ Hid (Tab.at k (vt.take i) = [] → ao = none ∧ co = 0) ∧ Hid (Below w.heap.size w wr)) (fun _ iv _ => n - (intOf iv).toNat)
  case atStart => exact ⟨0, 0, 0, none, Nat.zero_le _, Nat.le_refl _, rfl, rfl, Lib.hid (AccT.nil _ _), Lib.hid (fun _ => ⟨rfl, rfl⟩), Lib.hid (below_alloc1 _ _)⟩
  case round =>
    obtain ⟨i, m, co, ao, hi, hmi, rfl, rfl, hac, hnil, hbl⟩ := hrel
    by_cases hin : i < n
    · obtain ⟨b1, o1, rfl, he⟩ := (HE.out.below hbl.out).get hin
      have c1 := he.file
      have c2 := he.level
      have c3 := he.first
      have c4 := he.last
      have c5 := he.size
      have HSN := Lib.hid (at_snoc k vt (i := i) (by rw [HN.out]; exact hin))
      clear he
      generalize nth vt i = t at *
      cases ht : (t.level == k) with
      | true =>
        rw [ht] at HSN
        have HL := Lib.hid hnil
        have HS2 : Hid (Tab.at k (vt.take (i + 1)) = Tab.at k (vt.take i) ++ [t]) := Lib.hid HSN.out
        clear HSN hnil
        go_wp2_with (at_builtin; refine app_tabs rfl _ _ rfl w.heap.size rfl ((hac.out.below (below_alloc1 _ _)).below (below_alloc1 _ _)) rfl (ts_one (tab_boxAt (by simp) t)) (by omega) (le_alloc (le_alloc hbl.out.size)) ?_; intro a4 c4 w4 h4 hb4 _; have H4 := Lib.hid h4; have HB4 := Lib.hid (((hbl.out.alloc hbl.out.size _).alloc (le_alloc hbl.out.size) _).trans hb4); clear h4 hb4)
        go_roundw
        case rel => exact ⟨i + 1, m + 1, c4, a4, hin, by omega, rfl, by go_num, by rw [HS2.out]; exact H4, Lib.hid (fun e => by rw [HS2.out] at e; simp at e), HB4⟩
        case measure => simp [intOf]; omega
      | false =>
        rw [ht] at HSN
        have HS2 : Hid (Tab.at k (vt.take (i + 1)) = Tab.at k (vt.take i)) := Lib.hid (by rw [HSN.out]; simp)
        clear HSN
        go_wp2
        go_roundw
        case rel => exact ⟨i + 1, m, co, ao, hin, by omega, rfl, by go_num, by rw [HS2.out]; exact Lib.hid (hac.out.below (below_alloc1 _ _)), by rw [HS2.out]; exact hnil, Lib.hid (hbl.out.alloc hbl.out.size _)⟩
        case measure => simp [intOf]; omega
    · obtain rfl : n = i := by omega
      have e1 : vt.take n = vt := by rw [← HN.out, List.take_length]
      rw [e1] at hac hnil
      have HP : Hid (RetTs w.heap.size (Tab.at k vt) w (.returned (.slice ao m co)) wr) := Lib.hid ⟨ao, m, co, rfl, hac.out, hnil.out, hbl.out⟩
      clear e1 hac hnil
      go_wp2
      go_ret
      exact HP.out
/-- The least first key and the greatest last one. -/
def Tab.lo (l : List Tab) : List UInt8 := l.foldl (fun m t => Tab.mn m t.first) (nth l 0).first
def Tab.hi (l : List Tab) : List UInt8 := l.foldl (fun m t => Tab.mx m t.last) (nth l 0).last
def Tab.loTo (l : List Tab) (i : Nat) : List UInt8 := (l.take i).foldl (fun m t => Tab.mn m t.first) (nth l 0).first
def Tab.hiTo (l : List Tab) (i : Nat) : List UInt8 := (l.take i).foldl (fun m t => Tab.mx m t.last) (nth l 0).last
theorem loTo_snoc (l : List Tab) {i : Nat} (hi : i < l.length) : Tab.loTo l (i + 1) = Tab.mn (Tab.loTo l i) (nth l i).first := by
  unfold Tab.loTo; rw [take_snoc l hi, List.foldl_append]; rfl
theorem hiTo_snoc (l : List Tab) {i : Nat} (hi : i < l.length) : Tab.hiTo l (i + 1) = Tab.mx (Tab.hiTo l i) (nth l i).last := by
  unfold Tab.hiTo; rw [take_snoc l hi, List.foldl_append]; rfl
set_option maxHeartbeats 2000000 in
theorem stretch_any (a : Option Addr) (n c : Nat) (l : List Tab) (w : World) (h : Ts w a n c l) (hn : 0 < n) :
    Calls Try.prog 30 #[.slice a n c] w fun e w' => e = .returned (.tuple #[.string (bstr (Tab.lo l)), .string (bstr (Tab.hi l))]) ∧ Below w.heap.size w w' := by
  have hle := h.le.1
  have HN := Lib.hid h.1
  have HE := Lib.hid h
  obtain ⟨b, off, rfl, h0⟩ := h.get hn
  have f0 := h0.first
  have l0 := h0.last
  rw [Nat.zero_mul, Nat.add_zero] at f0 l0
  clear h h0
  go_enter Try.func30, Try.ntmps30
  go_wp2_with fail
  refine wp_region_class (w0 := w) (by kernel_rfl) (by kernel_rfl) (Below.refl _ _) ?_
  have m1 := BW.cell f0
  have m2 := BW.cell l0
  repeat (first | go_big_quiet_step (fail))
  refine wpQuiet_nil ?_
  intro w1 hb1; replace hb1 := BW.of hb1
  have HB1 := Lib.hid hb1
  have HL0 : Hid (Tab.loTo l 0 = (nth l 0).first ∧ Tab.hiTo l 0 = (nth l 0).last) := Lib.hid ⟨rfl, rfl⟩
  clear hb1 m1 m2 f0 l0
  go_wp2_with fail
  go_loopw [2, 3, 16] (fun x y iv wr => ∃ (i : Nat), i ≤ n ∧ x = .string (bstr (Tab.loTo l i)) ∧ y = .string (bstr (Tab.hiTo l i)) ∧ iv = .int .i64 i ∧ Hid (Below w.heap.size w wr)) (fun _ _ iv _ => n - (intOf iv).toNat)
  case atStart => exact ⟨0, Nat.zero_le _, by rw [HL0.out.1], by rw [HL0.out.2], rfl, HB1⟩
  case round =>
    obtain ⟨i, hi, rfl, rfl, rfl, hbl⟩ := hrel
    by_cases hin : i < n
    · obtain ⟨b1, o1, ea, he⟩ := (HE.out.below hbl.out).get hin
      cases ea
      have c1 := he.file
      have c2 := he.level
      have c3 := he.first
      have c4 := he.last
      have c5 := he.size
      have HSN := Lib.hid (And.intro (loTo_snoc l (i := i) (by rw [HN.out]; exact hin)) (hiTo_snoc l (i := i) (by rw [HN.out]; exact hin)))
      clear he
      generalize nth l i = t at *
      generalize Tab.loTo l i = x at *
      generalize Tab.hiTo l i = y at *
      go_wp2_with fail
      refine wp_region_class (w0 := wr.alloc (.cells #[.int .i64 t.file, .int .i64 t.level, .string (bstr t.first), .string (bstr t.last), .int .i64 t.size] 39)) (by kernel_rfl) (by kernel_rfl) (Below.refl _ _) ?_
      have m1 := BW.cell (tab_box wr t).first
      have m2 := BW.cell (tab_box wr t).last
      have k1 := fun (W : World) ts tt => run_mn (P := Try.prog) W ts tt x t.first
      have k2 := fun (W : World) ts tt => run_mx (P := Try.prog) W ts tt y t.last
      repeat (first | go_big_quiet_step (fail))
      refine wpQuiet_nil ?_
      intro w2 hb2; replace hb2 := BW.of hb2
      have HB2 := Lib.hid ((hbl.out.alloc hbl.out.size _).trans (hb2.mono (le_alloc hbl.out.size)))
      clear hb2 m1 m2 k1 k2
      go_wp2
      go_roundw
      case rel => exact ⟨i + 1, hin, by rw [HSN.out.1], by rw [HSN.out.2], by go_num, HB2⟩
      case measure => simp [intOf]; omega
    · obtain rfl : n = i := by omega
      have HP : Hid (Tab.loTo l n = Tab.lo l ∧ Tab.hiTo l n = Tab.hi l) := Lib.hid (by unfold Tab.loTo Tab.hiTo Tab.lo Tab.hi; rw [← HN.out, List.take_length]; exact ⟨rfl, rfl⟩)
      rw [HP.out.1, HP.out.2]
      go_wp2
      go_ret2
      exact ⟨rfl, hbl.out⟩
end Go.Proofs.Ytlipgaefflecaaa
end

section
set_option linter.unusedVariables false
set_option linter.unusedSimpArgs false
namespace Go.Proofs.Ytlipgaefflecaaa
open Go.RowKit

section
variable {P : Program} {md : Region.Mode} {ops : Array Oper} {Q : Exit → Act → World → Prop} {S : World → Prop}

def inTail (ts : List Nat) (j : Nat) : Bool := ts.contains j
/-- What is listed is closed; nothing of the tail is listed. -/
structure HInv (md : Region.Mode) (ops : Array Oper) (l0 : Array Bool) (ts : List Nat) (listed : Array Bool) : Prop where
  size : listed.size = ops.size
  closed : ∀ j oj, ops[j]? = some oj → listed.getD j false = true → ∀ e ∈ oj.after, Region.binds md e = true → listed.getD e.on false = true
  tail : ∀ t, inTail ts t = true → t < ops.size → listed.getD t true = false
  base : ∀ j, l0.getD j false = true → listed.getD j false = true
theorem HInv.set {l0 : Array Bool} {ts : List Nat} {i : Nat} {listed : Array Bool} (inv : HInv md ops l0 ts listed) (hi : i ∈ Region.ready md ops listed) (hin : inTail ts i = false) : HInv md ops l0 ts (listed.setIfInBounds i true) := by
  obtain ⟨_, oi, hoi, hall⟩ := mem_ready.1 hi
  refine ⟨by simp [inv.size], fun j oj hj hl e he hb => ?_, fun t ht ht' => by rw [getD_set_ne true (fun e => by rw [e, ht] at hin; cases hin)]; exact inv.tail t ht ht', fun j hj => getD_set_true (inv.base j hj)⟩
  by_cases hij : i = j
  · subst hij
    have : oj = oi := Option.some.inj (hj.symm.trans hoi)
    subst this
    exact getD_set_true (hall e he hb)
  · rw [getD_set_ne false hij] at hl
    exact getD_set_true (inv.closed j oj hj hl e he hb)
/-- Each head (what is neither listed at the start nor of the tail) is waited for by a later head or by the tail's first. -/
def sink2 (md : Region.Mode) (ops : Array Oper) (l0 : Array Bool) (ts : List Nat) (t0 : Nat) : Bool :=
  (List.range ops.size).all fun i => l0.getD i false || inTail ts i || (List.range ops.size).any fun j => decide (i < j) && !l0.getD j false && (!inTail ts j || decide (j = t0)) && Region.waitsFor md ops j i
/-- Each of the tail but its first waits for another one of the tail. -/
def chain2 (md : Region.Mode) (ops : Array Oper) (ts : List Nat) (t0 : Nat) : Bool :=
  ts.all fun t => decide (t = t0) || ts.any fun u => decide (u < ops.size) && Region.waitsFor md ops t u
theorem tail_waits2 {l0 : Array Bool} {ts : List Nat} {t0 : Nat} {listed : Array Bool} (hs : sink2 md ops l0 ts t0 = true) (hc : chain2 md ops ts t0 = true) (inv : HInv md ops l0 ts listed) :
    ∀ (d i : Nat), ops.size - i = d → i < ops.size → inTail ts i = false → listed.getD i true = false → ∀ t, inTail ts t = true → t ∉ Region.ready md ops listed := by
  intro d
  induction d using Nat.strongRecOn with
  | _ d ih =>
    intro i hd hi hnt hun t ht hr
    obtain ⟨_, ot, hot, hall⟩ := mem_ready.1 hr
    have hi0 : l0.getD i false = false := by
      cases e : l0.getD i false with
      | false => rfl
      | true => have := inv.base i e; rw [getD_both hun] at this; cases this
    by_cases htn : t = t0
    · subst htn
      have h1 := List.all_eq_true.1 hs i (List.mem_range.2 hi)
      rw [hi0, hnt, Bool.false_or, Bool.false_or] at h1
      obtain ⟨j, hj, hj2⟩ := List.any_eq_true.1 h1
      simp only [Bool.and_eq_true, Bool.or_eq_true, decide_eq_true_eq, Bool.not_eq_true'] at hj2
      obtain ⟨⟨⟨hij, hj0⟩, hjt⟩, hw⟩ := hj2
      obtain ⟨oj, hoj, e, he, hb, hon⟩ := Region.waitsFor_spec hw
      have hjs : j < ops.size := List.mem_range.1 hj
      by_cases hjt2 : j = t
      · subst hjt2
        have : oj = ot := Option.some.inj (hoj.symm.trans hot)
        subst this
        have h2 := hall e he hb
        rw [hon, getD_both hun] at h2
        cases h2
      · have hjn : inTail ts j = false := by
          rcases hjt with h | h
          · exact h
          · exact absurd h hjt2
        cases hl : listed.getD j false with
        | true =>
          have h2 := inv.closed j oj hoj hl e he hb
          rw [hon, getD_both hun] at h2
          cases h2
        | false => exact ih (ops.size - j) (by omega) j rfl hjs hjn (getD_in (by rw [inv.size]; exact hjs) hl) t ht hr
    · have h1 := List.all_eq_true.1 hc t (by unfold inTail at ht; simpa using ht)
      rw [Bool.or_eq_true, decide_eq_true_eq] at h1
      rcases h1 with h1 | h1
      · exact htn h1
      · obtain ⟨u, hu, hu2⟩ := List.any_eq_true.1 h1
        simp only [Bool.and_eq_true, decide_eq_true_eq] at hu2
        obtain ⟨o', ho', e, he, hb, hon⟩ := Region.waitsFor_spec hu2.2
        have : o' = ot := Option.some.inj (ho'.symm.trans hot)
        subst this
        have h2 := hall e he hb
        rw [hon, getD_both (inv.tail u (by unfold inTail; simpa using hu) hu2.1)] at h2
        cases h2
/-- The heads in whatever order, S holding behind each. -/
def anyT (P : Program) (md : Region.Mode) (ops : Array Oper) (Q : Exit → Act → World → Prop) (S : World → Prop) (ts : List Nat) (L : Array Bool → Act → World → Prop) : Nat → Array Bool → Act → World → Prop
  | 0, listed, a, w => L listed a w
  | f + 1, listed, a, w => Region.ready md ops listed ≠ [] ∧ ∀ i ∈ Region.ready md ops listed, inTail ts i = false ∧ wpOp P ops Q i (fun a' w' => S w' ∧ anyT P md ops Q S ts L f (listed.setIfInBounds i true) a' w') a w
theorem anyT_head {g : Nat} {ts : List Nat} {L : Array Bool → Act → World → Prop} (hL : ∀ listed a w, L listed a w → wpAny P md ops Q g listed a w) :
    ∀ (f : Nat) (listed : Array Bool) (a : Act) (w : World), anyT P md ops Q S ts L f listed a w → wpAny P md ops Q (f + g) listed a w
  | 0, listed, a, w, h => by rw [Nat.zero_add]; exact hL _ _ _ h
  | f + 1, listed, a, w, h => by
    rw [show f + 1 + g = (f + g) + 1 by omega]
    exact ⟨fun h0 => absurd h0 h.1, fun i hi => wpOp_mono (fun a' w' h' => anyT_head hL f _ a' w' h'.2) (h.2 i hi).2⟩
theorem anyT_first {l0 : Array Bool} {ts : List Nat} {t0 i : Nat} {oi : Oper} {v : Value} {L : Array Bool → Act → World → Prop} (hi : ops[i]? = some oi) (hsel : ∀ (j : Nat) (o : Oper) cs b, ops[j]? = some o → o.op ≠ .select cs b)
    (hQ : ∀ c a w, Q (.panic c) (a.put oi.dst v) w → Q (.panic c) a w)
    (hs : sink2 md ops l0 ts t0 = true) (hc : chain2 md ops ts t0 = true) (hin : inTail ts i = false)
    (hdone : ∀ listed a w, L listed a w → ∀ j ∈ Region.ready md ops listed, inTail ts j = true) :
    ∀ (f : Nat) (listed : Array Bool) (a : Act) (w : World), HInv md ops l0 ts listed →
      (∀ j oj, ops[j]? = some oj → j ≠ i → listed.getD j true = false → (∀ e ∈ oj.after, Region.binds md e = true → e.on ≠ i) → oi.apart ops oj = true) →
      i ∈ Region.ready md ops listed → YieldsIf P ops S oi v a → S w →
      anyT P md ops Q S ts L f (listed.setIfInBounds i true) (a.put oi.dst v) w → anyT P md ops Q S ts L (f + 1) listed a w := by
  have his : i < ops.size := (Array.getElem?_eq_some_iff.1 hi).1
  have hjn : ∀ (listed : Array Bool), HInv md ops l0 ts listed → i ∈ Region.ready md ops listed → ∀ j, j ∈ Region.ready md ops listed → inTail ts j = false := by
    intro listed inv hr j hj
    cases e : inTail ts j with
    | false => rfl
    | true => exact absurd hj (tail_waits2 hs hc inv _ i rfl his hin (mem_ready.1 hr).1 j e)
  intro f
  induction f with
  | zero =>
    intro listed a w inv _ hr hy hS H
    refine ⟨fun h => (by rw [h] at hr; cases hr), fun j hj => ⟨hjn listed inv hr j hj, ?_⟩⟩
    by_cases hji : j = i
    · subst hji; exact hy.wpOp hi hS ⟨hS, H⟩
    · have h1 := hdone _ _ _ H j (ready_mono hj hji)
      rw [hjn listed inv hr j hj] at h1
      cases h1
  | succ f ih =>
    intro listed a w inv hfree hr hy hS H
    have hun := (mem_ready.1 hr).1
    refine ⟨fun h => (by rw [h] at hr; cases hr), fun j hj => ⟨hjn listed inv hr j hj, ?_⟩⟩
    by_cases hji : j = i
    · subst hji; exact hy.wpOp hi hS ⟨hS, H⟩
    · have h1 := (H.2 j (ready_mono hj hji)).2
      obtain ⟨hjun, oj, hoj, hall⟩ := mem_ready.1 hj
      have hnot : ∀ e ∈ oj.after, Region.binds md e = true → e.on ≠ i := fun e he hb heq => by
        have h1 := hall e he hb
        rw [heq, getD_both hun] at h1
        cases h1
      have h2 := wpOp_putIf hoj (hfree j oj hoj hji hjun hnot) (fun cs b => hsel i oi cs b hi) (fun cs b => hsel j oj cs b hoj) hQ hy h1
      have hfree' : ∀ k ok, ops[k]? = some ok → k ≠ i → (listed.setIfInBounds j true).getD k true = false →
          (∀ e ∈ ok.after, Region.binds md e = true → e.on ≠ i) → oi.apart ops ok = true := fun k ok hk hki hun hno => by
        refine hfree k ok hk hki ?_ hno
        by_cases hjk : j = k
        · subst hjk; exact hjun
        · rw [getD_set_ne true hjk] at hun; exact hun
      refine wpOp_mono (fun a' w' h3 => ⟨h3.2.1, ih (listed.setIfInBounds j true) a' w' (inv.set hj (hjn listed inv hr j hj)) hfree' (ready_mono hr (Ne.symm hji)) h3.1 h3.2.1 ?_⟩) h2
      rw [Array.setIfInBounds_comm _ _ hji]
      exact h3.2.2
/-- One behind the other. -/
def seqL (md : Region.Mode) (ops : Array Oper) : List Nat → Array Bool → Bool
  | [], listed => (Region.ready md ops listed).isEmpty
  | k :: ks, listed => decide (Region.ready md ops listed = [k]) && seqL md ops ks (listed.setIfInBounds k true)
/-- The operations with these numbers. -/
def opsAt (l : List Oper) (ks : List Nat) : List Oper := ks.filterMap (fun k => l[k]?)
theorem wpAny_seqL : ∀ (l : List Oper) (ks : List Nat) (listed : Array Bool) (a : Act) (w : World), seqL md l.toArray ks listed = true → (∀ k ∈ ks, k < l.length) → wpList P l.toArray Q (opsAt l ks) a w → wpAny P md l.toArray Q ks.length listed a w
  | l, [], _, _, _, hB, _, h => ⟨by simpa [seqL] using hB, h⟩
  | l, k :: ks, listed, a, w, hB, hk, h => by
    simp only [seqL, Bool.and_eq_true, decide_eq_true_eq] at hB
    have hkl := hk k (by simp)
    refine ⟨fun h1 => (by rw [hB.1] at h1; cases h1), fun i hi => ?_⟩
    rw [hB.1] at hi
    have hik : i = k := by simpa using hi
    subst hik
    have h' : wpList P l.toArray Q (l[i] :: opsAt l ks) a w := by
      unfold opsAt at h
      rw [List.filterMap_cons, List.getElem?_eq_getElem hkl] at h
      exact h
    have hw : wpOp P l.toArray Q i (wpList P l.toArray Q (opsAt l ks)) a w := by
      unfold wpOp
      simp only [List.getElem?_toArray, List.getElem?_eq_getElem hkl]
      exact h'
    exact wpOp_mono (fun a' w' h2 => wpAny_seqL l ks _ a' w' hB.2 (fun j hj => hk j (by simp [hj])) h2) hw
theorem anyT_seq {l : List Oper} {ts : List Nat} {R : Act → World → Prop} : ∀ (ms : List Nat) (listed : Array Bool) (a : Act) (w : World), seqL md l.toArray (ms ++ ts) listed = true → (∀ k ∈ ms, k < l.length ∧ inTail ts k = false) → walkS P l.toArray Q S R (opsAt l ms) a w →
    anyT P md l.toArray Q S ts (fun listed a w => seqL md l.toArray ts listed = true ∧ R a w) ms.length listed a w
  | [], _, _, _, hB, _, h => ⟨hB, h⟩
  | k :: ms, listed, a, w, hB, hk, h => by
    simp only [List.cons_append, seqL, Bool.and_eq_true, decide_eq_true_eq] at hB
    have hkl := hk k (by simp)
    refine ⟨fun h1 => (by rw [hB.1] at h1; cases h1), fun i hi => ?_⟩
    rw [hB.1] at hi
    have hik : i = k := by simpa using hi
    subst hik
    refine ⟨hkl.2, ?_⟩
    have h' : walkS P l.toArray Q S R (l[i]'hkl.1 :: opsAt l ms) a w := by
      unfold opsAt at h
      rw [List.filterMap_cons, List.getElem?_eq_getElem hkl.1] at h
      exact h
    unfold wpOp
    simp only [List.getElem?_toArray, List.getElem?_eq_getElem hkl.1]
    rw [if_pos h'.1]
    exact .inl (Oper.wp_mono (fun a' w' h2 => ⟨h2.1, anyT_seq ms _ a' w' hB.2 (fun j hj => hk j (by simp [hj])) h2.2⟩) h'.2)
theorem seqL_ready {l : List Oper} {ts : List Nat} {listed : Array Bool} (h : seqL md l.toArray ts listed = true) : ∀ j ∈ Region.ready md l.toArray listed, inTail ts j = true := by
  cases ts with
  | nil => intro j hj; simp only [seqL, List.isEmpty_iff] at h; rw [h] at hj; cases hj
  | cons t ts =>
    intro j hj
    simp only [seqL, Bool.and_eq_true, decide_eq_true_eq] at h
    rw [h.1] at hj
    have : j = t := by simpa using hj
    subst this
    simp [inTail]
/-- Taken in turn: each may come, and nobody who could come before it touches its temporaries. -/
def takeL (md : Region.Mode) (ops : Array Oper) : List Nat → Array Bool → Bool
  | [], _ => true
  | k :: ks, listed => (Region.ready md ops listed).contains k && Region.free md ops listed k && takeL md ops ks (listed.setIfInBounds k true)
def setL (listed : Array Bool) (ks : List Nat) : Array Bool := ks.foldl (fun l k => l.setIfInBounds k true) listed
theorem anyT_lex {l : List Oper} {l0 : Array Bool} {ts ms : List Nat} {t0 : Nat} {w : World} {R : Act → World → Prop} (hsel : Region.noSelect l.toArray = true) (hQ : ∀ c a d v w, Q (.panic c) (Act.put a d v) w → Q (.panic c) a w)
    (hs : sink2 md l.toArray l0 ts t0 = true) (hc : chain2 md l.toArray ts t0 = true) (hS : S w) (hms : ∀ k ∈ ms, k < l.length ∧ inTail ts k = false) :
    ∀ (rs : List Nat) (listed : Array Bool) (a : Act), (∀ k ∈ rs, k < l.length ∧ inTail ts k = false) → HInv md l.toArray l0 ts listed → takeL md l.toArray rs listed = true → seqL md l.toArray (ms ++ ts) (setL listed rs) = true →
    heldL P l.toArray S (fun a' => walkS P l.toArray Q S R (opsAt l ms) a' w) (opsAt l rs) a → anyT P md l.toArray Q S ts (fun listed a w => seqL md l.toArray ts listed = true ∧ R a w) (rs.length + ms.length) listed a w
  | [], listed, a, _, _, _, hB, h => by
    rw [List.length_nil, Nat.zero_add]
    exact anyT_seq ms listed a w hB hms h
  | k :: rs, listed, a, hk, inv, hT, hB, h => by
    simp only [takeL, Bool.and_eq_true] at hT
    obtain ⟨⟨hr, hf⟩, hT'⟩ := hT
    have hkl := hk k (by simp)
    have h0 : l.toArray[k]? = some (l[k]'hkl.1) := by simp [hkl.1]
    have h' : heldL P l.toArray S (fun a' => walkS P l.toArray Q S R (opsAt l ms) a' w) (l[k]'hkl.1 :: opsAt l rs) a := by
      unfold opsAt at h
      rw [List.filterMap_cons, List.getElem?_eq_getElem hkl.1] at h
      exact h
    obtain ⟨v, hy, hK⟩ := h'
    rw [List.length_cons, show rs.length + 1 + ms.length = (rs.length + ms.length) + 1 by omega]
    exact anyT_first h0 (Region.noSelect_spec hsel) (fun c a w => hQ c a _ _ w) hs hc hkl.2 (fun listed' a' w' hL => seqL_ready hL.1) (rs.length + ms.length) listed a w inv (Region.free_spec h0 hf) (by simpa using hr) hy hS
      (anyT_lex hsel hQ hs hc hS hms rs _ _ (fun j hj => hk j (by simp [hj])) (inv.set (by simpa using hr) hkl.2) hT' hB hK)
theorem any_pure {l : List Oper} {R : Act → Prop} {w : World} {f : Nat} (hsel : Region.noSelect l.toArray = true) (hQ : ∀ c a d v w, Q (.panic c) (Act.put a d v) w → Q (.panic c) a w) :
    ∀ (ps : List Nat) (listed : Array Bool) (a : Act), (∀ k ∈ ps, k < l.length) → takeL md l.toArray ps listed = true → (∀ a', R a' → wpAny P md l.toArray Q f (setL listed ps) a' w) → heldL P l.toArray (fun _ => True) R (opsAt l ps) a →
    wpAny P md l.toArray Q (ps.length + f) listed a w
  | [], listed, a, _, _, hR, h => by rw [List.length_nil, Nat.zero_add]; exact hR a h
  | k :: ps, listed, a, hk, hT, hR, h => by
    simp only [takeL, Bool.and_eq_true] at hT
    obtain ⟨⟨hr, hf⟩, hT'⟩ := hT
    have hkl := hk k (by simp)
    have h0 : l.toArray[k]? = some (l[k]'hkl) := by simp [hkl]
    have h' : heldL P l.toArray (fun _ => True) R (l[k]'hkl :: opsAt l ps) a := by
      unfold opsAt at h
      rw [List.filterMap_cons, List.getElem?_eq_getElem hkl] at h
      exact h
    obtain ⟨v, hy, hK⟩ := h'
    rw [List.length_cons, show ps.length + 1 + f = (ps.length + f) + 1 by omega]
    exact wpAny_take h0 hsel hf hr (fun c a w => hQ c a _ _ w) (hy.imp (fun ⟨h1, h2⟩ => ⟨h1, fun w => h2 w trivial⟩) id) (any_pure hsel hQ ps _ _ (fun j hj => hk j (by simp [hj])) hT' hR hK)
def closedB (md : Region.Mode) (ops : Array Oper) (listed : Array Bool) : Bool := (List.range ops.size).all fun j => !listed.getD j false || match ops[j]? with
  | some oj => oj.after.all fun e => !Region.binds md e || listed.getD e.on false
  | none => true
def orderB (md : Region.Mode) (ops : Array Oper) (ps rs ms ts : List Nat) (t0 : Nat) : Bool :=
  Region.noSelect ops && takeL md ops ps (Array.replicate ops.size false) && closedB md ops (setL (Array.replicate ops.size false) ps) && ts.all (fun t => !(setL (Array.replicate ops.size false) ps).getD t true) &&
  sink2 md ops (setL (Array.replicate ops.size false) ps) ts t0 && chain2 md ops ts t0 && takeL md ops rs (setL (Array.replicate ops.size false) ps) && seqL md ops (ms ++ ts) (setL (setL (Array.replicate ops.size false) ps) rs) &&
  (ps ++ rs ++ ms ++ ts).all (fun k => decide (k < ops.size)) && (rs ++ ms).all (fun k => !inTail ts k) && decide (ps.length + (rs.length + ms.length + ts.length) = ops.size)
theorem setL_size (ks : List Nat) : ∀ listed : Array Bool, (setL listed ks).size = listed.size := by
  induction ks with
  | nil => intro l; rfl
  | cons k ks ih => intro l; simp only [setL, List.foldl_cons]; exact (ih _).trans (by simp)
/-- A region that draws, in the order ps (pure), rs (loads), ms (steps), ts (the tail, t0 first). -/
theorem any_order {l : List Oper} {a : Act} {w : World} (ps rs ms ts : List Nat) (t0 : Nat) (hQ : ∀ c a d v w, Q (.panic c) (Act.put a d v) w → Q (.panic c) a w) (hB : orderB .any l.toArray ps rs ms ts t0 = true) (S : World → Prop) (hS : S w)
    (h : heldL P l.toArray (fun _ => True) (fun a => heldL P l.toArray S (fun a' => walkS P l.toArray Q S (fun a w => wpList P l.toArray Q (opsAt l ts) a w) (opsAt l ms) a' w) (opsAt l rs) a) (opsAt l ps) a) :
    wpAny P .any l.toArray Q l.toArray.size (Array.replicate l.toArray.size false) a w := by
  simp only [orderB, Bool.and_eq_true, decide_eq_true_eq] at hB
  obtain ⟨⟨⟨⟨⟨⟨⟨⟨⟨⟨hsel, hT⟩, hcl⟩, htl⟩, hs⟩, hc⟩, hT2⟩, hsq⟩, hlt⟩, hnt⟩, hlen⟩ := hB
  have hlt' : ∀ k ∈ ps ++ rs ++ ms ++ ts, k < l.length := fun k hk => by simpa using List.all_eq_true.1 hlt k hk
  have hnt' : ∀ k ∈ rs ++ ms, inTail ts k = false := fun k hk => by simpa using List.all_eq_true.1 hnt k hk
  have key : wpAny P .any l.toArray Q (ps.length + (rs.length + ms.length + ts.length)) (Array.replicate l.toArray.size false) a w := by
   refine any_pure hsel hQ ps _ a (fun k hk => hlt' k (by simp [hk])) hT (fun a' ha' => ?_) h
   have inv : HInv .any l.toArray (setL (Array.replicate l.toArray.size false) ps) ts (setL (Array.replicate l.toArray.size false) ps) := by
     refine ⟨by rw [setL_size]; simp, fun j oj hj hl e he hb => ?_, fun t ht hts => ?_, fun _ h => h⟩
     · have h1 := List.all_eq_true.1 hcl j (List.mem_range.2 (Array.getElem?_eq_some_iff.1 hj).1)
       rw [hl, hj] at h1
       simp only [Bool.not_true, Bool.false_or] at h1
       have h2 := Array.all_eq_true'.1 h1 e he
       rw [hb] at h2
       simpa using h2
     · have := List.all_eq_true.1 htl t (by unfold inTail at ht; simpa using ht)
       simpa using this
   have H := anyT_lex (P := P) (md := .any) hsel hQ hs hc hS (fun k hk => ⟨hlt' k (by simp [hk]), hnt' k (by simp [hk])⟩) rs _ a' (fun k hk => ⟨hlt' k (by simp [hk]), hnt' k (by simp [hk])⟩) inv hT2 hsq ha'
   refine anyT_head (g := ts.length) (L := fun listed a w => seqL .any l.toArray ts listed = true ∧ wpList P l.toArray Q (opsAt l ts) a w) (fun listed a w hL => wpAny_seqL l ts listed a w hL.1 (fun k hk => hlt' k (by simp [hk])) hL.2) _ _ _ _ H
  rwa [hlen] at key
theorem wp_region_order {id : Nat} {l : List Oper} {a : Act} {w : World} (ps rs ms ts : List Nat) (t0 : Nat) (hQ : ∀ c a d v w, Q (.panic c) (Act.put a d v) w → Q (.panic c) a w) (hm : P.follows .mixedOrders = true) (hB : orderB .any l.toArray ps rs ms ts t0 = true) (S : World → Prop) (hS : S w.drew)
    (h : heldL P l.toArray (fun _ => True) (fun a => heldL P l.toArray S (fun a' => walkS P l.toArray Q S (fun a w => wpList P l.toArray Q (opsAt l ts) a w) (opsAt l ms) a' w.drew) (opsAt l rs) a) (opsAt l ps) a) : (Code.region id l.toArray true).wp P Q a w :=
  wp_region_any hm (any_order ps rs ms ts t0 hQ hB S hS h)
theorem round_order {id lr k : Nat} {l : List Oper} {a : Act} {w : World} (ps rs ms ts : List Nat) (t0 : Nat) (hL : ¬ LetsOut Q) (hQ : ∀ c a d v w, Q (.panic c) (Act.put a d v) w → Q (.panic c) a w) (hm : P.follows .mixedOrders = true) (hB : orderB .any l.toArray ps rs ms ts t0 = true) (hnd : l.toArray.all noDefer = true) (S : World → Prop) (hS : S w.drew)
    (h : heldL P l.toArray (fun _ => True) (fun a => heldL P l.toArray S (fun a' => walkS P l.toArray Q S (fun a w => wpList P l.toArray Q (opsAt l ts) a w) (opsAt l ms) a' w.drew) (opsAt l rs) a) (opsAt l ps) a) : (Code.region id l.toArray true).wpIn (inR lr) k P Q a w :=
  wpIn_region_any hm (any_in hL hnd _ _ _ _ (any_order ps rs ms ts t0 hQ hB S hS h))
end
end Go.Proofs.Ytlipgaefflecaaa
end

section
set_option linter.unusedVariables false
set_option linter.unusedSimpArgs false
namespace Go.Proofs.Ytlipgaefflecaaa
open Go.ChangeShapes Go.WideShapes Go.ChangeAt Go.RowKit Go.Deep

theorem ownKnob_ : ownKnob Try.prog.godebug = none := by kernel_rfl
theorem laidOut_ : laidOutB Try.prog = true := by kernel_rfl
theorem cells8_ : Try.prog.cellsOf 5 = 1 := by kernel_rfl
theorem bytes8_ : Try.prog.bytesOf 5 = 1 := by kernel_rfl

/-- What a datum's slice says of its size. -/
def SizeOf {H : Type} (d : DataW H) (n : Nat) : Prop := (d = .nil ∧ n = 0) ∨ ∃ elems spare, d = .slice elems spare ∧ elems.length = n

theorem byte_of {z : Int} (h : (Lit.int .u8 z).wf = true) : z = n8 (UInt8.ofNat z.toNat) := by
  simp [Lit.wf, IntKind.min, IntKind.max, IntKind.signed, IntKind.bits] at h
  unfold n8
  rw [UInt8.toNat_ofNat']
  omega

theorem open_bytes_trod {H : Type} {enc : TypeId × Value → H} {W : World} {fuel : Nat} {v : Value} {d : DataW H} {p : List MemPlace}
    (h : DataW.trod enc Try.prog W 0 (fun _ => true) true fuel 55 [v] = some (d, p)) :
    ∃ a n c l, v = .slice a n c ∧ Bs W a n c l ∧ SizeOf d n := by
  rcases open_ints Try.underlying55 Try.underlying5 cells8_ h with ⟨hcs, hd⟩ | ⟨x, len, cap, zs, hcs, _, hl, hm, hz, hd, hcell, hwz⟩
  · simp at hcs hd
    obtain ⟨rfl, rfl⟩ := hd
    exact ⟨none, 0, 0, [], hcs, Bs.nil W, .inl ⟨rfl, rfl⟩⟩
  · simp at hcs
    simp only [Prod.mk.injEq] at hd
    simp only [if_true] at hz
    refine ⟨some x, len, cap, (zs.take len).map (fun z => UInt8.ofNat z.toNat), hcs, ⟨by simp; omega, hl, hm, ?_⟩, .inr ⟨_, _, hd.1, by simp [lits]; omega⟩⟩
    intro j v hj
    have hjl : j < len := by
      rcases Nat.lt_or_ge j len with h' | h'
      · exact h'
      · rw [List.getElem?_eq_none (by simp [vs]; omega)] at hj; cases hj
    have hjz : j < zs.length := by omega
    have h0 := hcell 0 (by omega)
    rw [Addr.add_zero'] at h0
    have hs := World.cell?_spot h0
    obtain ⟨b, off, spot⟩ := x
    simp at hs
    subst hs
    refine ⟨b, off, rfl, ?_⟩
    have hc := hcell j hjz
    rw [Addr.add_lit] at hc
    rw [hc]
    simp only [vs, List.map_map, List.getElem?_map, List.getElem?_take, hjl, if_true, List.getElem?_eq_getElem hjz, Option.map_some, Option.some.injEq] at hj
    rw [← hj, List.getD_eq_getElem?_getD, List.getElem?_eq_getElem hjz]
    simp only [Option.getD_some, Function.comp]
    rw [← byte_of (hwz _ (List.getElem_mem hjz))]

theorem open_bytes {H : Type} {enc : TypeId × Value → H} {W : World} {d : DataW H} {p : List MemPlace} {a : Option Addr} {n c : Nat}
    (h : DataW.Trod enc Try.prog W 0 (fun _ => true) true 55 (.slice a n c) d p) : ∃ l, Bs W a n c l ∧ SizeOf d n := by
  obtain ⟨fuel, hf⟩ := h
  simp [Value.cells] at hf
  obtain ⟨a', n', c', l, h1, h2, h3⟩ := open_bytes_trod hf
  cases h1
  exact ⟨l, h2, h3⟩

theorem choose_list {β : Type} [Inhabited β] (n : Nat) (R : Nat → β → Prop) (h : ∀ i, i < n → ∃ x, R i x) : ∃ l : List β, l.length = n ∧ ∀ i, i < n → R i (nth l i) := by
  induction n with
  | zero => exact ⟨[], rfl, fun i hi => by omega⟩
  | succ n ih =>
    obtain ⟨l, hl, hR⟩ := ih (fun i hi => h i (by omega))
    obtain ⟨x, hx⟩ := h n (by omega)
    refine ⟨l ++ [x], by simp [hl], fun i hi => ?_⟩
    by_cases e : i = n
    · subst e
      rw [nth_eq _ (by simp; omega)]
      simpa [hl] using hx
    · rw [nth_append_left _ _ (by omega)]
      exact hR i (by omega)

theorem u64_of_wf {z : Int} (h : (Lit.int .u64 z).wf = true) : ∃ m : Nat, z = (m : Int) ∧ U64 m := by
  simp [Lit.wf, IntKind.min, IntKind.max, IntKind.signed, IntKind.bits] at h
  exact ⟨z.toNat, by omega, ⟨by omega⟩⟩
theorem i64_of_wf {z : Int} (h : (Lit.int .i64 z).wf = true) : -9223372036854775808 ≤ z ∧ z ≤ 9223372036854775807 := by
  simp [Lit.wf, IntKind.min, IntKind.max, IntKind.signed, IntKind.bits] at h
  omega
end Go.Proofs.Ytlipgaefflecaaa
end

section
set_option linter.unusedVariables false
set_option linter.unusedSimpArgs false
namespace Go.Proofs.Ytlipgaefflecaaa
open Go.ChangeShapes Go.WideShapes Go.ChangeAt Go.RowKit Go.Deep

def zv (l : List Int) : List Value := l.map fun z => .int .i64 z
structure I64 (z : Int) : Prop where
  lo : -9223372036854775808 ≤ z
  hi : z ≤ 9223372036854775807
/-- A slice of ints that is read. -/
def Is (w : World) (a : Option Addr) (n c : Nat) (l : List Int) : Prop := l.length = n ∧ n ≤ c ∧ c ≤ maxLen ∧ Row w a (zv l) ∧ ∀ z ∈ l, I64 z
theorem Is.below {w w' : World} {a : Option Addr} {n c : Nat} {l : List Int} (h : Is w a n c l) (hb : Below w.heap.size w w') : Is w' a n c l := ⟨h.1, h.2.1, h.2.2.1, h.2.2.2.1.below hb, h.2.2.2.2⟩
theorem Is.le {w : World} {a : Option Addr} {n c : Nat} {l : List Int} (h : Is w a n c l) : n ≤ 9223372036854775807 ∧ c ≤ 9223372036854775807 := by
  have := h.2.1; have := h.2.2.1; simp only [maxLen] at *; omega
theorem Is.get {w : World} {a : Option Addr} {n c : Nat} {l : List Int} (h : Is w a n c l) {i : Nat} (hi : i < n) :
    ∃ b off, a = some ⟨b, off, none⟩ ∧ w.cell? ⟨b, off + i, none⟩ = some (.int .i64 (nth l i)) := by
  refine h.2.2.2.1 i _ ?_
  have := h.1
  simp [zv, nth_eq l (by omega : i < l.length), (by omega : i < l.length)]
theorem Is.bd {w : World} {a : Option Addr} {n c : Nat} {l : List Int} (h : Is w a n c l) {i : Nat} (hi : i < n) : I64 (nth l i) := by
  rw [nth_eq l (by rw [h.1]; exact hi)]; exact h.2.2.2.2 _ (List.getElem_mem _)
theorem i64_mk {z : Int} (h : (Lit.int .i64 z).wf = true) : I64 z := ⟨(i64_of_wf h).1, (i64_of_wf h).2⟩
theorem cells64_ : Try.prog.cellsOf 3 = 1 := by kernel_rfl
theorem open_intlist {H : Type} {enc : TypeId × Value → H} {W : World} {a : Option Addr} {n c : Nat} {d : DataW H} {p : List MemPlace}
    (h : DataW.Trod enc Try.prog W 0 (fun _ => true) true 41 (.slice a n c) d p) : ∃ l, Is W a n c l ∧ SizeOf d n := by
  obtain ⟨fuel, hf⟩ := h
  simp [Value.cells] at hf
  rcases open_ints Try.underlying41 Try.underlying3 cells64_ hf with ⟨hcs, hd⟩ | ⟨x, len, cap, zs, hcs, _, hl, hm, hz, hd, hcell, hwz⟩
  · simp at hcs hd
    obtain ⟨⟨rfl, rfl, rfl⟩, rfl, rfl⟩ := And.intro hcs hd
    exact ⟨[], ⟨rfl, Nat.le_refl _, by simp [maxLen], Row.nil _ _, by simp⟩, .inl ⟨rfl, rfl⟩⟩
  · simp at hcs
    obtain ⟨rfl, rfl, rfl⟩ := hcs
    simp only [Prod.mk.injEq] at hd
    simp only [if_true] at hz
    refine ⟨zs.take n, ⟨by simp; omega, hl, hm, ?_, fun z hzm => i64_mk (hwz z (List.mem_of_mem_take hzm))⟩, .inr ⟨_, _, hd.1, by simp [lits]; omega⟩⟩
    intro j v hj
    have hjl : j < n := by
      rcases Nat.lt_or_ge j n with h' | h'
      · exact h'
      · rw [List.getElem?_eq_none (by simp [zv]; omega)] at hj; cases hj
    have hjz : j < zs.length := by omega
    have h0 := hcell 0 (by omega)
    rw [Addr.add_zero'] at h0
    have hs := World.cell?_spot h0
    obtain ⟨b, off, spot⟩ := x
    simp at hs
    subst hs
    refine ⟨b, off, rfl, ?_⟩
    have hc := hcell j hjz
    rw [Addr.add_lit] at hc
    rw [hc]
    simp only [zv, List.getElem?_map, List.getElem?_take, hjl, if_true, List.getElem?_eq_getElem hjz, Option.map_some, Option.some.injEq] at hj
    rw [← hj, List.getD_eq_getElem?_getD, List.getElem?_eq_getElem hjz]
    rfl
end Go.Proofs.Ytlipgaefflecaaa
end

section
set_option maxRecDepth 100000
set_option linter.unusedVariables false
set_option linter.unusedSimpArgs false
namespace Go.Proofs.Ytlipgaefflecaaa
open Go.RowKit

def Tab.over (k : Int) (x y : List UInt8) (l : List Tab) : List Tab := (Tab.at k l).filter fun t => !(Ent.klt y t.first || Ent.klt t.last x)
def Tab.all (k : Nat) (l vt : List Tab) : List Tab := l ++ Tab.over ((k : Int) + 1) (Tab.lo l) (Tab.hi l) vt
def Tab.botTo (vt : List Tab) (k : Nat) (x y : List UInt8) (j : Nat) : Bool := (List.range j).all fun i => decide (i < k + 2) || (Tab.over (i : Int) x y vt).isEmpty
theorem botTo_zero (vt : List Tab) (k : Nat) (x y : List UInt8) : Tab.botTo vt k x y (k + 2) = true := by
  unfold Tab.botTo
  rw [List.all_eq_true]
  intro i hi
  have := List.mem_range.1 hi
  simp; left; omega
theorem botTo_succ {vt : List Tab} {k : Nat} {x y : List UInt8} {j : Nat} (h : k + 2 ≤ j) : Tab.botTo vt k x y (j + 1) = (Tab.botTo vt k x y j && (Tab.over (j : Int) x y vt).isEmpty) := by
  unfold Tab.botTo
  rw [List.range_succ, List.all_append]
  simp [show ¬ j < k + 2 by omega]
/-- A row of ints of the call's own. -/
def AccZ (w : World) (B : Nat) (a : Option Addr) (n c : Nat) (l : List Int) : Prop := l.length = n ∧ w.ownsRow B 3 1 (.slice a n c) n (zv l)
theorem AccZ.below {w w' : World} {B n c : Nat} {a : Option Addr} {l : List Int} (h : AccZ w B a n c l) (hb : Below w.heap.size w w') : AccZ w' B a n c l := ⟨h.1, own_below h.2 hb⟩
theorem AccZ.mono {w : World} {B B' n c : Nat} {a : Option Addr} {l : List Int} (h : AccZ w B a n c l) (hB : B' ≤ B) : AccZ w B' a n c l := ⟨h.1, own_mono h.2 hB⟩
theorem AccZ.nil (w : World) (B : Nat) : AccZ w B none 0 0 [] := ⟨rfl, World.ownsRow_nil w B _ _⟩
theorem infoZ : (Try.prog.info? 3).map (fun i => (i.zero, i.size, i.bytes)) = some (some (.int .i64 0), 1, 8) := by kernel_rfl
theorem clipt_any (a : Option Addr) (n c : Nat) (w : World) (h : n ≤ c) (hc : c ≤ 9223372036854775807) : Calls Try.prog 31 #[.slice a n c] w fun e w' => e = .returned (.slice a n n) ∧ w = w' := by
  obtain ⟨i, hi, hz, h1, h2⟩ := info_parts infoT
  have hs : ∀ W, (Instr.slice 29 (.slice a n c) none (some (.int .i64 (n : Int))) (some (.int .i64 (n : Int)))).run Try.prog W = .ok (.slice a n n) W := fun W => by
    have g : n ≤ n := Nat.le_refl _
    simp [Instr.slice, run_underlying Try.underlying29, sizeOf, typeInfo, hi, Instr.sliceBounds, run_sliceBound, g, h]
    intro _; cases a <;> simp [Addr.add_zero']
  clear hi hz h1 h2
  go_enter Try.func31, Try.ntmps31
  go_wp2
  go_ret
  exact ⟨rfl, rfl⟩
theorem Ts.clip {w : World} {a : Option Addr} {n c : Nat} {l : List Tab} (h : Ts w a n c l) : Ts w a n n l := ⟨h.1, Nat.le_refl _, Nat.le_trans h.2.1 h.2.2.1, h.2.2.2⟩
/-- A job in cells. -/
structure JBox (w : World) (b : Nat) (lv : Int) (a : Option Addr) (n c : Nat) (bt : Bool) : Prop where
  blk : w.heap[b]? = some (.cells #[.int .i64 lv, .slice a n c, .bool bt] 48 (0, 0))
theorem JBox.lt {w : World} {b : Nat} {lv : Int} {a : Option Addr} {n c : Nat} {bt : Bool} (h : JBox w b lv a n c bt) : b < w.heap.size := (Array.getElem?_eq_some_iff.1 h.blk).1
theorem JBox.new (w : World) (lv : Int) (a : Option Addr) (n c : Nat) (bt : Bool) : JBox (w.alloc (.cells #[.int .i64 lv, .slice a n c, .bool bt] 48)) w.heap.size lv a n c bt := ⟨heap_alloc_new w _⟩
theorem JBox.below {w w' : World} {b : Nat} {lv : Int} {a : Option Addr} {n c : Nat} {bt : Bool} (h : JBox w b lv a n c bt) {N : Nat} (hb : Below N w w') (hN : b < N) : JBox w' b lv a n c bt := ⟨(hb.block b hN).trans h.blk⟩
theorem JBox.evol {w w' : World} {b : Nat} {lv : Int} {a : Option Addr} {n c : Nat} {bt : Bool} (h : JBox w b lv a n c bt) {ao ao' : Option Addr} (k : Evol w ao w' ao') (hne : ∀ x, ao = some x → x.block ≠ b) : JBox w' b lv a n c bt :=
  ⟨(k.1.block b h.lt (fun e => by
    cases ao with
    | none => cases e
    | some x => exact hne x rfl (by simpa using e.symm))).trans h.blk⟩
theorem JBox.cells {w : World} {b : Nat} {lv : Int} {a : Option Addr} {n c : Nat} {bt : Bool} (h : JBox w b lv a n c bt) :
    w.cell? ⟨b, 0, none⟩ = some (.int .i64 lv) ∧ w.cell? ⟨b, 1, none⟩ = some (.slice a n c) ∧ w.cell? ⟨b, 2, none⟩ = some (.bool bt) ∧ (∀ j, w.frozen? ⟨b, j, none⟩ = false) :=
  ⟨(cell_of_row _ _ 0 _ _ _ h.blk).trans rfl, (cell_of_row _ _ 1 _ _ _ h.blk).trans rfl, (cell_of_row _ _ 2 _ _ _ h.blk).trans rfl, fun j => by simp [World.frozen?, h.blk]⟩
theorem JBox.set {w : World} {b : Nat} {lv lv' : Int} {a a' : Option Addr} {n c n' c' : Nat} {bt bt' : Bool} (h : JBox w b lv a n c bt) (j : Nat) (v : Value) (hv : (#[.int .i64 lv, .slice a n c, .bool bt] : Array Value).setIfInBounds j v = #[.int .i64 lv', .slice a' n' c', .bool bt']) :
    JBox (w.setCell ⟨b, j, none⟩ v) b lv' a' n' c' bt' := by
  refine ⟨?_⟩
  show (w.heap.modify b _)[b]? = _
  obtain ⟨hlt, hk⟩ := Array.getElem?_eq_some_iff.1 h.blk
  rw [Array.getElem?_eq_getElem (by rw [Array.size_modify]; exact hlt), Array.getElem_modify_self, hk]
  simp only [hv]
  rfl
theorem AccZ.setLow {w : World} {B n c b j : Nat} {a : Option Addr} {l : List Int} (h : AccZ w B a n c l) (hb : b < B) (v : Value) : AccZ (w.setCell ⟨b, j, none⟩ v) B a n c l :=
  ⟨h.1, own_keep h.2 (fun g hg => Below.heap_setCell _ _ _ _ (by show g ≠ b; omega))⟩
section
variable {w : World} {ops : Array Oper} {rest : List Oper} {o : Oper} {a : Act} {Q : Exit → Act → World → Prop}
/-- append of an int. -/
theorem app_z (hgd : Region.wanted o (yielded ops a.tmps) = true) (s x : Operand) (ho : o.op = .call { callee := .builtin .append, args := #[s, x], argTypes := #[41, 41] })
    (B : Nat) {aq : Option Addr} {n c : Nat} {l : List Int} (hs : a.eval s = .slice aq n c) (hacc : AccZ w B aq n c l)
    {k : Nat} {z : Int} (hx : a.eval x = .slice (some ⟨k, 0, none⟩) 1 1) (hcell : w.cell? ⟨k, 0, none⟩ = some (.int .i64 z)) (hb : n ≤ 1000000000) (hB : B ≤ w.heap.size)
    (h : ∀ a' c' w', AccZ w' B a' (n + 1) c' (l ++ [z]) → Below B w w' → Evol w aq w' a' → wpList Try.prog ops Q rest (a.put o.dst (.slice a' (n + 1) c')) w') : wpList Try.prog ops Q (o :: rest) a w := by
  obtain ⟨i, hi, h0, h1, h2⟩ := info_parts infoZ
  have hr : Row w (some ⟨k, 0, none⟩) (zv [z]) := fun j v hj => by
    cases j with
    | zero => cases hj; exact ⟨k, 0, rfl, hcell⟩
    | succ j => simp [zv] at hj
  refine wpList_app_own hgd s x 41 ho B 3 i (.int .i64 0) 1 8 Try.underlying41 hi h0 h1 h2 rfl (by decide) aq n c (zv l) hs hacc.2 (some ⟨k, 0, none⟩) 1 1 (zv [z]) hx hr rfl (fun u hu => by simp [zv] at hu; subst hu; rfl) (by omega) (by simp only [maxLen]; omega) hB ?_
  intro a' c' w' g1 g2
  exact h a' c' w' ⟨by simp [hacc.1], by have e : zv (l ++ [z]) = zv l ++ zv [z] := by simp [zv]
                                         rw [e]; exact g1⟩ (g2.below hB (fun x hx => by subst hx; exact (World.ownsRow.lt hacc.2 x.block rfl).1)) g2
/-- append of tables to a full slice. -/
theorem app_tabs_full (hgd : Region.wanted o (yielded ops a.tmps) = true) (s x : Operand) (ho : o.op = .call { callee := .builtin .append, args := #[s, x], argTypes := #[29, 29] })
    {aq : Option Addr} {n : Nat} {l : List Tab} (hs : a.eval s = .slice aq n n) (hq : Ts w aq n n l)
    {ax : Option Addr} {m cx : Nat} {l2 : List Tab} (hx : a.eval x = .slice ax m cx) (hr : Ts w ax m cx l2) (hb : n + m ≤ 1000000000)
    (h : ∀ a' c' w', Ts w' a' (n + m) c' (l ++ l2) → Below w.heap.size w w' → wpList Try.prog ops Q rest (a.put o.dst (.slice a' (n + m) c')) w') : wpList Try.prog ops Q (o :: rest) a w := by
  obtain ⟨i, hi, hz, h1, h2⟩ := info_parts infoT
  refine wpList_app hgd s x 29 ho w.heap.size 39 i (.agg #[.int .i64 0, .int .i64 0, .string ByteArray.empty, .string ByteArray.empty, .int .i64 0]) 5 56 Try.underlying29 hi hz h1 h2 rfl (by decide) aq n n (tv l) hs (.inr ⟨aq, rfl, hq.2.2.2, by rw [tv_len, hq.1], hq.2.2.1⟩) ax m cx (tv l2) hx hr.2.2.2 (by rw [tv_len, hr.1]) (tv_one l2) (by omega) (by simp only [maxLen]; omega) (Nat.le_refl _) ?_
  intro a' c' w' g1 _ g2 _
  rw [← tv_app] at g1
  have hc := g1.cap
  exact h a' c' w' ⟨by rw [List.length_append, hq.1, hr.1], hc.2.1, hc.2.2, g1.row⟩ g2
end
/-- What job tells. -/
def RetJ (k : Nat) (l vt : List Tab) (w : World) (e : Ending) (w' : World) : Prop :=
  ∃ ai ni ci, e = .returned (.agg #[.int .i64 k, .slice ai ni ci, .bool (Tab.botTo vt k (Tab.lo (Tab.all k l vt)) (Tab.hi (Tab.all k l vt)) 7)]) ∧ AccZ w' w.heap.size ai ni ci ((Tab.all k l vt).map Tab.file) ∧ Below w.heap.size w w'
/-- Rows of tables of the call's own. -/
def RetTo (B : Nat) (l : List Tab) (w : World) (e : Ending) (w' : World) : Prop := ∃ a n c, e = .returned (.slice a n c) ∧ AccT w' B a n c l ∧ True ∧ Below B w w'
theorem RetTs.weak {B : Nat} {l : List Tab} {w : World} {e : Ending} {w' : World} (h : RetTs B l w e w') : RetTo B l w e w' := by
  obtain ⟨a, n, c, h1, h2, _, h3⟩ := h
  exact ⟨a, n, c, h1, h2, trivial, h3⟩
def OverC (a : Option Addr) (n c : Nat) (vt : List Tab) (sq nx wl : Int) (w : World) : Prop :=
  ∀ (k : Int) (x y : List UInt8) (W : World), 1 ≤ k → Below w.heap.size w W → Calls Try.prog 32 #[vv a n c sq nx wl, .int .i64 k, .string (bstr x), .string (bstr y)] W (RetTo W.heap.size (Tab.over k x y vt) W)
set_option maxHeartbeats 8000000 in
theorem job_any (a al : Option Addr) (n c nl cl : Nat) (vt l : List Tab) (sq nx wl : Int) (k : Nat) (w : World) (h : Ts w a n c vt) (hl : Ts w al nl cl l) (h0 : 0 < nl) (hk : k ≤ 5) (hn : n ≤ 1000000) (hnl : nl ≤ 1000000) (hO : OverC a n c vt sq nx wl w) :
    Calls Try.prog 20 #[vv a n c sq nx wl, .int .i64 k, .slice al nl cl] w (RetJ k l vt w) := by
  have hle := hl.le
  have HN := Lib.hid (And.intro h.1 hl.1)
  have HL := Lib.hid hl
  have HO := Lib.hid hO
  have hcl := hl.2.1
  have HOL : Hid (∀ k x y, (Tab.over k x y vt).length ≤ n) := Lib.hid fun k x y => by
    rw [← HN.out.1]; exact Nat.le_trans (List.length_filter_le _ _) (List.length_filter_le _ _)
  clear h hl hO
  unfold vv
  obtain ⟨wb, hwb⟩ : ∃ wb, w.alloc (.cells #[.slice a n c, .int .u64 sq, .int .i64 nx, .int .i64 wl] 31) = wb := ⟨_, rfl⟩
  have hzb : wb.heap.size = w.heap.size + 1 := by rw [← hwb]; simp
  have HBB : Hid (Below w.heap.size w wb) := Lib.hid (by rw [← hwb]; exact below_alloc1 _ _)
  have hvb : wb.heap[w.heap.size]? = some (.cells #[.slice a n c, .int .u64 sq, .int .i64 nx, .int .i64 wl] 31 (0, 0)) := by rw [← hwb]; exact heap_alloc_new _ _
  have HVB := Lib.hid hvb
  have HZB := Lib.hid hzb
  have HJ0 : Hid (JBox (wb.alloc (.cells #[.int .i64 0, .slice none 0 0, .bool false] 48)) wb.heap.size 0 none 0 0 false) := Lib.hid (JBox.new _ _ _ _ _ _)
  have HB0 : Hid (Below wb.heap.size wb (wb.alloc (.cells #[.int .i64 0, .slice none 0 0, .bool false] 48))) := Lib.hid (below_alloc1 _ _)
  clear hvb hzb
  go_enter Try.func20, Try.ntmps20
  go_wp2_with fail
  refine (stretch_any al nl cl l _ ((HL.out.below HBB.out).below (below_alloc1 _ _)) h0).mono ?_
  rintro e w1 ⟨rfl, hb1⟩
  have HBW : Hid (Below (wb.heap.size + 1) (wb.alloc (.cells #[.int .i64 0, .slice none 0 0, .bool false] 48)) w1) := Lib.hid (by have := hb1; rwa [World.size_alloc] at this)
  have HB1 : Hid (Below wb.heap.size wb w1) := Lib.hid (HB0.out.trans (hb1.mono (by simp)))
  have HJ1 : Hid (JBox w1 wb.heap.size 0 none 0 0 false) := Lib.hid (HJ0.out.below HBW.out (by omega))
  have HV1 : Hid (w1.heap[w.heap.size]? = some (.cells #[.slice a n c, .int .u64 sq, .int .i64 nx, .int .i64 wl] 31 (0, 0))) := Lib.hid ((HB1.out.block _ (by have := HZB.out; omega)).trans HVB.out)
  have HBW1 : Hid (Below w.heap.size w w1) := Lib.hid (HBB.out.trans (HB1.out.mono (by have := HZB.out; omega)))
  clear hb1 HJ0 HB0 HBW
  go_upto_region 2 with fail
  have v0 := cell_of_row _ _ 0 _ _ _ HV1.out
  have v1 := cell_of_row _ _ 1 _ _ _ HV1.out
  have v2 := cell_of_row _ _ 2 _ _ _ HV1.out
  have v3 := cell_of_row _ _ 3 _ _ _ HV1.out
  simp at v0 v1 v2 v3
  have HALL : Hid (l ++ Tab.over ((k : Int) + 1) (Tab.lo l) (Tab.hi l) vt = Tab.all k l vt) := Lib.hid rfl
  generalize Tab.lo l = x at *
  generalize Tab.hi l = y at *
  have hwr : IntKind.i64.wrap ((k : Int) + 1) = (k : Int) + 1 := by rw [IntKind.wrap_i64]; omega
  refine wp_region_order [0, 3, 4, 5, 6] [2] [1, 7] [8, 9] 8 (by intro c a d v w h; cases d <;> exact h) (by kernel_rfl) (by kernel_rfl) (fun W' => ∃ V : BW w1, W' = V.w) ⟨⟨w1.drew, (Below.refl _ _).drew⟩, rfl⟩ ?_
  simp only [opsAt, List.filterMap_cons, List.filterMap_nil, List.getElem?_cons_zero, List.getElem?_cons_succ]
  iterate 5
    apply held_step
    · rfl
    · intro W _
      go_simp
      rfl
  refine held_nil ?_
  iterate 1
    apply held_step
    · rfl
    · rintro _ ⟨V, rfl⟩
      have m0 := BW.cell v0 V
      have m1 := BW.cell v1 V
      have m2 := BW.cell v2 V
      have m3 := BW.cell v3 V
      go_simp
      rfl
  refine held_nil ?_
  have HBC : Below w1.heap.size w1 w1.drew := (Below.refl _ _).drew
  refine walkS_step rfl (fun K hK => ?_)
  go_simp
  refine (clipt_any al nl cl _ hcl hle.2).mono ?_
  rintro e w2 ⟨rfl, rfl⟩
  refine hK _ _ ⟨⟨_, HBC⟩, rfl⟩ ?_
  clear hK
  refine walkS_step rfl (fun K hK => ?_)
  go_simp
  have hov := HO.out ((k : Int) + 1) x y w1.drew (by omega) (HBW1.out.trans (HBC.mono HBW1.out.size))
  unfold vv at hov
  refine hov.mono ?_
  clear hov
  rintro e w3 ⟨a3, n3, c3, rfl, h3, hz3, hb3⟩
  have hb3' : Below w1.heap.size w1 w3 := HBC.trans hb3
  refine hK _ _ ⟨⟨w3, hb3'⟩, rfl⟩ ?_
  clear hK
  refine walkS_nil ?_
  have hn3 : n3 ≤ n := by rw [← h3.1]; exact HOL.out _ _ _
  refine app_tabs_full (aq := al) (n := nl) (l := l) (ax := a3) (m := n3) (cx := c3) rfl _ _ rfl (by simp [Act.eval, Act.put]) ((HL.out.below HBW1.out).below hb3' |>.clip) (by simp [Act.eval, Act.put]) h3.ts (by omega) ?_
  intro a4 c4 w4 h4 hb4
  have hb14 := hb3'.trans (hb4.mono hb3'.size)
  have HJ4 : Hid (JBox w4 wb.heap.size 0 none 0 0 false) := Lib.hid (HJ1.out.below hb14 HJ1.out.lt)
  have HV4 : Hid (w4.heap[w.heap.size]? = some (.cells #[.slice a n c, .int .u64 sq, .int .i64 nx, .int .i64 wl] 31 (0, 0))) := Lib.hid ((hb14.block _ (by have := HZB.out; have := HB1.out.size; omega)).trans HV1.out)
  have HB4 : Hid (Below wb.heap.size wb w4) := Lib.hid (HB1.out.trans (hb14.mono HB1.out.size))
  have HBW4 : Hid (Below w.heap.size w w4) := Lib.hid (HBB.out.trans (HB4.out.mono (by have := HZB.out; omega)))
  rw [HALL.out] at h4
  have HT4 : Hid (Ts w4 a4 (nl + n3) c4 (Tab.all k l vt)) := Lib.hid h4
  clear h4 hb14 hb4 hb3 hb3' h3 hz3 HB1 HJ1 HV1 HBW1 HALL v0 v1 v2 v3 hwr HBC
  have hN : nl + n3 ≤ 2000000 := by omega
  have hN0 : 0 < nl + n3 := by omega
  obtain ⟨ts, hts⟩ : ∃ ts, ts = Tab.all k l vt := ⟨_, rfl⟩
  rw [← hts] at HT4
  have HTS := Lib.hid hts
  have HTL := Lib.hid HT4.out.1
  have hle4 := HT4.out.le
  clear hts
  generalize nl + n3 = N at *
  have HSZ : Hid (w.heap.size + 1 = wb.heap.size ∧ wb.heap.size < w4.heap.size) := Lib.hid ⟨HZB.out.symm, HJ4.out.lt⟩
  go_wp2_with fail
  go_loopw [32] (fun iv wr => ∃ (i ci : Nat) (ai : Option Addr), i ≤ N ∧ iv = .int .i64 i ∧ Hid (JBox wr w4.heap.size k ai i ci true) ∧ Hid (AccZ wr (w4.heap.size + 1) ai i ci ((ts.take i).map Tab.file)) ∧ Hid (Below w4.heap.size w4 wr)) (fun iv _ => N - (intOf iv).toNat)
  case atStart => exact ⟨0, 0, none, Nat.zero_le _, rfl, Lib.hid (JBox.new _ _ _ _ _ _), Lib.hid (AccZ.nil _ _), Lib.hid (below_alloc1 _ _)⟩
  case round =>
    obtain ⟨i, ci, ai, hi, rfl, hjb, hac, hbl⟩ := hrel
    by_cases hin : i < N
    · obtain ⟨b1, o1, ea, he⟩ := (HT4.out.below hbl.out).get hin
      subst ea
      have c1 := he.file
      have c2 := he.level
      have c3 := he.first
      have c4' := he.last
      have c5 := he.size
      obtain ⟨j0, j1, j2, jf⟩ := hjb.out.cells
      have HSN : Hid ((ts.take (i + 1)).map Tab.file = (ts.take i).map Tab.file ++ [(nth ts i).file]) := Lib.hid (by rw [take_snoc ts (by rw [HTL.out]; exact hin)]; simp)
      clear he j0 j2
      generalize nth ts i = t at *
      have hz1 : (wr.alloc (.cells #[.int .i64 t.file, .int .i64 t.level, .string (bstr t.first), .string (bstr t.last), .int .i64 t.size] 39)).heap.size = wr.heap.size + 1 := by simp
      have hb12 : Below wr.heap.size wr ((wr.alloc (.cells #[.int .i64 t.file, .int .i64 t.level, .string (bstr t.first), .string (bstr t.last), .int .i64 t.size] 39)).alloc (.cells #[.int .i64 t.file] 3)) := two_boxes _ _ _
      have HJ2 := Lib.hid (hjb.out.below hb12 hjb.out.lt)
      have HA2 := Lib.hid (hac.out.below hb12)
      have HB2 := Lib.hid (hbl.out.trans (hb12.mono hbl.out.size))
      have HLT := Lib.hid hjb.out.lt
      have hlt9 : w4.heap.size < wr.heap.size := hjb.out.lt
      have j1a := cell_later (below_alloc1 wr (.cells #[.int .i64 t.file, .int .i64 t.level, .string (bstr t.first), .string (bstr t.last), .int .i64 t.size] 39)) j1
      have HC9 : Hid (((wr.alloc (.cells #[.int .i64 t.file, .int .i64 t.level, .string (bstr t.first), .string (bstr t.last), .int .i64 t.size] 39)).alloc (.cells #[.int .i64 t.file] 3)).cell? ⟨wr.heap.size + 1, 0, none⟩ = some (.int .i64 t.file)) := Lib.hid (by rw [← hz1, cell_of_row _ _ _ _ _ _ (heap_alloc_new _ _)]; rfl)
      clear hb12 hz1
      go_wp2_with (at_builtin; refine app_z rfl _ _ rfl (w4.heap.size + 1) rfl HA2.out rfl HC9.out (by omega) (by have := HLT.out; simp; omega) ?_; intro a6 c6 w6 h6 hb6 hev6; have HJ6 := Lib.hid (JBox.evol HJ2.out hev6 (fun x hx => by have := (World.ownsRow.lt (hx ▸ HA2.out.2) x.block rfl).1; omega)); have H6 := Lib.hid h6; have HB6 := Lib.hid (HB2.out.trans (hb6.mono (Nat.le_succ _))); obtain ⟨k0, k1, k2, kf⟩ := HJ6.out.cells; clear h6 hb6 hev6 k0 k2)
      go_roundw
      case rel => exact ⟨i + 1, c6, a6, hin, by go_num, Lib.hid (HJ6.out.set 1 _ rfl), by rw [HSN.out]; exact Lib.hid (H6.out.setLow (Nat.lt_succ_self _) _), Lib.hid (HB6.out.setCell (p := ⟨w4.heap.size, 1, none⟩) (Nat.le_refl _) _)⟩
      case measure => simp [intOf]; omega
    · obtain rfl : N = i := by omega
      have e1 : ts.take N = ts := by rw [← HTL.out, List.take_length]
      rw [e1] at hac
      clear e1
      go_wp2_with fail
      refine (stretch_any a4 N c4 ts _ (HT4.out.below hbl.out) hN0).mono ?_
      rintro e w8 ⟨rfl, hb8⟩
      have HJ8 := Lib.hid (hjb.out.below hb8 hjb.out.lt)
      have HA8 := Lib.hid (hac.out.below hb8)
      have HB8 := Lib.hid (hbl.out.trans (hb8.mono hbl.out.size))
      clear hb8 hjb hac hbl
      obtain ⟨X, hX⟩ : ∃ X, X = Tab.lo ts := ⟨_, rfl⟩
      obtain ⟨Y, hY⟩ : ∃ Y, Y = Tab.hi ts := ⟨_, rfl⟩
      rw [← hX, ← hY]
      have HXY := Lib.hid (And.intro hX hY)
      clear hX hY
      go_wp2_with fail
      have HAN0 : Hid (n3 ≤ 1000000) := Lib.hid (by omega)
      go_loopw [13] (fun kv wr => ∃ j : Nat, k + 2 ≤ j ∧ j ≤ 7 ∧ kv = .int .i64 j ∧ Hid (JBox wr w4.heap.size k ai N ci (Tab.botTo vt k X Y j)) ∧ Hid (AccZ wr (w4.heap.size + 1) ai N ci (ts.map Tab.file)) ∧ Hid (Below w4.heap.size w4 wr)) (fun kv _ => 7 - (intOf kv).toNat)
      case atStart => exact ⟨k + 2, Nat.le_refl _, by omega, by go_num, by rw [botTo_zero]; exact HJ8, HA8, HB8⟩
      case round =>
        obtain ⟨j, hj2, hj7, rfl, hjb, hac, hbl⟩ := hrel
        have hlt9 : w4.heap.size < wr.heap.size := hjb.out.lt
        by_cases hj : j ≤ 6
        · have HST : Hid (Tab.botTo vt k X Y (j + 1) = (Tab.botTo vt k X Y j && (Tab.over (j : Int) X Y vt).isEmpty)) := Lib.hid (botTo_succ hj2)
          cases hb : Tab.botTo vt k X Y j with
          | false =>
            rw [hb] at hjb HST
            obtain ⟨j0, j1, j2, jf⟩ := hjb.out.cells
            have HS2 : Hid (Tab.botTo vt k X Y (j + 1) = false) := Lib.hid (by rw [HST.out]; rfl)
            clear HST hb j0 j1
            go_wp2
            go_roundw
            case rel => exact ⟨j + 1, by omega, by omega, by go_num, by rw [HS2.out]; exact Lib.hid (hjb.out.set 2 _ rfl), Lib.hid (hac.out.setLow (Nat.lt_succ_self _) _), Lib.hid (hbl.out.setCell (p := ⟨w4.heap.size, 2, none⟩) (Nat.le_refl _) _)⟩
            case measure => simp [intOf]; omega
          | true =>
            rw [hb] at hjb HST
            obtain ⟨j0, j1, j2, jf⟩ := hjb.out.cells
            have hvb := (hbl.out.block w.heap.size (by have := HSZ.out; omega)).trans HV4.out
            have v0 := cell_of_row _ _ 0 _ _ _ hvb
            have v1 := cell_of_row _ _ 1 _ _ _ hvb
            have v2 := cell_of_row _ _ 2 _ _ _ hvb
            have v3 := cell_of_row _ _ 3 _ _ _ hvb
            simp at v0 v1 v2 v3
            clear hb j0 j1 hvb
            go_wp2_with fail
            have hov := HO.out (j : Int) X Y wr (by omega) (HBW4.out.trans (hbl.out.mono HBW4.out.size))
            unfold vv at hov
            refine hov.mono ?_
            clear hov
            rintro e w9 ⟨a9, n9, c9, rfl, h9, hz9, hb9⟩
            have HJ9 := Lib.hid (hjb.out.below hb9 hjb.out.lt)
            have HA9 := Lib.hid (hac.out.below hb9)
            have HB9 := Lib.hid (hbl.out.trans (hb9.mono hbl.out.size))
            have h9l := h9.1
            clear h9 hz9 hb9 hjb hac hbl v0 v1 v2 v3 j2 jf
            obtain ⟨k0, k1, k2, kf⟩ := HJ9.out.cells
            clear k0 k1
            by_cases hn9 : n9 = 0
            · have HS2 : Hid (Tab.botTo vt k X Y (j + 1) = true) := Lib.hid (by rw [HST.out, List.eq_nil_of_length_eq_zero (h9l.trans hn9)]; rfl)
              have t9 : ((n9 : Int) == 0) = true := by simp; omega
              clear HST h9l hn9
              go_wp2
              go_roundw
              case rel => exact ⟨j + 1, by omega, by omega, by go_num, by rw [HS2.out]; exact Lib.hid (HJ9.out.set 2 _ rfl), Lib.hid (HA9.out.setLow (Nat.lt_succ_self _) _), Lib.hid (HB9.out.setCell (p := ⟨w4.heap.size, 2, none⟩) (Nat.le_refl _) _)⟩
              case measure => simp [intOf]; omega
            · have HS2 : Hid (Tab.botTo vt k X Y (j + 1) = false) := Lib.hid (by
                rw [HST.out]
                cases e : Tab.over (j : Int) X Y vt with
                | nil => rw [e] at h9l; simp at h9l; omega
                | cons _ _ => rfl)
              have t9 : ((n9 : Int) == 0) = false := by simp; omega
              clear HST h9l hn9
              go_wp2
              go_roundw
              case rel => exact ⟨j + 1, by omega, by omega, by go_num, by rw [HS2.out]; exact Lib.hid (HJ9.out.set 2 _ rfl), Lib.hid (HA9.out.setLow (Nat.lt_succ_self _) _), Lib.hid (HB9.out.setCell (p := ⟨w4.heap.size, 2, none⟩) (Nat.le_refl _) _)⟩
              case measure => simp [intOf]; omega
        · obtain rfl : j = 7 := by omega
          obtain ⟨j0, j1, j2, jf⟩ := hjb.out.cells
          have hr := hjb.out
          have HR6 : Hid (JBox wr wb.heap.size 0 none 0 0 false) := Lib.hid (HJ4.out.below hbl.out HSZ.out.2)
          obtain ⟨r0, r1, r2, rf⟩ := HR6.out.cells
          have t6 : decide (((7 : Nat) : Int) ≤ 6) = false := by decide
          have hne : w4.heap.size ≠ wb.heap.size := by have := HSZ.out; omega
          have hs0 := (HR6.out.set 0 (.int .i64 (k : Int)) rfl)
          have hs1 := (hs0.set 1 (.slice ai N ci) rfl)
          have hs2 := (hs1.set 2 (.bool (Tab.botTo vt k X Y 7)) rfl)
          obtain ⟨q0, q1, q2, qf⟩ := hs2.cells
          have HQ := Lib.hid (And.intro q0 (And.intro q1 q2))
          have HNEW : Hid (AccZ (((wr.setCell ⟨wb.heap.size, 0, none⟩ (.int .i64 (k : Int))).setCell ⟨wb.heap.size, 1, none⟩ (.slice ai N ci)).setCell ⟨wb.heap.size, 2, none⟩ (.bool (Tab.botTo vt k X Y 7))) w.heap.size ai N ci (ts.map Tab.file)) :=
            Lib.hid ((((hac.out.setLow (by have := HSZ.out; omega) _).setLow (by have := HSZ.out; omega) _).setLow (by have := HSZ.out; omega) _).mono (by have := HSZ.out; omega))
          have HBE : Hid (Below w.heap.size w (((wr.setCell ⟨wb.heap.size, 0, none⟩ (.int .i64 (k : Int))).setCell ⟨wb.heap.size, 1, none⟩ (.slice ai N ci)).setCell ⟨wb.heap.size, 2, none⟩ (.bool (Tab.botTo vt k X Y 7)))) :=
            Lib.hid ((((HBW4.out.trans (hbl.out.mono HBW4.out.size)).setCell (p := ⟨wb.heap.size, 0, none⟩) (by show w.heap.size ≤ wb.heap.size; have := HSZ.out; omega) _).setCell (p := ⟨wb.heap.size, 1, none⟩) (by show w.heap.size ≤ wb.heap.size; have := HSZ.out; omega) _).setCell (p := ⟨wb.heap.size, 2, none⟩) (by show w.heap.size ≤ wb.heap.size; have := HSZ.out; omega) _)
          clear hs0 hs1 hs2 q0 q1 q2 qf hr
          obtain ⟨B, hB⟩ : ∃ B, B = Tab.botTo vt k X Y 7 := ⟨_, rfl⟩
          rw [← hB] at HQ HNEW HBE j2 hjb
          have HBB2 := Lib.hid hB
          clear hB hjb hac hbl
          go_wp2
          obtain ⟨q0, q1, q2⟩ := HQ.out
          refine bodyPost_ret (v := .agg #[.int .i64 k, .slice ai N ci, .bool B]) (by simp [results, Try.results20, go_sem, q0, q1, q2]) rfl ⟨ai, N, ci, ?_, ?_, HBE.out⟩
          · rw [HBB2.out, HXY.out.1, HXY.out.2, HTS.out]
          · rw [← HTS.out]; exact HNEW.out
end Go.Proofs.Ytlipgaefflecaaa
end
