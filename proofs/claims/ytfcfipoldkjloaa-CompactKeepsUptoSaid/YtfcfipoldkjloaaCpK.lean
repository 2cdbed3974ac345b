/- compact.level, compact.stretch. -/
import Derived.Test.YtfcfipoldkjloaaCpT
set_option maxRecDepth 100000
set_option linter.unusedVariables false
set_option linter.unusedSimpArgs false
namespace Go.Proofs.Ytfcfipoldkjloaa
open Go.RowKit

def Tab.mn (x y : List UInt8) : List UInt8 := if Ent.klt y x = true then y else x
def Tab.mx (x y : List UInt8) : List UInt8 := if Ent.klt x y = true then y else x
theorem run_mn {P : Program} (w : World) (ts : Array TypeId) (t : TypeId) (x y : List UInt8) : (Builtin.min_ ts t #[.string (bstr x), .string (bstr y)]).run P w = .ok (.string (bstr (Tab.mn x y))) w := by
  unfold Tab.mn
  have e := bstr_beq x y
  rcases Ent.klt_total x y with h | h | h
  · have h2 := Ent.klt_asymm h
    rw [if_neg (by rw [h2]; simp)]
    simp [Builtin.min_, Builtin.min2, Op.stringOp, asBool, bstr_list, h]
  · subst h
    rw [Ent.klt_irrefl]
    simp [Builtin.min_, Builtin.min2, Op.stringOp, asBool, bstr_list]
  · have h2 := Ent.klt_asymm h
    have h3 := Ent.klt_ne h
    rw [if_pos h]
    have h4 : bstr x ≠ bstr y := fun e => h3 (bstr_inj e).symm
    simp [Builtin.min_, Builtin.min2, Op.stringOp, asBool, bstr_list, h2, Ne.symm h3, h4]
theorem run_mx {P : Program} (w : World) (ts : Array TypeId) (t : TypeId) (x y : List UInt8) : (Builtin.max_ ts t #[.string (bstr x), .string (bstr y)]).run P w = .ok (.string (bstr (Tab.mx x y))) w := by
  unfold Tab.mx
  cases h : Ent.klt x y <;> simp [Builtin.max_, Builtin.max2, Op.stringOp, asBool, bstr_list, h]
/-- A version as a value. -/
def vv (a : Option Addr) (n c : Nat) (sq nx wl : Int) : Value := .agg #[.slice a n c, .int .u64 sq, .int .i64 nx, .int .i64 wl]
def Tab.at (k : Int) (l : List Tab) : List Tab := l.filter fun t => t.level == k
theorem at_snoc (k : Int) (l : List Tab) {i : Nat} (hi : i < l.length) : Tab.at k (l.take (i + 1)) = Tab.at k (l.take i) ++ (if ((nth l i).level == k) = true then [nth l i] else []) := by
  unfold Tab.at
  rw [take_snoc l hi, List.filter_append]
  congr 1
  cases h : (nth l i).level == k <;> simp [h]
/-- Rows of tables of the call's own, nil if there are none. -/
def RetTs (B : Nat) (l : List Tab) (w : World) (e : Ending) (w' : World) : Prop := ∃ a n c, e = .returned (.slice a n c) ∧ AccT w' B a n c l ∧ (l = [] → a = none ∧ c = 0) ∧ Below B w w'
set_option maxHeartbeats 2000000 in
theorem level_any (a : Option Addr) (n c : Nat) (vt : List Tab) (sq nx wl k : Int) (w : World) (h : Ts w a n c vt) (hn : n ≤ 1000000) :
    Calls Try.prog 29 #[vv a n c sq nx wl, .int .i64 k] w (RetTs w.heap.size (Tab.at k vt) w) := by
  have hle := h.le.1
  have HN := Lib.hid h.1
  have HE := Lib.hid h
  clear h
  unfold vv
  go_enter Try.func29, Try.ntmps29
  go_wp2_with fail
  go_loopw [5, 11] (fun o iv wr => ∃ (i m co : Nat) (ao : Option Addr), i ≤ n ∧ m ≤ i ∧ o = .slice ao m co ∧ iv = .int .i64 i ∧ Hid (AccT wr w.heap.size ao m co (Tab.at k (vt.take i))) ∧ Hid (Tab.at k (vt.take i) = [] → ao = none ∧ co = 0) ∧ Hid (Below w.heap.size w wr)) (fun _ iv _ => n - (intOf iv).toNat)
  case atStart => exact ⟨0, 0, 0, none, Nat.zero_le _, Nat.le_refl _, rfl, rfl, Lib.hid (AccT.nil _ _), Lib.hid (fun _ => ⟨rfl, rfl⟩), Lib.hid (below_alloc1 _ _)⟩
  case round =>
    obtain ⟨i, m, co, ao, hi, hmi, rfl, rfl, hac, hnil, hbl⟩ := hrel
    by_cases hin : i < n
    · obtain ⟨b1, o1, rfl, he⟩ := (HE.out.below hbl.out).get hin
      have c1 := he.file
      have c2 := he.level
      have c3 := he.first
      have c4 := he.last
      have c5 := he.size
      have HSN := Lib.hid (at_snoc k vt (i := i) (by rw [HN.out]; exact hin))
      clear he
      generalize nth vt i = t at *
      cases ht : (t.level == k) with
      | true =>
        rw [ht] at HSN
        have HL := Lib.hid hnil
        have HS2 : Hid (Tab.at k (vt.take (i + 1)) = Tab.at k (vt.take i) ++ [t]) := Lib.hid HSN.out
        clear HSN hnil
        go_wp2_with (at_builtin; refine app_tabs rfl _ _ rfl w.heap.size rfl ((hac.out.below (below_alloc1 _ _)).below (below_alloc1 _ _)) rfl (ts_one (tab_boxAt (by simp) t)) (by omega) (le_alloc (le_alloc hbl.out.size)) ?_; intro a4 c4 w4 h4 hb4 _; have H4 := Lib.hid h4; have HB4 := Lib.hid (((hbl.out.alloc hbl.out.size _).alloc (le_alloc hbl.out.size) _).trans hb4); clear h4 hb4)
        go_roundw
        case rel => exact ⟨i + 1, m + 1, c4, a4, hin, by omega, rfl, by go_num, by rw [HS2.out]; exact H4, Lib.hid (fun e => by rw [HS2.out] at e; simp at e), HB4⟩
        case measure => simp [intOf]; omega
      | false =>
        rw [ht] at HSN
        have HS2 : Hid (Tab.at k (vt.take (i + 1)) = Tab.at k (vt.take i)) := Lib.hid (by rw [HSN.out]; simp)
        clear HSN
        go_wp2
        go_roundw
        case rel => exact ⟨i + 1, m, co, ao, hin, by omega, rfl, by go_num, by rw [HS2.out]; exact Lib.hid (hac.out.below (below_alloc1 _ _)), by rw [HS2.out]; exact hnil, Lib.hid (hbl.out.alloc hbl.out.size _)⟩
        case measure => simp [intOf]; omega
    · obtain rfl : n = i := by omega
      have e1 : vt.take n = vt := by rw [← HN.out, List.take_length]
      rw [e1] at hac hnil
      have HP : Hid (RetTs w.heap.size (Tab.at k vt) w (.returned (.slice ao m co)) wr) := Lib.hid ⟨ao, m, co, rfl, hac.out, hnil.out, hbl.out⟩
      clear e1 hac hnil
      go_wp2
      go_ret
      exact HP.out
/-- The least first key and the greatest last one. -/
def Tab.lo (l : List Tab) : List UInt8 := l.foldl (fun m t => Tab.mn m t.first) (nth l 0).first
def Tab.hi (l : List Tab) : List UInt8 := l.foldl (fun m t => Tab.mx m t.last) (nth l 0).last
def Tab.loTo (l : List Tab) (i : Nat) : List UInt8 := (l.take i).foldl (fun m t => Tab.mn m t.first) (nth l 0).first
def Tab.hiTo (l : List Tab) (i : Nat) : List UInt8 := (l.take i).foldl (fun m t => Tab.mx m t.last) (nth l 0).last
theorem loTo_snoc (l : List Tab) {i : Nat} (hi : i < l.length) : Tab.loTo l (i + 1) = Tab.mn (Tab.loTo l i) (nth l i).first := by
  unfold Tab.loTo; rw [take_snoc l hi, List.foldl_append]; rfl
theorem hiTo_snoc (l : List Tab) {i : Nat} (hi : i < l.length) : Tab.hiTo l (i + 1) = Tab.mx (Tab.hiTo l i) (nth l i).last := by
  unfold Tab.hiTo; rw [take_snoc l hi, List.foldl_append]; rfl
set_option maxHeartbeats 2000000 in
theorem stretch_any (a : Option Addr) (n c : Nat) (l : List Tab) (w : World) (h : Ts w a n c l) (hn : 0 < n) :
    Calls Try.prog 55 #[.slice a n c] w fun e w' => e = .returned (.tuple #[.string (bstr (Tab.lo l)), .string (bstr (Tab.hi l))]) ∧ Below w.heap.size w w' := by
  have hle := h.le.1
  have HN := Lib.hid h.1
  have HE := Lib.hid h
  obtain ⟨b, off, rfl, h0⟩ := h.get hn
  have f0 := h0.first
  have l0 := h0.last
  rw [Nat.zero_mul, Nat.add_zero] at f0 l0
  clear h h0
  go_enter Try.func55, Try.ntmps55
  go_wp2_with fail
  refine wp_region_class (w0 := w) (by kernel_rfl) (by kernel_rfl) (Below.refl _ _) ?_
  have m1 := BW.cell f0
  have m2 := BW.cell l0
  repeat (first | go_big_quiet_step (fail))
  refine wpQuiet_nil ?_
  intro w1 hb1; replace hb1 := BW.of hb1
  have HB1 := Lib.hid hb1
  have HL0 : Hid (Tab.loTo l 0 = (nth l 0).first ∧ Tab.hiTo l 0 = (nth l 0).last) := Lib.hid ⟨rfl, rfl⟩
  clear hb1 m1 m2 f0 l0
  go_wp2_with fail
  go_loopw [2, 3, 16] (fun x y iv wr => ∃ (i : Nat), i ≤ n ∧ x = .string (bstr (Tab.loTo l i)) ∧ y = .string (bstr (Tab.hiTo l i)) ∧ iv = .int .i64 i ∧ Hid (Below w.heap.size w wr)) (fun _ _ iv _ => n - (intOf iv).toNat)
  case atStart => exact ⟨0, Nat.zero_le _, by rw [HL0.out.1], by rw [HL0.out.2], rfl, HB1⟩
  case round =>
    obtain ⟨i, hi, rfl, rfl, rfl, hbl⟩ := hrel
    by_cases hin : i < n
    · obtain ⟨b1, o1, ea, he⟩ := (HE.out.below hbl.out).get hin
      cases ea
      have c1 := he.file
      have c2 := he.level
      have c3 := he.first
      have c4 := he.last
      have c5 := he.size
      have HSN := Lib.hid (And.intro (loTo_snoc l (i := i) (by rw [HN.out]; exact hin)) (hiTo_snoc l (i := i) (by rw [HN.out]; exact hin)))
      clear he
      generalize nth l i = t at *
      generalize Tab.loTo l i = x at *
      generalize Tab.hiTo l i = y at *
      go_wp2_with fail
      refine wp_region_class (w0 := wr.alloc (.cells #[.int .i64 t.file, .int .i64 t.level, .string (bstr t.first), .string (bstr t.last), .int .i64 t.size] 49)) (by kernel_rfl) (by kernel_rfl) (Below.refl _ _) ?_
      have m1 := BW.cell (tab_box wr t).first
      have m2 := BW.cell (tab_box wr t).last
      have k1 := fun (W : World) ts tt => run_mn (P := Try.prog) W ts tt x t.first
      have k2 := fun (W : World) ts tt => run_mx (P := Try.prog) W ts tt y t.last
      repeat (first | go_big_quiet_step (fail))
      refine wpQuiet_nil ?_
      intro w2 hb2; replace hb2 := BW.of hb2
      have HB2 := Lib.hid ((hbl.out.alloc hbl.out.size _).trans (hb2.mono (le_alloc hbl.out.size)))
      clear hb2 m1 m2 k1 k2
      go_wp2
      go_roundw
      case rel => exact ⟨i + 1, hin, by rw [HSN.out.1], by rw [HSN.out.2], by go_num, HB2⟩
      case measure => simp [intOf]; omega
    · obtain rfl : n = i := by omega
      have HP : Hid (Tab.loTo l n = Tab.lo l ∧ Tab.hiTo l n = Tab.hi l) := Lib.hid (by unfold Tab.loTo Tab.hiTo Tab.lo Tab.hi; rw [← HN.out, List.take_length]; exact ⟨rfl, rfl⟩)
      rw [HP.out.1, HP.out.2]
      go_wp2
      go_ret2
      exact ⟨rfl, hbl.out⟩
end Go.Proofs.Ytfcfipoldkjloaa
