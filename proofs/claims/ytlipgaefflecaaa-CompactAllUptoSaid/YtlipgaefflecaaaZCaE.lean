/- compact: Check, Pick in general. -/
import Derived.Test.YtlipgaefflecaaaZOth
import Derived.Laws.StructEq
set_option linter.unusedVariables false
set_option linter.unusedSimpArgs false
set_option maxRecDepth 100000
set_option linter.unusedVariables false
set_option linter.unusedSimpArgs false
namespace Go.Proofs.Ytlipgaefflecaaa
open Go.RowKit

theorem sh_held : Try.prog.stoodInHeld 24 = false := by kernel_rfl
theorem sh_fields : Try.prog.underlying 24 = some (.struct (Try.prog.fieldsOf 24)) := by kernel_rfl
theorem sh_equal (x y z x' y' z' : Int) (w : World) : (Op.equalIn 10000 24 (.agg #[.int .i64 x, .int .i64 y, .int .i64 z]) (.agg #[.int .i64 x', .int .i64 y', .int .i64 z'])).run Try.prog w = .ok (x == x' && y == y' && z == z') w := by
  rw [run_equalIn_struct w _ _ _ _ sh_fields sh_held]
  simp only [Program.fieldsOf, Try.underlying24]
  by_cases h1 : x = x'
  · by_cases h2 : y = y'
    · by_cases h3 : z = z'
      · simp [Op.eqFields, go_sem, h1, h2, h3, Try.underlying3]
      · simp [Op.eqFields, go_sem, h1, h2, h3, Try.underlying3]
    · simp [Op.eqFields, go_sem, h1, h2, Try.underlying3]
  · simp [Op.eqFields, go_sem, h1, Try.underlying3]
/-- A shape that may be. -/
def Cp.shOk (z b t : Int) : Prop := 1 ≤ z ∧ z ≤ 100 ∧ 1 ≤ b ∧ b ≤ 1073741824 ∧ 1 ≤ t ∧ t ≤ 67108864
instance (z b t : Int) : Decidable (Cp.shOk z b t) := inferInstanceAs (Decidable (_ ∧ _))
set_option maxHeartbeats 4000000 in
theorem check_yes (z b t : Int) (w : World) (h : Cp.shOk z b t) : Calls Try.prog 5 #[shv z b t] w fun e w' => e = .returned (.int .i64 0) ∧ Below w.heap.size w w' := by
  have hb := (two_boxes w (.cells #[.int .i64 z, .int .i64 b, .int .i64 t] 24) (.cells #[.int .i64 1, .int .i64 1, .int .i64 1] 24)).alloc (by simp; omega) (.cells #[.int .i64 100, .int .i64 1073741824, .int .i64 67108864] 24)
  have q1 := fun W => sh_equal z b t 1 1 1 W
  have q2 := fun W => sh_equal z b t 100 1073741824 67108864 W
  unfold Cp.shOk at h
  unfold shv
  cases e1 : (z == 1 && b == 1 && t == 1) with
  | true =>
    simp only [e1] at q1
    clear q2 h e1
    go_enter Try.func5, Try.ntmps5
    go_wp2
    go_ret
    exact ⟨rfl, hb⟩
  | false =>
  cases e2 : (z == 100 && b == 1073741824 && t == 67108864) with
  | true =>
    simp only [e1, e2] at q1 q2
    clear h e1 e2
    go_enter Try.func5, Try.ntmps5
    go_wp2
    go_ret
    exact ⟨rfl, hb⟩
  | false =>
    simp only [e1, e2] at q1 q2
    clear e1 e2
    have t0 : decide (z < (1 : Int)) = false := decide_eq_false (by omega)
    have t1 : decide ((100 : Int) < z) = false := decide_eq_false (by omega)
    have t2 : decide (b < (1 : Int)) = false := decide_eq_false (by omega)
    have t3 : decide ((1073741824 : Int) < b) = false := decide_eq_false (by omega)
    have t4 : decide (t < (1 : Int)) = false := decide_eq_false (by omega)
    have t5 : decide ((67108864 : Int) < t) = false := decide_eq_false (by omega)
    clear h
    go_enter Try.func5, Try.ntmps5
    go_wp2
    go_ret
    exact ⟨rfl, hb⟩
set_option maxHeartbeats 4000000 in
theorem check_no (z b t : Int) (w : World) (h : ¬ Cp.shOk z b t) : Calls Try.prog 5 #[shv z b t] w fun e w' => e = .returned (.int .i64 1) ∧ Below w.heap.size w w' := by
  have hb := (two_boxes w (.cells #[.int .i64 z, .int .i64 b, .int .i64 t] 24) (.cells #[.int .i64 1, .int .i64 1, .int .i64 1] 24)).alloc (by simp; omega) (.cells #[.int .i64 100, .int .i64 1073741824, .int .i64 67108864] 24)
  have q1 := fun W => sh_equal z b t 1 1 1 W
  have q2 := fun W => sh_equal z b t 100 1073741824 67108864 W
  unfold Cp.shOk at h
  unfold shv
  have e1 : (z == 1 && b == 1 && t == 1) = false := by
    rw [Bool.eq_false_iff]
    intro hc
    simp only [Bool.and_eq_true, beq_iff_eq] at hc
    omega
  have e2 : (z == 100 && b == 1073741824 && t == 67108864) = false := by
    rw [Bool.eq_false_iff]
    intro hc
    simp only [Bool.and_eq_true, beq_iff_eq] at hc
    omega
  simp only [e1, e2] at q1 q2
  clear e1 e2
  by_cases x0 : z < 1
  · have t0 : decide (z < (1 : Int)) = true := decide_eq_true x0
    clear h x0
    go_enter Try.func5, Try.ntmps5
    go_wp2
    go_ret
    exact ⟨rfl, hb⟩
  have t0 : decide (z < (1 : Int)) = false := decide_eq_false x0
  by_cases x1 : 100 < z
  · have t1 : decide ((100 : Int) < z) = true := decide_eq_true x1
    clear h x1
    go_enter Try.func5, Try.ntmps5
    go_wp2
    go_ret
    exact ⟨rfl, hb⟩
  have t1 : decide ((100 : Int) < z) = false := decide_eq_false x1
  by_cases x2 : b < 1
  · have t2 : decide (b < (1 : Int)) = true := decide_eq_true x2
    clear h x2
    go_enter Try.func5, Try.ntmps5
    go_wp2
    go_ret
    exact ⟨rfl, hb⟩
  have t2 : decide (b < (1 : Int)) = false := decide_eq_false x2
  by_cases x3 : 1073741824 < b
  · have t3 : decide ((1073741824 : Int) < b) = true := decide_eq_true x3
    clear h x3
    go_enter Try.func5, Try.ntmps5
    go_wp2
    go_ret
    exact ⟨rfl, hb⟩
  have t3 : decide ((1073741824 : Int) < b) = false := decide_eq_false x3
  by_cases x4 : t < 1
  · have t4 : decide (t < (1 : Int)) = true := decide_eq_true x4
    clear h x4
    go_enter Try.func5, Try.ntmps5
    go_wp2
    go_ret
    exact ⟨rfl, hb⟩
  have t4 : decide (t < (1 : Int)) = false := decide_eq_false x4
  have t5 : decide ((67108864 : Int) < t) = true := decide_eq_true (by omega)
  clear h
  go_enter Try.func5, Try.ntmps5
  go_wp2
  go_ret
  exact ⟨rfl, hb⟩
theorem ts_oneAt {w : World} {k o : Nat} {t : Tab} (h : TabAt w k o t) : Ts w (some ⟨k, o, none⟩) 1 1 [t] := by
  refine ⟨rfl, Nat.le_refl _, by simp [maxLen], fun j v hj => ⟨k, o, rfl, h.cells j v ?_⟩⟩
  simpa [tv] using hj
theorem ten_pow (b : Nat) (j : Nat) (hb : b ≤ 1073741824) (h : j ≤ 6) : b * 10 ^ j ≤ 1073741824000000 := by
  have h1 : 10 ^ j ≤ 10 ^ 6 := Nat.pow_le_pow_right (by omega) h
  have h2 : b * 10 ^ j ≤ 1073741824 * 10 ^ 6 := Nat.mul_le_mul hb h1
  omega
/-- What Pick tells. -/
def RetPk (vt : List Tab) (w : World) (e : Ending) (w' : World) : Prop :=
  (∃ lv ai ni ci bt, e = .returned (.tuple #[.agg #[.int .i64 lv, .slice ai ni ci, .bool bt], .bool false]) ∧ Below w.heap.size w w') ∨
  (∃ (k : Nat) (l : List Tab) (ai : Option Addr) (ni ci : Nat) (bt : Bool), Ca.Sel vt l k ∧ e = .returned (.tuple #[.agg #[.int .i64 k, .slice ai ni ci, .bool bt], .bool true]) ∧ AccZ w' w.heap.size ai ni ci ((Tab.all k l vt).map Tab.file) ∧ Below w.heap.size w w')
set_option maxHeartbeats 8000000 in
theorem pick_any (a : Option Addr) (n c : Nat) (vt : List Tab) (sq nx wl : Int) (z b t : Int) (w : World) (h : Ts w a n c vt) (hn : n ≤ 1000) (hok : Cp.shOk z b t) (hsz : ∀ u ∈ vt, 0 ≤ u.size ∧ u.size ≤ 1099511627776) :
    Calls Try.prog 11 #[vv a n c sq nx wl, shv z b t] w (RetPk vt w) := by
  have HE := Lib.hid h
  have HZ := Lib.hid hsz
  have HOK := Lib.hid hok
  have HAL : Hid (∀ k : Int, (Tab.at k vt).length ≤ n) := Lib.hid fun k => by
    unfold Tab.at
    have h1 := List.length_filter_le (fun t : Tab => t.level == k) vt
    rw [h.1] at h1
    exact h1
  have hb1 := hok.2.2.1
  have hb2 := hok.2.2.2.1
  obtain ⟨B, rfl⟩ : ∃ B : Nat, b = (B : Int) := ⟨b.toNat, by omega⟩
  have hz1 := hok.1
  clear h hsz hok
  obtain ⟨wb, hwb⟩ : ∃ wb, (w.alloc (.cells #[.slice a n c, .int .u64 sq, .int .i64 nx, .int .i64 wl] 31)).alloc (.cells #[.int .i64 z, .int .i64 B, .int .i64 t] 24) = wb := ⟨_, rfl⟩
  have hzb : wb.heap.size = w.heap.size + 1 + 1 := by rw [← hwb]; simp
  have hbb : Below w.heap.size w wb := by rw [← hwb]; exact two_boxes _ _ _
  have hvb : wb.heap[w.heap.size]? = some (.cells #[.slice a n c, .int .u64 sq, .int .i64 nx, .int .i64 wl] 31 (0, 0)) := by
    rw [← hwb]; exact (Below.heap_alloc _ _ _ (by simp)).trans (heap_alloc_new w _)
  have hsb : wb.heap[w.heap.size + 1]? = some (.cells #[.int .i64 z, .int .i64 B, .int .i64 t] 24 (0, 0)) := by
    rw [← hwb]
    have := heap_alloc_new (w.alloc (.cells #[.slice a n c, .int .u64 sq, .int .i64 nx, .int .i64 wl] 31)) (.cells #[.int .i64 z, .int .i64 B, .int .i64 t] 24)
    rwa [World.size_alloc] at this
  have hj0 : JBox (wb.alloc (.cells #[.int .i64 0, .slice none 0 0, .bool false] 48)) wb.heap.size 0 none 0 0 false := JBox.new _ _ _ _ _ _
  obtain ⟨w0, hw0⟩ : ∃ w0, wb.alloc (.cells #[.int .i64 0, .slice none 0 0, .bool false] 48) = w0 := ⟨_, rfl⟩
  have hb0 : Below wb.heap.size wb w0 := by rw [← hw0]; exact below_alloc1 _ _
  rw [hw0] at hj0
  have hv0 := (hb0.block w.heap.size (by omega)).trans hvb
  have hs0 := (hb0.block (w.heap.size + 1) (by omega)).trans hsb
  have HB0 : Hid (Below w.heap.size w w0) := Lib.hid (hbb.trans (hb0.mono hbb.size))
  have HJ0 := Lib.hid hj0
  have HSZ : Hid (wb.heap.size = w.heap.size + 1 + 1 ∧ wb.heap.size < w0.heap.size) := Lib.hid ⟨hzb, hj0.lt⟩
  have v0 := cell_of_row _ _ 0 _ _ _ hv0
  have v1 := cell_of_row _ _ 1 _ _ _ hv0
  have v2 := cell_of_row _ _ 2 _ _ _ hv0
  have v3 := cell_of_row _ _ 3 _ _ _ hv0
  have s0 := cell_of_row _ _ 0 _ _ _ hs0
  have s1 := cell_of_row _ _ 1 _ _ _ hs0
  have s2 := cell_of_row _ _ 2 _ _ _ hs0
  simp at v0 v1 v2 v3 s0 s1 s2
  clear hvb hsb hj0 hv0 hs0 hb0 hbb hzb
  unfold vv shv
  go_enter Try.func11, Try.ntmps11
  go_upto_region 1 with fail
  have VS := Lib.hid (fun (W : World) (h : Below w0.heap.size w0 W) => And.intro (cell_later h v0) (And.intro (cell_later h v1) (And.intro (cell_later h v2) (And.intro (cell_later h v3) (And.intro (cell_later h s0) (And.intro (cell_later h s1) (cell_later h s2)))))))
  clear hw0 hwb
  refine wp_scope_straight ?_
  have hck := check_yes z B t w0 HOK.out
  unfold shv at hck
  go_wp2_with fail
  refine hck.mono ?_
  rintro e w1 ⟨rfl, hb1'⟩
  clear hck v0 v1 v2 v3 s0 s1 s2
  obtain ⟨v0, v1, v2, v3, s0, s1, s2⟩ := VS.out w1 hb1'
  have HB1 := Lib.hid hb1'
  clear hb1'
  go_wp2_with fail
  have hlv := level_any a n c vt sq nx wl 0 w1 (HE.out.below (HB0.out.trans (HB1.out.mono HB0.out.size))) (by omega)
  unfold vv at hlv
  refine hlv.mono ?_
  clear hlv
  rintro e w2 ⟨a2, n2, c2, rfl, h2, hz2, hb2'⟩
  have hn2 : n2 ≤ n := by rw [← h2.1]; exact HAL.out 0
  have hb12 := HB1.out.trans (hb2'.mono HB1.out.size)
  clear v0 v1 v2 v3 s0 s1 s2
  obtain ⟨v0, v1, v2, v3, s0, s1, s2⟩ := VS.out w2 hb12
  have HB2 := Lib.hid hb12
  have H2 := Lib.hid h2.ts
  clear hb12 hb2' h2 hz2
  have HBW2 := Lib.hid (HB0.out.trans (HB2.out.mono HB0.out.size))
  by_cases hge : z ≤ (n2 : Int)
  · have t1 : decide (z ≤ (n2 : Int)) = true := decide_eq_true hge
    have hn20 : 0 < n2 := by omega
    have HSEL : Hid (Ca.Sel vt (Tab.at 0 vt) 0) := Lib.hid ⟨by omega, fun e => by have := H2.out.1; rw [show (Tab.at (0 : Int) vt) = [] from e] at this; simp at this; omega, .inl ⟨rfl, rfl⟩⟩
    clear hge
    go_wp2_with fail
    have hjb := job_any a a2 n c n2 c2 vt (Tab.at 0 vt) sq nx wl 0 w2 (HE.out.below HBW2.out) H2.out hn20 (by omega) (by omega) (by omega) (over_any a n c vt sq nx wl w2 (HE.out.below HBW2.out) (by omega))
    unfold vv at hjb
    refine hjb.mono ?_
    clear hjb
    rintro e w3 ⟨ai, ni, ci, rfl, hz3, hb3⟩
    generalize Tab.botTo vt 0 (Tab.lo (Tab.all 0 (Tab.at 0 vt) vt)) (Tab.hi (Tab.all 0 (Tab.at 0 vt) vt)) 7 = bt at *
    have hb13 := HB2.out.trans (hb3.mono HB2.out.size)
    have HR : Hid (JBox w3 wb.heap.size 0 none 0 0 false) := Lib.hid (HJ0.out.below hb13 HSZ.out.2)
    obtain ⟨r0, r1, r2, rf⟩ := HR.out.cells
    have hs0 := (HR.out.set 0 (.int .i64 0) rfl)
    have hs1 := (hs0.set 1 (.slice ai ni ci) rfl)
    have hs2 := (hs1.set 2 (.bool bt) rfl)
    obtain ⟨q0, q1, q2, qf⟩ := hs2.cells
    have HQ := Lib.hid (And.intro q0 (And.intro q1 q2))
    have h3n : w.heap.size < w2.heap.size := by have := HSZ.out; have := HB2.out.size; omega
    have HNEW := Lib.hid ((((hz3.setLow (b := wb.heap.size) (j := 0) (by have := HSZ.out; have := HB2.out.size; omega) (.int .i64 0)).setLow (b := wb.heap.size) (j := 1) (by have := HSZ.out; have := HB2.out.size; omega) (.slice ai ni ci)).setLow (b := wb.heap.size) (j := 2) (by have := HSZ.out; have := HB2.out.size; omega) (.bool bt)).mono (by omega : w.heap.size ≤ w2.heap.size))
    have HBE := Lib.hid ((((HB0.out.trans (hb13.mono HB0.out.size)).setCell (p := ⟨wb.heap.size, 0, none⟩) (by show w.heap.size ≤ wb.heap.size; have := HSZ.out; omega) (.int .i64 0)).setCell (p := ⟨wb.heap.size, 1, none⟩) (by show w.heap.size ≤ wb.heap.size; have := HSZ.out; omega) (.slice ai ni ci)).setCell (p := ⟨wb.heap.size, 2, none⟩) (by show w.heap.size ≤ wb.heap.size; have := HSZ.out; omega) (.bool bt))
    clear hs0 hs1 hs2 q0 q1 q2 qf hz3 hb3 hb13 v0 v1 v2 v3 s0 s1 s2 h3n
    go_wp2
    rw [Exit.noGoto_ret]
    obtain ⟨q0, q1, q2⟩ := HQ.out
    exact bodyPost_ret (v := .tuple #[.agg #[.int .i64 0, .slice ai ni ci, .bool bt], .bool true]) (by simp [results, Try.results11, go_sem, q0, q1, q2]) rfl (.inr ⟨0, Tab.at 0 vt, ai, ni, ci, bt, HSEL.out, rfl, HNEW.out, HBE.out⟩)
  have t1 : decide (z ≤ (n2 : Int)) = false := decide_eq_false hge
  clear hge
  go_wp2_with fail
  try go_step3
  try go_wp2_with fail
  go_loopw [7, 8] (fun mv jv wr => ∃ j m : Nat, 1 ≤ j ∧ j ≤ 6 ∧ jv = .int .i64 j ∧ 1 ≤ m ∧ m = B * 10 ^ (j - 1) ∧ mv = .int .i64 m ∧ Hid (Below w0.heap.size w0 wr)) (fun _ jv _ => 6 - (intOf jv).toNat)
  case atStart => exact ⟨1, B, Nat.le_refl _, by omega, rfl, by omega, by simp, rfl, HB2⟩
  case round =>
    obtain ⟨j, m, hj1, hj6, rfl, hm1, hm, rfl, hbl⟩ := hrel
    clear v0 v1 v2 v3 s0 s1 s2
    have hmb : m ≤ 1073741824000000 := by rw [hm]; exact ten_pow B (j - 1) (by omega) (by omega)
    have HM2 : Hid (m * 10 = B * 10 ^ (j + 1 - 1)) := Lib.hid (by rw [hm, show j + 1 - 1 = (j - 1) + 1 by omega, Nat.pow_succ, Nat.mul_assoc])
    clear hm
    obtain ⟨v0, v1, v2, v3, s0, s1, s2⟩ := VS.out wr hbl.out
    by_cases hj : j ≤ 5
    case neg =>
      obtain rfl : j = 6 := by omega
      have HR : Hid (JBox wr wb.heap.size 0 none 0 0 false) := Lib.hid (HJ0.out.below hbl.out HSZ.out.2)
      obtain ⟨r0, r1, r2, rf⟩ := HR.out.cells
      have hs0 := (HR.out.set 0 (.int .i64 0) rfl)
      have hs1 := (hs0.set 1 (.slice none 0 0) rfl)
      have hs2 := (hs1.set 2 (.bool false) rfl)
      obtain ⟨q0, q1, q2, qf⟩ := hs2.cells
      have HQ := Lib.hid (And.intro q0 (And.intro q1 q2))
      have HBE := Lib.hid ((((HB0.out.trans (hbl.out.mono HB0.out.size)).setCell (p := ⟨wb.heap.size, 0, none⟩) (by show w.heap.size ≤ wb.heap.size; have := HSZ.out; omega) (.int .i64 0)).setCell (p := ⟨wb.heap.size, 1, none⟩) (by show w.heap.size ≤ wb.heap.size; have := HSZ.out; omega) (.slice none 0 0)).setCell (p := ⟨wb.heap.size, 2, none⟩) (by show w.heap.size ≤ wb.heap.size; have := HSZ.out; omega) (.bool false))
      clear hs0 hs1 hs2 q0 q1 q2 qf v0 v1 v2 v3 s0 s1 s2
      go_wp2
      rw [Exit.noGoto_ret]
      obtain ⟨q0, q1, q2⟩ := HQ.out
      exact bodyPost_ret (v := .tuple #[.agg #[.int .i64 0, .slice none 0 0, .bool false], .bool false]) (by simp [results, Try.results11, go_sem, q0, q1, q2]) rfl (.inl ⟨0, none, 0, 0, false, rfl, HBE.out⟩)
    go_wp2_with fail
    have hlv := level_any a n c vt sq nx wl (j : Int) wr (HE.out.below (HB0.out.trans (hbl.out.mono HB0.out.size))) (by omega)
    unfold vv at hlv
    refine hlv.mono ?_
    clear hlv
    rintro e w5 ⟨a5, n5, c5, rfl, h5, _, hb5⟩
    have hn5 : n5 ≤ n := by rw [← h5.1]; exact HAL.out _
    have HB5 := Lib.hid (hbl.out.trans (hb5.mono hbl.out.size))
    have H5 := Lib.hid h5
    have HSL : Hid (∀ i, i < n5 → nth (Tab.at (j : Int) vt) i ∈ Tab.at (j : Int) vt) := Lib.hid fun i hi => by rw [nth_eq _ (by rw [H5.out.1]; exact hi)]; exact List.getElem_mem _
    have HL5 : Hid ((Tab.at (j : Int) vt).length = n5) := Lib.hid H5.out.1
    have HSS : Hid (∀ i, i < n5 → 0 ≤ (nth (Tab.at (j : Int) vt) i).size ∧ (nth (Tab.at (j : Int) vt) i).size ≤ 1099511627776) := Lib.hid fun i hi => HZ.out _ (Ca.at_mem.1 (HSL.out i hi)).1
    clear h5 hb5 v0 v1 v2 v3 s0 s1 s2 hbl
    have hle5 := H5.out.ts.le
    go_wp2_with fail
    go_loopw [10, 11, 39] (fun x y iv wr => ∃ (i s bs : Nat), i ≤ n5 ∧ (n5 = 0 → s = 0) ∧ (0 < n5 → bs < n5) ∧ s ≤ m + 1 ∧ x = .int .i64 s ∧ y = .int .i64 bs ∧ iv = .int .i64 i ∧ Hid (Below w5.heap.size w5 wr)) (fun _ _ iv _ => n5 - (intOf iv).toNat)
    case atStart => exact ⟨0, 0, 0, by omega, fun _ => rfl, fun h => h, by omega, rfl, rfl, rfl, Lib.hid (Below.refl _ _)⟩
    case round =>
      obtain ⟨i, s, bs, hi, hs0', hbs, hsm, rfl, rfl, rfl, hbr⟩ := hrel
      by_cases hin : i < n5
      · have t5 : decide ((i : Int) < (n5 : Int)) = true := decide_eq_true (by omega)
        have t5' : decide (i < n5) = true := decide_eq_true hin
        have hbs1 := hbs (by omega)
        obtain ⟨bt5, ot5, rfl, hti⟩ := (H5.out.ts.below hbr.out).get hin
        obtain ⟨bt6, ot6, e6, htb⟩ := (H5.out.ts.below hbr.out).get hbs1
        cases e6
        obtain ⟨hs1, hs2⟩ := HSS.out i hin
        obtain ⟨hs3, hs4⟩ := HSS.out bs hbs1
        have c0 := hti.file
        have c1 := hti.level
        have c2 := hti.first
        have c3 := hti.last
        have c4 := hti.size
        have d4 := htb.size
        have hb6 := below_alloc1 wr (.cells #[.int .i64 (nth (Tab.at (j : Int) vt) i).file, .int .i64 (nth (Tab.at (j : Int) vt) i).level, .string (bstr (nth (Tab.at (j : Int) vt) i).first), .string (bstr (nth (Tab.at (j : Int) vt) i).last), .int .i64 (nth (Tab.at (j : Int) vt) i).size] 39)
        have hg6 := tab_box wr (nth (Tab.at (j : Int) vt) i)
        have d4' := cell_later hb6 d4
        clear hti htb d4
        obtain ⟨z1, hz1e⟩ : ∃ z1 : Nat, (nth (Tab.at (j : Int) vt) i).size = (z1 : Int) := ⟨(nth (Tab.at (j : Int) vt) i).size.toNat, by omega⟩
        obtain ⟨z2, hz2e⟩ : ∃ z2 : Nat, (nth (Tab.at (j : Int) vt) bs).size = (z2 : Int) := ⟨(nth (Tab.at (j : Int) vt) bs).size.toNat, by omega⟩
        have c6 := hg6.size
        rw [hz1e] at c4 c6 hb6 hs2 d4'
        rw [hz2e] at d4'
        generalize (nth (Tab.at (j : Int) vt) i).file = x0 at *
        generalize (nth (Tab.at (j : Int) vt) i).level = x1 at *
        generalize (nth (Tab.at (j : Int) vt) i).first = x2 at *
        generalize (nth (Tab.at (j : Int) vt) i).last = x3 at *
        have hz1b : z1 ≤ 1099511627776 := by omega
        go_upto_region 16 with fail
        have c6' := c6
        rw [Nat.zero_add] at c6'
        clear c0 c1 c2 c3 c4 hg6 c6
        generalize wr.alloc (.cells #[.int .i64 x0, .int .i64 x1, .string (bstr x2), .string (bstr x3), .int .i64 z1] 39) = w6 at *
        have HB6 := Lib.hid (hbr.out.trans (hb6.mono hbr.out.size))
        generalize wr.heap.size = g6 at *
        obtain ⟨mn, hmn⟩ : ∃ mn, mn = min z1 (m + 1 - s) := ⟨_, rfl⟩
        have dm : ∀ W, (Builtin.min_ #[3, 3] 3 #[.int .i64 (z1 : Int), .int .i64 ((m : Int) + 1 - (s : Int))]).run Try.prog W = .ok (.int .i64 ((mn : Nat) : Int)) W := fun W => by
          by_cases hh : (m : Int) + 1 - (s : Int) < (z1 : Int)
          · have e : ((mn : Nat) : Int) = (m : Int) + 1 - (s : Int) := by omega
            simp [Builtin.min_, Builtin.min2, e]
            omega
          · have e : mn = z1 := by omega
            simp [Builtin.min_, Builtin.min2, e]
            omega
        have hmn2 : s + mn ≤ m + 1 := by omega
        clear hmn hb6
        go_upto_region 17 with fail
        have p6 := BW.cell c6'
        have p7 := BW.cell d4'
        clear dm
        by_cases hgt : (z2 : Int) < (z1 : Int)
        · have t6 : decide ((z2 : Int) < (z1 : Int)) = true := decide_eq_true hgt
          have t6' : decide (z2 < z1) = true := decide_eq_true (by omega)
          clear hgt
          refine wp_region_class (w0 := w6) (by kernel_rfl) (by kernel_rfl) (Below.refl _ _) ?_
          repeat (first | go_big_quiet_step (fail))
          refine wpQuiet_nil ?_
          intro w7 hb7; replace hb7 := BW.of hb7
          have HB7 := Lib.hid (HB6.out.trans (hb7.mono HB6.out.size))
          clear hb7 p6 p7 c6' d4'
          go_wp2
          go_roundw
          case rel => exact ⟨i + 1, s + mn, i, by omega, by omega, fun _ => hin, hmn2, by go_num, rfl, by go_num, HB7⟩
          case measure => simp [intOf]; omega
        · have t6 : decide ((z2 : Int) < (z1 : Int)) = false := decide_eq_false hgt
          have t6' : decide (z2 < z1) = false := decide_eq_false (by omega)
          clear hgt
          refine wp_region_class (w0 := w6) (by kernel_rfl) (by kernel_rfl) (Below.refl _ _) ?_
          repeat (first | go_big_quiet_step (fail))
          refine wpQuiet_nil ?_
          intro w7 hb7; replace hb7 := BW.of hb7
          have HB7 := Lib.hid (HB6.out.trans (hb7.mono HB6.out.size))
          clear hb7 p6 p7 c6' d4'
          go_wp2
          go_roundw
          case rel => exact ⟨i + 1, s + mn, bs, by omega, by omega, hbs, hmn2, by go_num, rfl, by go_num, HB7⟩
          case measure => simp [intOf]; omega
      · obtain rfl : i = n5 := by omega
        have t5 : decide ((i : Int) < (i : Int)) = false := decide_eq_false (by omega)
        have t5' : decide (i < i) = false := decide_eq_false (by omega)
        generalize hin5 : i = n5 at *
        clear hin5 hin hi
        by_cases hsl : s ≤ m
        · have t7 : decide ((s : Int) ≤ (m : Int)) = true := decide_eq_true (by omega)
          have t7' : decide (s ≤ m) = true := decide_eq_true hsl
          have HB8 := Lib.hid (HB5.out.trans (hbr.out.mono HB5.out.size))
          clear hsl
          go_wp2
          go_roundw
          case rel => exact ⟨j + 1, m * 10, by omega, by omega, by go_num, by omega, HM2.out, by go_num, HB8⟩
          case measure => simp [intOf]; omega
        · have t7 : decide ((s : Int) ≤ (m : Int)) = false := decide_eq_false (by omega)
          have t7' : decide (s ≤ m) = false := decide_eq_false hsl
          have hn50 : 0 < n5 := by
            rcases Nat.eq_zero_or_pos n5 with h0 | h0
            · have := hs0' h0; omega
            · exact h0
          have hbs1 := hbs hn50
          have HB8 := Lib.hid (HB5.out.trans (hbr.out.mono HB5.out.size))
          have HT8 := Lib.hid (H5.out.ts.below hbr.out)
          obtain ⟨gb, go_, rfl, htb⟩ := HT8.out.get hbs1
          have HTB := Lib.hid (ts_oneAt htb)
          obtain ⟨i0, hi0, hz0, hz1', hz2'⟩ := info_parts infoT
          have hcap : n5 ≤ c5 := H5.out.ts.2.1
          have hsl3 : ∀ W, (Instr.slice 29 (.slice (some ⟨gb, go_, none⟩) n5 c5) (some (.int .i64 (bs : Int))) (some (.int .i64 ((bs : Int) + 1))) (some (.int .i64 ((bs : Int) + 1)))).run Try.prog W = .ok (.slice (some ⟨gb, go_ + bs * 5, none⟩) 1 1) W := fun W => by
            have hh : (bs : Int) + 1 = ((bs + 1 : Nat) : Int) := by omega
            have hcc : bs + 1 ≤ c5 := by omega
            have h9 : (Instr.slice 29 (.slice (some ⟨gb, go_, none⟩) n5 c5) (some (.int .i64 (bs : Int))) (some (.int .i64 ((bs : Int) + 1))) (some (.int .i64 ((bs : Int) + 1)))).run Try.prog W = .ok (.slice (subAn (some ⟨gb, go_, none⟩) (bs + 1) bs 5) (bs + 1 - bs) (bs + 1 - bs)) W :=
              run_slice_lhm (lo' := bs) (hi' := bs + 1) (mx' := bs + 1) Try.underlying29 hi0 hz1' _ n5 c5 rfl hh hh (Nat.le_succ _) (Nat.le_refl _) hcc W
            rw [show bs + 1 - bs = 1 by omega] at h9
            unfold subAn at h9
            rw [if_neg (by omega)] at h9
            simpa [Addr.add_lit] using h9
          have HSEL : Hid (Ca.Sel vt [nth (Tab.at (j : Int) vt) bs] j) := Lib.hid ⟨hj, by simp, .inr ⟨hj1, _, HSL.out bs hbs1, rfl⟩⟩
          have HBW8 := Lib.hid (HB0.out.trans (HB8.out.mono HB0.out.size))
          have HJOB := Lib.hid fun W (k : Below wr.heap.size wr W) => job_any a (some ⟨gb, go_ + bs * 5, none⟩) n c 1 1 vt [nth (Tab.at (j : Int) vt) bs] sq nx wl j W (HE.out.below (HBW8.out.trans (k.mono HBW8.out.size))) (HTB.out.below k) (by omega) hj (by omega) (by omega) (over_any a n c vt sq nx wl W (HE.out.below (HBW8.out.trans (k.mono HBW8.out.size))) (by omega))
          unfold vv at HJOB
          clear htb hi0 hz0 hz1' hz2' hsl hs0'
          have HVV := Lib.hid (VS.out wr HB8.out)
          have hw1 : IntKind.i64.wrap ((bs : Int) + 1) = (bs : Int) + 1 := by rw [IntKind.wrap_i64]; omega
          go_upto_region 22 with fail
          clear t5 t5' t7 t7'
          refine wp_region_steps [10, 11] 10 10 (by kernel_rfl) (by kernel_rfl) rfl (fun W' => ∃ V : BW wr, W' = V.w) ?_
          have HBD : Hid (Below wr.heap.size wr wr.drew) := Lib.hid (Below.refl _ _).drew
          generalize wr.drew = wD at *
          refine anyT_pull [0, 1, 2, 3, 4, 5, 6, 7, 8] 10 1 (by intro c a d v w h; cases d <;> exact h) (by kernel_rfl) ⟨⟨_, HBD.out⟩, rfl⟩ ?_
          simp only [opsAt, List.filterMap_cons, List.filterMap_nil, List.getElem?_cons_zero, List.getElem?_cons_succ]
          iterate 9
            apply held_step
            · kernel_rfl
            · rintro _ ⟨V, rfl⟩
              obtain ⟨v0, v1, v2, v3, s0, s1, s2⟩ := HVV.out
              have q0 := cell_later V.b v0
              have q1 := cell_later V.b v1
              have q2 := cell_later V.b v2
              have q3 := cell_later V.b v3
              go_simp
              rfl
          refine held_nil ?_
          apply anyT_one 9
          · rfl
          · kernel_rfl
          · kernel_rfl
          intro K' hK
          go_simp
          refine (HJOB.out wD HBD.out).mono ?_
          rintro e w9 ⟨ai, ni, ci, rfl, hz9, hb9⟩
          generalize Tab.botTo vt j (Tab.lo (Tab.all j [nth (Tab.at (j : Int) vt) bs] vt)) (Tab.hi (Tab.all j [nth (Tab.at (j : Int) vt) bs] vt)) 7 = bt at *
          have HB9 := Lib.hid (HBD.out.trans (hb9.mono HBD.out.size))
          have HZ9 := Lib.hid (hz9.mono HBD.out.size)
          refine hK _ _ ⟨⟨_, HB9.out⟩, rfl⟩ ?_
          clear hK hz9 hb9 HJOB
          refine anyT_done (by kernel_rfl) ?_
          simp only [opsAt, List.filterMap_cons, List.filterMap_nil, List.getElem?_cons_zero, List.getElem?_cons_succ]
          have hb19 := HB8.out.trans (HB9.out.mono HB8.out.size)
          have HR : Hid (JBox w9 wb.heap.size 0 none 0 0 false) := Lib.hid (HJ0.out.below hb19 HSZ.out.2)
          obtain ⟨r0, r1, r2, rf⟩ := HR.out.cells
          have hs0 := (HR.out.set 0 (.int .i64 (j : Int)) rfl)
          have hs1 := (hs0.set 1 (.slice ai ni ci) rfl)
          have hs2 := (hs1.set 2 (.bool bt) rfl)
          obtain ⟨q0, q1, q2, qf⟩ := hs2.cells
          have HQ := Lib.hid (And.intro q0 (And.intro q1 q2))
          have h3n : w.heap.size < wr.heap.size := by have := HSZ.out; have := HB8.out.size; omega
          have HNEW := Lib.hid ((((HZ9.out.setLow (b := wb.heap.size) (j := 0) (by have := HSZ.out; have := HB8.out.size; omega) (.int .i64 (j : Int))).setLow (b := wb.heap.size) (j := 1) (by have := HSZ.out; have := HB8.out.size; omega) (.slice ai ni ci)).setLow (b := wb.heap.size) (j := 2) (by have := HSZ.out; have := HB8.out.size; omega) (.bool bt)).mono (by omega : w.heap.size ≤ wr.heap.size))
          have HBE := Lib.hid ((((HB0.out.trans (hb19.mono HB0.out.size)).setCell (p := ⟨wb.heap.size, 0, none⟩) (by show w.heap.size ≤ wb.heap.size; have := HSZ.out; omega) (.int .i64 (j : Int))).setCell (p := ⟨wb.heap.size, 1, none⟩) (by show w.heap.size ≤ wb.heap.size; have := HSZ.out; omega) (.slice ai ni ci)).setCell (p := ⟨wb.heap.size, 2, none⟩) (by show w.heap.size ≤ wb.heap.size; have := HSZ.out; omega) (.bool bt))
          clear hs0 hs1 hs2 q0 q1 q2 qf hb19 h3n
          go_wp2
          rw [Exit.noGoto_ret]
          obtain ⟨q0, q1, q2⟩ := HQ.out
          exact bodyPost_ret (v := .tuple #[.agg #[.int .i64 (j : Int), .slice ai ni ci, .bool bt], .bool true]) (by simp [results, Try.results11, go_sem, q0, q1, q2]) rfl (.inr ⟨j, [nth (Tab.at (j : Int) vt) bs], ai, ni, ci, bt, HSEL.out, rfl, HNEW.out, HBE.out⟩)
end Go.Proofs.Ytlipgaefflecaaa
