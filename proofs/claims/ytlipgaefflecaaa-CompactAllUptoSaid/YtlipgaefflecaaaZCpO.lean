/- compact.Over of a level that is empty, Pick on few tables; known. -/
import Derived.Test.YtlipgaefflecaaaZCpK
set_option linter.unusedVariables false
set_option linter.unusedSimpArgs false
set_option maxRecDepth 100000
set_option linter.unusedVariables false
set_option linter.unusedSimpArgs false
namespace Go.Proofs.Ytlipgaefflecaaa
open Go.RowKit

/-! compact.Over. -/
def Tab.off (x y : List UInt8) (t : Tab) : Bool := Ent.klt y t.first || Ent.klt t.last x
set_option maxHeartbeats 1000000 in
theorem over1_any (t : Tab) (bl bf : Nat) (x y : List UInt8) (w : World) (hl : w.cell? ⟨bl, 0, none⟩ = some (.string (bstr y))) (hf : w.cell? ⟨bf, 0, none⟩ = some (.string (bstr x))) :
    Calls Try.prog 41 #[tval t, .pointer (some ⟨bl, 0, none⟩), .pointer (some ⟨bf, 0, none⟩)] w fun e w' => e = .returned (.bool (Tab.off x y t)) ∧ Below w.heap.size w w' := by
  have h := tab_box w t
  have hb := below_alloc1 w (.cells #[.int .i64 t.file, .int .i64 t.level, .string (bstr t.first), .string (bstr t.last), .int .i64 t.size] 39)
  have c1 := h.first
  have c2 := h.last
  have hl2 := cell_later hb hl
  have hf2 := cell_later hb hf
  clear hl hf h
  unfold tval Tab.off
  have go : ∀ (g1 g2 : Bool), Op.bytesLess (bstr t.first).toList (bstr y).toList = g1 → decide (t.first = y) = g2 → (!g1 && !g2) = Ent.klt y t.first →
      Calls Try.prog 41 #[.agg #[.int .i64 t.file, .int .i64 t.level, .string (bstr t.first), .string (bstr t.last), .int .i64 t.size], .pointer (some ⟨bl, 0, none⟩), .pointer (some ⟨bf, 0, none⟩)] w fun e w' => e = .returned (.bool (Ent.klt y t.first || Ent.klt t.last x)) ∧ Below w.heap.size w w' := by
    intro g1 g2 u1 u2 hg
    have HG : Hid ((Ent.klt y t.first || Ent.klt t.last x) = ((!g1 && !g2) || Op.bytesLess (bstr t.last).toList (bstr x).toList)) := Lib.hid (by rw [hg, bstr_list, bstr_list])
    rw [HG.out]
    clear hg
    cases hq : Op.bytesLess (bstr t.last).toList (bstr x).toList <;> cases g1 <;> cases g2
    all_goals
      go_enter Try.func41, Try.ntmps41
      go_wp2
      go_ret
      exact ⟨rfl, hb⟩
  rcases Ent.klt_total y t.first with h | h | h
  · refine go false false ?_ (decide_eq_false (Ne.symm (Ent.klt_ne h))) h.symm
    rw [bstr_list, bstr_list]; exact Ent.klt_asymm h
  · refine go false true ?_ (decide_eq_true h.symm) ?_
    · rw [bstr_list, bstr_list, h]; exact Ent.klt_irrefl _
    · rw [h]; exact (Ent.klt_irrefl _).symm
  · refine go true false ?_ (decide_eq_false (Ent.klt_ne h)) (Ent.klt_asymm h).symm
    rw [bstr_list, bstr_list]; exact h
theorem idxT_nil (p : Tab → Bool) : idxT p [] = -1 := rfl
set_option maxHeartbeats 1000000 in
theorem delnil_any (f : Nat) (cap : Array Value) (p : Tab → Bool) (w : World) (eg : EntersT f) (hp : PredT w f cap p) :
    Calls Try.prog 40 #[.slice none 0 0, .func (.func f) #[] cap] w fun e w' => e = .returned (.slice none 0 0) ∧ Below w.heap.size w w' := by
  have HI := Lib.hid (idxt_any f cap none 0 0 [] p w eg (Ts.nil w) hp)
  clear hp
  go_enter Try.func40, Try.ntmps40
  go_wp2_with fail
  refine HI.out.mono ?_
  rintro e w1 ⟨rfl, hb1⟩
  rw [idxT_nil]
  have HB := Lib.hid hb1
  clear hb1
  go_wp2
  go_ret
  exact ⟨rfl, HB.out⟩
theorem over_of_at {k : Int} {x y : List UInt8} {vt : List Tab} (h : Tab.at k vt = []) : Tab.over k x y vt = [] := by unfold Tab.over; rw [h]; rfl
set_option maxHeartbeats 2000000 in
theorem over_none (a : Option Addr) (n c : Nat) (vt : List Tab) (sq nx wl k : Int) (x y : List UInt8) (w : World) (h : Ts w a n c vt) (hn : n ≤ 1000000) (hk : Tab.at k vt = []) :
    Calls Try.prog 32 #[vv a n c sq nx wl, .int .i64 k, .string (bstr x), .string (bstr y)] w (RetTs w.heap.size (Tab.over k x y vt) w) := by
  have HE := Lib.hid h
  have HK := Lib.hid hk
  have HO := Lib.hid (over_of_at (x := x) (y := y) hk)
  have eg := enters_of Try.func41 (by kernel_rfl) rfl
  clear h hk
  unfold vv
  have hb3 : Below w.heap.size w (((w.alloc (.cells #[.slice a n c, .int .u64 sq, .int .i64 nx, .int .i64 wl] 31)).alloc (.cells #[.string (bstr x)] 9)).alloc (.cells #[.string (bstr y)] 9)) := (two_boxes _ _ _).alloc (by simp; omega) _
  have hcx : (((w.alloc (.cells #[.slice a n c, .int .u64 sq, .int .i64 nx, .int .i64 wl] 31)).alloc (.cells #[.string (bstr x)] 9)).alloc (.cells #[.string (bstr y)] 9)).cell? ⟨w.heap.size + 1, 0, none⟩ = some (.string (bstr x)) := by
    have h1 := heap_alloc_new (w.alloc (.cells #[.slice a n c, .int .u64 sq, .int .i64 nx, .int .i64 wl] 31)) (.cells #[.string (bstr x)] 9)
    rw [World.size_alloc] at h1
    have h2 := (Below.heap_alloc ((w.alloc (.cells #[.slice a n c, .int .u64 sq, .int .i64 nx, .int .i64 wl] 31)).alloc (.cells #[.string (bstr x)] 9)) (.cells #[.string (bstr y)] 9) (w.heap.size + 1) (by simp)).trans h1
    rw [cell_of_row _ _ _ _ _ _ h2]; rfl
  have hcy : (((w.alloc (.cells #[.slice a n c, .int .u64 sq, .int .i64 nx, .int .i64 wl] 31)).alloc (.cells #[.string (bstr x)] 9)).alloc (.cells #[.string (bstr y)] 9)).cell? ⟨w.heap.size + 1 + 1, 0, none⟩ = some (.string (bstr y)) := by
    have h1 := heap_alloc_new ((w.alloc (.cells #[.slice a n c, .int .u64 sq, .int .i64 nx, .int .i64 wl] 31)).alloc (.cells #[.string (bstr x)] 9)) (.cells #[.string (bstr y)] 9)
    rw [World.size_alloc, World.size_alloc] at h1
    rw [cell_of_row _ _ _ _ _ _ h1]; rfl
  have HB3 := Lib.hid hb3
  have HCX := Lib.hid hcx
  have HCY := Lib.hid hcy
  clear hb3 hcx hcy
  go_enter Try.func32, Try.ntmps32
  go_wp2_with fail
  have hlv := level_any a n c vt sq nx wl k _ (HE.out.below HB3.out) hn
  unfold vv at hlv
  rw [HK.out] at hlv
  refine hlv.mono ?_
  clear hlv
  rintro e w1 ⟨a1, n1, c1, rfl, h1, hz1, hb1⟩
  obtain rfl : n1 = 0 := by rw [← h1.1]; rfl
  obtain ⟨rfl, rfl⟩ := hz1 rfl
  have HB1 := Lib.hid (HB3.out.trans (hb1.mono HB3.out.size))
  have HX1 := Lib.hid (cell_later hb1 HCX.out)
  have HY1 := Lib.hid (cell_later hb1 HCY.out)
  clear h1 hz1 hb1
  go_wp2_with fail
  have hpd : PredT w1 41 #[.pointer (some ⟨w.heap.size + 1 + 1, 0, none⟩), .pointer (some ⟨w.heap.size + 1, 0, none⟩)] (Tab.off x y) := fun V m => over1_any m _ _ x y V.w (BW.cell HY1.out V) (BW.cell HX1.out V)
  have HD := Lib.hid (delnil_any 41 _ (Tab.off x y) w1 eg hpd)
  clear hpd
  refine HD.out.mono ?_
  rintro e w2 ⟨rfl, hb2⟩
  have HP : Hid (RetTs w.heap.size (Tab.over k x y vt) w (.returned (.slice none 0 0)) w2) := Lib.hid (by rw [HO.out]; exact ⟨_, _, _, rfl, AccT.nil _ _, fun _ => ⟨rfl, rfl⟩, HB1.out.trans (hb2.mono HB1.out.size)⟩)
  clear hb2
  go_wp2
  go_ret
  exact HP.out
/-! Pick. -/
def shv (z b t : Int) : Value := .agg #[.int .i64 z, .int .i64 b, .int .i64 t]
set_option maxHeartbeats 1000000 in
theorem check_few (z : Int) (hz : z = 2 ∨ z = 3) (w : World) : Calls Try.prog 5 #[shv z 10 10] w fun e w' => e = .returned (.int .i64 0) ∧ Below w.heap.size w w' := by
  have hb := (two_boxes w (.cells #[.int .i64 z, .int .i64 10, .int .i64 10] 24) (.cells #[.int .i64 1, .int .i64 1, .int .i64 1] 24)).alloc (by simp; omega) (.cells #[.int .i64 100, .int .i64 1073741824, .int .i64 67108864] 24)
  unfold shv
  rcases hz with rfl | rfl
  all_goals
    go_enter Try.func5, Try.ntmps5
    go_wp2
    go_ret
    exact ⟨rfl, hb⟩
/-- Tables of level 0 alone. -/
def Zero (vt : List Tab) : Prop := ∀ t ∈ vt, t.level = 0
theorem Zero.at0 {vt : List Tab} (h : Zero vt) : Tab.at 0 vt = vt := by
  unfold Tab.at
  rw [List.filter_eq_self]
  intro t ht
  rw [h t ht]; rfl
theorem Zero.at1 {vt : List Tab} (h : Zero vt) {k : Int} (hk : 1 ≤ k) : Tab.at k vt = [] := by
  unfold Tab.at
  rw [List.filter_eq_nil_iff]
  intro t ht
  rw [h t ht]; simp; omega
theorem Zero.overC {a : Option Addr} {n c : Nat} {vt : List Tab} {w : World} (hz : Zero vt) (h : Ts w a n c vt) (hn : n ≤ 1000000) (sq nx wl : Int) : OverC a n c vt sq nx wl w :=
  fun k x y W hk hW => (over_none a n c vt sq nx wl k x y W (h.below hW) hn (hz.at1 hk)).mono fun _ _ h => h.weak
theorem Zero.all {vt : List Tab} (h : Zero vt) : Tab.all 0 vt vt = vt := by
  unfold Tab.all
  rw [over_of_at (h.at1 (by decide)), List.append_nil]
theorem Zero.bot {vt : List Tab} (h : Zero vt) (x y : List UInt8) : Tab.botTo vt 0 x y 7 = true := by
  unfold Tab.botTo
  rw [List.all_eq_true]
  intro i hi
  by_cases e : i < 2
  · simp [e]
  · rw [over_of_at (h.at1 (by omega))]; simp
/-- A job that is told, with a flag. -/
def RetPick (files : List Int) (w : World) (e : Ending) (w' : World) : Prop :=
  ∃ ai ni ci, e = .returned (.tuple #[.agg #[.int .i64 0, .slice ai ni ci, .bool true], .bool true]) ∧ AccZ w' w.heap.size ai ni ci files ∧ Below w.heap.size w w'
set_option maxHeartbeats 4000000 in
theorem pick_yes (a : Option Addr) (c : Nat) (vt : List Tab) (w : World) (h : Ts w a 2 c vt) (hz : Zero vt) :
    Calls Try.prog 11 #[vv a 2 c 0 0 0, shv 2 10 10] w (RetPick (vt.map Tab.file) w) := by
  have HE := Lib.hid h
  have HZ := Lib.hid hz
  clear h hz
  obtain ⟨wb, hwb⟩ : ∃ wb, (w.alloc (.cells #[.slice a 2 c, .int .u64 0, .int .i64 0, .int .i64 0] 31)).alloc (.cells #[.int .i64 2, .int .i64 10, .int .i64 10] 24) = wb := ⟨_, rfl⟩
  have hzb : wb.heap.size = w.heap.size + 1 + 1 := by rw [← hwb]; simp
  have hbb : Below w.heap.size w wb := by rw [← hwb]; exact two_boxes _ _ _
  have hvb : wb.heap[w.heap.size]? = some (.cells #[.slice a 2 c, .int .u64 0, .int .i64 0, .int .i64 0] 31 (0, 0)) := by
    rw [← hwb]; exact (Below.heap_alloc _ _ _ (by simp)).trans (heap_alloc_new w _)
  have hsb : wb.heap[w.heap.size + 1]? = some (.cells #[.int .i64 2, .int .i64 10, .int .i64 10] 24 (0, 0)) := by
    rw [← hwb]
    have := heap_alloc_new (w.alloc (.cells #[.slice a 2 c, .int .u64 0, .int .i64 0, .int .i64 0] 31)) (.cells #[.int .i64 2, .int .i64 10, .int .i64 10] 24)
    rwa [World.size_alloc] at this
  have hj0 : JBox (wb.alloc (.cells #[.int .i64 0, .slice none 0 0, .bool false] 48)) wb.heap.size 0 none 0 0 false := JBox.new _ _ _ _ _ _
  obtain ⟨w0, hw0⟩ : ∃ w0, wb.alloc (.cells #[.int .i64 0, .slice none 0 0, .bool false] 48) = w0 := ⟨_, rfl⟩
  have hb0 : Below wb.heap.size wb w0 := by rw [← hw0]; exact below_alloc1 _ _
  rw [hw0] at hj0
  have hv0 := (hb0.block w.heap.size (by omega)).trans hvb
  have hs0 := (hb0.block (w.heap.size + 1) (by omega)).trans hsb
  have HB0 : Hid (Below w.heap.size w w0) := Lib.hid (hbb.trans (hb0.mono hbb.size))
  have HV0 := Lib.hid hv0
  have HS0 := Lib.hid hs0
  have HJ0 := Lib.hid hj0
  have HSZ : Hid (wb.heap.size = w.heap.size + 1 + 1 ∧ wb.heap.size < w0.heap.size) := Lib.hid ⟨hzb, hj0.lt⟩
  have v0 := cell_of_row _ _ 0 _ _ _ hv0
  have v1 := cell_of_row _ _ 1 _ _ _ hv0
  have v2 := cell_of_row _ _ 2 _ _ _ hv0
  have v3 := cell_of_row _ _ 3 _ _ _ hv0
  have s0 := cell_of_row _ _ 0 _ _ _ hs0
  have s1 := cell_of_row _ _ 1 _ _ _ hs0
  have s2 := cell_of_row _ _ 2 _ _ _ hs0
  simp at v0 v1 v2 v3 s0 s1 s2
  clear hvb hsb hj0 hv0 hs0 hb0 hbb hzb
  unfold vv shv
  go_enter Try.func11, Try.ntmps11
  go_upto_region 1 with fail
  have VS := Lib.hid (fun (W : World) (h : Below w0.heap.size w0 W) => And.intro (cell_later h v0) (And.intro (cell_later h v1) (And.intro (cell_later h v2) (And.intro (cell_later h v3) (And.intro (cell_later h s0) (And.intro (cell_later h s1) (cell_later h s2)))))))
  clear hw0 hwb
  refine wp_scope_straight ?_
  go_wp2_with fail
  refine (check_few 2 (.inl rfl) w0).mono ?_
  rintro e w1 ⟨rfl, hb1⟩
  obtain ⟨v0, v1, v2, v3, s0, s1, s2⟩ := VS.out w1 hb1
  have HB1 := Lib.hid hb1
  clear hb1
  go_wp2_with fail
  have hlv := level_any a 2 c vt 0 0 0 0 w1 (HE.out.below (HB0.out.trans (HB1.out.mono HB0.out.size))) (by omega)
  unfold vv at hlv
  rw [HZ.out.at0] at hlv
  refine hlv.mono ?_
  clear hlv
  rintro e w2 ⟨a2, n2, c2, rfl, h2, hz2, hb2⟩
  obtain rfl : n2 = 2 := by rw [← h2.1]; exact HE.out.1
  have hb12 := HB1.out.trans (hb2.mono HB1.out.size)
  clear v0 v1 v2 v3 s0 s1 s2
  obtain ⟨v0, v1, v2, v3, s0, s1, s2⟩ := VS.out w2 hb12
  have HB2 := Lib.hid hb12
  have H2 := Lib.hid h2.ts
  clear hb12 hb2 h2 hz2
  go_wp2_with fail
  have hjb := job_any a a2 2 c 2 c2 vt vt 0 0 0 0 w2 (HE.out.below (HB0.out.trans (HB2.out.mono HB0.out.size))) H2.out (by omega) (by omega) (by omega) (by omega) (HZ.out.overC (HE.out.below (HB0.out.trans (HB2.out.mono HB0.out.size))) (by omega) 0 0 0)
  unfold vv at hjb
  refine hjb.mono ?_
  clear hjb
  rintro e w3 ⟨ai, ni, ci, rfl, hz3, hb3⟩
  rw [HZ.out.all] at hz3
  rw [HZ.out.bot]
  have hb13 := HB2.out.trans (hb3.mono HB2.out.size)
  have HR : Hid (JBox w3 wb.heap.size 0 none 0 0 false) := Lib.hid (HJ0.out.below hb13 HSZ.out.2)
  obtain ⟨r0, r1, r2, rf⟩ := HR.out.cells
  have hs0 := (HR.out.set 0 (.int .i64 0) rfl)
  have hs1 := (hs0.set 1 (.slice ai ni ci) rfl)
  have hs2 := (hs1.set 2 (.bool true) rfl)
  obtain ⟨q0, q1, q2, qf⟩ := hs2.cells
  have HQ := Lib.hid (And.intro q0 (And.intro q1 q2))
  have h3n : w.heap.size < w2.heap.size := by have := HSZ.out; have := HB2.out.size; omega
  have HNEW := Lib.hid ((((hz3.setLow (b := wb.heap.size) (j := 0) (by have := HSZ.out; have := HB2.out.size; omega) (.int .i64 0)).setLow (b := wb.heap.size) (j := 1) (by have := HSZ.out; have := HB2.out.size; omega) (.slice ai ni ci)).setLow (b := wb.heap.size) (j := 2) (by have := HSZ.out; have := HB2.out.size; omega) (.bool true)).mono (by omega : w.heap.size ≤ w2.heap.size))
  have HBE := Lib.hid ((((HB0.out.trans (hb13.mono HB0.out.size)).setCell (p := ⟨wb.heap.size, 0, none⟩) (by show w.heap.size ≤ wb.heap.size; have := HSZ.out; omega) (.int .i64 0)).setCell (p := ⟨wb.heap.size, 1, none⟩) (by show w.heap.size ≤ wb.heap.size; have := HSZ.out; omega) (.slice ai ni ci)).setCell (p := ⟨wb.heap.size, 2, none⟩) (by show w.heap.size ≤ wb.heap.size; have := HSZ.out; omega) (.bool true))
  clear hs0 hs1 hs2 q0 q1 q2 qf hz3 hb3 hb13 v0 v1 v2 v3 s0 s1 s2 h3n
  go_wp2
  rw [Exit.noGoto_ret]
  obtain ⟨q0, q1, q2⟩ := HQ.out
  exact bodyPost_ret (v := .tuple #[.agg #[.int .i64 0, .slice ai ni ci, .bool true], .bool true]) (by simp [results, Try.results11, go_sem, q0, q1, q2]) rfl ⟨ai, ni, ci, rfl, HNEW.out, HBE.out⟩
set_option maxHeartbeats 4000000 in
theorem pick_no (a : Option Addr) (c : Nat) (vt : List Tab) (w : World) (h : Ts w a 2 c vt) (hz : Zero vt) :
    Calls Try.prog 11 #[vv a 2 c 0 0 0, shv 3 10 10] w fun e w' => e = .returned (.tuple #[.agg #[.int .i64 0, .slice none 0 0, .bool false], .bool false]) ∧ Below w.heap.size w w' := by
  have HE := Lib.hid h
  have HZ := Lib.hid hz
  clear h hz
  obtain ⟨wb, hwb⟩ : ∃ wb, (w.alloc (.cells #[.slice a 2 c, .int .u64 0, .int .i64 0, .int .i64 0] 31)).alloc (.cells #[.int .i64 3, .int .i64 10, .int .i64 10] 24) = wb := ⟨_, rfl⟩
  have hzb : wb.heap.size = w.heap.size + 1 + 1 := by rw [← hwb]; simp
  have hbb : Below w.heap.size w wb := by rw [← hwb]; exact two_boxes _ _ _
  have hvb : wb.heap[w.heap.size]? = some (.cells #[.slice a 2 c, .int .u64 0, .int .i64 0, .int .i64 0] 31 (0, 0)) := by
    rw [← hwb]; exact (Below.heap_alloc _ _ _ (by simp)).trans (heap_alloc_new w _)
  have hsb : wb.heap[w.heap.size + 1]? = some (.cells #[.int .i64 3, .int .i64 10, .int .i64 10] 24 (0, 0)) := by
    rw [← hwb]
    have := heap_alloc_new (w.alloc (.cells #[.slice a 2 c, .int .u64 0, .int .i64 0, .int .i64 0] 31)) (.cells #[.int .i64 3, .int .i64 10, .int .i64 10] 24)
    rwa [World.size_alloc] at this
  have hj0 : JBox (wb.alloc (.cells #[.int .i64 0, .slice none 0 0, .bool false] 48)) wb.heap.size 0 none 0 0 false := JBox.new _ _ _ _ _ _
  obtain ⟨w0, hw0⟩ : ∃ w0, wb.alloc (.cells #[.int .i64 0, .slice none 0 0, .bool false] 48) = w0 := ⟨_, rfl⟩
  have hb0 : Below wb.heap.size wb w0 := by rw [← hw0]; exact below_alloc1 _ _
  rw [hw0] at hj0
  have hv0 := (hb0.block w.heap.size (by omega)).trans hvb
  have hs0 := (hb0.block (w.heap.size + 1) (by omega)).trans hsb
  have HB0 : Hid (Below w.heap.size w w0) := Lib.hid (hbb.trans (hb0.mono hbb.size))
  have HV0 := Lib.hid hv0
  have HS0 := Lib.hid hs0
  have HJ0 := Lib.hid hj0
  have HSZ : Hid (wb.heap.size = w.heap.size + 1 + 1 ∧ wb.heap.size < w0.heap.size) := Lib.hid ⟨hzb, hj0.lt⟩
  have v0 := cell_of_row _ _ 0 _ _ _ hv0
  have v1 := cell_of_row _ _ 1 _ _ _ hv0
  have v2 := cell_of_row _ _ 2 _ _ _ hv0
  have v3 := cell_of_row _ _ 3 _ _ _ hv0
  have s0 := cell_of_row _ _ 0 _ _ _ hs0
  have s1 := cell_of_row _ _ 1 _ _ _ hs0
  have s2 := cell_of_row _ _ 2 _ _ _ hs0
  simp at v0 v1 v2 v3 s0 s1 s2
  clear hvb hsb hj0 hv0 hs0 hb0 hbb hzb
  unfold vv shv
  go_enter Try.func11, Try.ntmps11
  go_upto_region 1 with fail
  have VS := Lib.hid (fun (W : World) (h : Below w0.heap.size w0 W) => And.intro (cell_later h v0) (And.intro (cell_later h v1) (And.intro (cell_later h v2) (And.intro (cell_later h v3) (And.intro (cell_later h s0) (And.intro (cell_later h s1) (cell_later h s2)))))))
  clear hw0 hwb
  refine wp_scope_straight ?_
  go_wp2_with fail
  refine (check_few 3 (.inr rfl) w0).mono ?_
  rintro e w1 ⟨rfl, hb1⟩
  obtain ⟨v0, v1, v2, v3, s0, s1, s2⟩ := VS.out w1 hb1
  have HB1 := Lib.hid hb1
  clear hb1
  go_wp2_with fail
  have hlv := level_any a 2 c vt 0 0 0 0 w1 (HE.out.below (HB0.out.trans (HB1.out.mono HB0.out.size))) (by omega)
  unfold vv at hlv
  rw [HZ.out.at0] at hlv
  refine hlv.mono ?_
  clear hlv
  rintro e w2 ⟨a2, n2, c2, rfl, h2, hz2, hb2⟩
  obtain rfl : n2 = 2 := by rw [← h2.1]; exact HE.out.1
  have hb12 := HB1.out.trans (hb2.mono HB1.out.size)
  clear v0 v1 v2 v3 s0 s1 s2
  obtain ⟨v0, v1, v2, v3, s0, s1, s2⟩ := VS.out w2 hb12
  have HB2 := Lib.hid hb12
  have H2 := Lib.hid h2.ts
  clear hb12 hb2 h2 hz2
  go_wp2_with fail
  go_step3
  go_wp2_with fail
  go_loopw [7, 8] (fun mv jv wr => ∃ j : Nat, 1 ≤ j ∧ j ≤ 6 ∧ jv = .int .i64 j ∧ mv = .int .i64 (10 ^ j : Nat) ∧ Hid (Below w0.heap.size w0 wr)) (fun _ jv _ => 6 - (intOf jv).toNat)
  case atStart => exact ⟨1, Nat.le_refl _, by omega, rfl, rfl, HB2⟩
  case round =>
    obtain ⟨j, hj1, hj6, rfl, rfl, hbl⟩ := hrel
    clear v0 v1 v2 v3 s0 s1 s2
    have hm : 1 ≤ 10 ^ j ∧ 10 ^ j ≤ 1000000 := ⟨Nat.one_le_pow _ _ (by decide), Nat.le_trans (Nat.pow_le_pow_right (by decide) hj6) (by decide)⟩
    have HM2 : Hid (10 ^ (j + 1) = 10 ^ j * 10) := Lib.hid (Nat.pow_succ _ _)
    generalize 10 ^ j = m at *
    obtain ⟨v0, v1, v2, v3, s0, s1, s2⟩ := VS.out wr hbl.out
    by_cases hj : j ≤ 5
    · go_wp2_with fail
      have hlv := level_any a 2 c vt 0 0 0 (j : Int) wr (HE.out.below (HB0.out.trans (hbl.out.mono HB0.out.size))) (by omega)
      unfold vv at hlv
      rw [HZ.out.at1 (by omega)] at hlv
      refine hlv.mono ?_
      clear hlv
      rintro e w5 ⟨a5, n5, c5, rfl, h5, hz5, hb5⟩
      obtain rfl : n5 = 0 := by rw [← h5.1]; rfl
      obtain ⟨rfl, rfl⟩ := hz5 rfl
      have HB5 := Lib.hid (hbl.out.trans (hb5.mono hbl.out.size))
      clear h5 hz5 hb5 v0 v1 v2 v3 s0 s1 s2 hbl
      go_wp2_with fail
      go_loopw [10, 11, 39] (fun x y iv wr => x = .int .i64 0 ∧ y = .int .i64 0 ∧ iv = .int .i64 0 ∧ wr = w5) (fun _ _ _ _ => 0)
      case atStart => exact ⟨rfl, rfl, rfl, rfl⟩
      case round =>
        obtain ⟨rfl, rfl, rfl, rfl⟩ := hrel
        have t9 : decide ((0 : Int) ≤ (m : Int)) = true := decide_eq_true (by omega)
        go_wp2
        go_roundw
        case rel => exact ⟨j + 1, by omega, by omega, by go_num, by rw [HM2.out]; go_num, HB5⟩
        case measure => simp [intOf]; omega
    · obtain rfl : j = 6 := by omega
      have HR : Hid (JBox wr wb.heap.size 0 none 0 0 false) := Lib.hid (HJ0.out.below hbl.out HSZ.out.2)
      obtain ⟨r0, r1, r2, rf⟩ := HR.out.cells
      have hs0 := (HR.out.set 0 (.int .i64 0) rfl)
      have hs1 := (hs0.set 1 (.slice none 0 0) rfl)
      have hs2 := (hs1.set 2 (.bool false) rfl)
      obtain ⟨q0, q1, q2, qf⟩ := hs2.cells
      have HQ := Lib.hid (And.intro q0 (And.intro q1 q2))
      have HBE := Lib.hid ((((HB0.out.trans (hbl.out.mono HB0.out.size)).setCell (p := ⟨wb.heap.size, 0, none⟩) (by show w.heap.size ≤ wb.heap.size; have := HSZ.out; omega) (.int .i64 0)).setCell (p := ⟨wb.heap.size, 1, none⟩) (by show w.heap.size ≤ wb.heap.size; have := HSZ.out; omega) (.slice none 0 0)).setCell (p := ⟨wb.heap.size, 2, none⟩) (by show w.heap.size ≤ wb.heap.size; have := HSZ.out; omega) (.bool false))
      clear hs0 hs1 hs2 q0 q1 q2 qf v0 v1 v2 v3 s0 s1 s2
      go_wp2
      rw [Exit.noGoto_ret]
      obtain ⟨q0, q1, q2⟩ := HQ.out
      exact bodyPost_ret (v := .tuple #[.agg #[.int .i64 0, .slice none 0 0, .bool false], .bool false]) (by simp [results, Try.results11, go_sem, q0, q1, q2]) rfl ⟨rfl, HBE.out⟩
end Go.Proofs.Ytlipgaefflecaaa
