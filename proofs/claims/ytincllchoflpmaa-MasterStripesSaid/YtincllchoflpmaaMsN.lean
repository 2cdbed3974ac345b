/- The chapter's example. -/
import Derived.Test.YtincllchoflpmaaMsM
namespace Go.Proofs.Ytincllchoflpmaa
set_option linter.unusedSimpArgs false
open Go.RowKit
set_option linter.unusedVariables false

theorem xs_box (w : World) (l : List Cm) (hl : l.length ≤ 1000000) : Xs (w.alloc (.cells (xv l).toArray 45)) (some ⟨w.heap.size, 0, none⟩) l.length l.length l :=
  ⟨rfl, Nat.le_refl _, by simp only [maxLen]; omega, Row.new w (xv l).toArray _⟩
theorem ex1 : Ms.zero.run [⟨1, 3, 0, 0⟩, ⟨1, 4, 0, 0⟩] = ⟨2, [⟨3, 0, true⟩, ⟨4, 0, false⟩], []⟩ := by decide
theorem ex2 : Cf.step ⟨2, [⟨3, 0, true⟩, ⟨4, 0, false⟩], []⟩ ⟨2, 3, 0, 0⟩ = (Ms.zero, 23) := by decide
theorem ex3 : Cf.run ⟨2, [⟨3, 0, true⟩, ⟨4, 0, false⟩], []⟩ [⟨3, 4, 0, 2⟩, ⟨2, 3, 0, 0⟩] = ⟨3, [⟨4, 0, true⟩], []⟩ := by decide
set_option maxRecDepth 8000 in
set_option maxHeartbeats 4000000 in
theorem known_any (w : World) : Calls Try.prog 17 #[] w fun e w' => e = .returned (.bool true) ∧ Below w.heap.size w w' := by
  have hr1 := run_any Ms.zero none none 0 0 (some ⟨w.heap.size, 0, none⟩) 2 2 [⟨1, 3, 0, 0⟩, ⟨1, 4, 0, 0⟩] (w.alloc (.cells #[.int .i64 1, .int .i64 3, .int .i64 0, .int .i64 0, .int .i64 1, .int .i64 4, .int .i64 0, .int .i64 0] 45)) ⟨Ms.nil _, ⟨rfl, by decide, by simp [maxLen], Row.nil _ _, fun _ h => by cases h⟩⟩ (xs_box w [⟨1, 3, 0, 0⟩, ⟨1, 4, 0, 0⟩] (by decide)) ⟨by decide, by decide⟩
  rw [ex1] at hr1
  have HR1 := Lib.hid hr1
  have HB0 := Lib.hid (below_alloc1 w (.cells #[.int .i64 1, .int .i64 3, .int .i64 0, .int .i64 0, .int .i64 1, .int .i64 4, .int .i64 0, .int .i64 0] 45))
  clear hr1
  go_enter Try.func17, Try.ntmps17
  go_wp2_with fail
  refine HR1.out.mono ?_
  rintro e w2 ⟨ac, cc, ast, cs, rfl, hO, hb⟩
  have HB2 := Lib.hid (HB0.out.trans (hb.mono HB0.out.size))
  have hc3 := cf_box w2 ⟨2, [⟨3, 0, true⟩, ⟨4, 0, false⟩], []⟩ ac cc ast cs
  have hb3 := below_alloc1 w2 (.cells #[.int .i64 2, .slice ac 2 cc, .slice ast 0 cs] 41)
  have HO2 := Lib.hid (hO.below hb3)
  clear hO hb HR1 HB0
  simp only [cval, List.length_cons, List.length_nil, Nat.zero_add, Nat.reduceAdd] at hc3 ⊢
  go_upto_region 2 with fail
  obtain ⟨W3, hW3⟩ : ∃ W3, w2.alloc (.cells #[.int .i64 2, .slice ac 2 cc, .slice ast 0 cs] 41) = W3 := ⟨_, rfl⟩
  obtain ⟨b1, hb1⟩ : ∃ b, b = w2.heap.size := ⟨_, rfl⟩
  rw [hW3] at hc3 hb3 HO2 ⊢
  rw [← hb1] at hc3 ⊢
  have HB3 := Lib.hid (HB2.out.trans (hb3.mono HB2.out.size))
  have HC3 := Lib.hid hc3
  have p0 := hc3.epoch
  have p1 := hc3.chain
  have p2 := hc3.stores
  simp only [List.length_cons, List.length_nil, Nat.zero_add, Nat.reduceAdd] at p1 p2
  have hdo := do_any ⟨2, [⟨3, 0, true⟩, ⟨4, 0, false⟩], []⟩ ac ast cc cs ⟨2, 3, 0, 0⟩ W3 HO2.out.r ⟨by decide, by decide⟩
  rw [ex2] at hdo
  simp only [cval, xval, List.length_cons, List.length_nil, Nat.zero_add, Nat.reduceAdd] at hdo
  have HDO := Lib.hid hdo
  clear hdo hc3 hb3 hb1 hW3 HB2
  go_wp2_with fail
  refine HDO.out.mono ?_
  rintro e w4 ⟨a4, c4, a5, c5, rfl, hO4, hb4⟩
  have hc5 := HC3.out.below hb4
  have ho5 := HO2.out.below hb4
  have HB4 := Lib.hid (HB3.out.trans (hb4.mono HB3.out.size))
  have hb5 := below_alloc1 w4 (.cells #[.int .i64 0, .slice a4 0 c4, .slice a5 0 c5] 41)
  have HC5 := Lib.hid (hc5.below hb5)
  have HO5 := Lib.hid (ho5.below hb5)
  clear hc5 ho5 hO4 hb4 HC3 HDO HB3 p0 p1 p2 HO2
  simp only [cval, Ms.zero, List.length_cons, List.length_nil, Nat.zero_add, Nat.reduceAdd]
  go_upto_region 3 with fail
  obtain ⟨W5, hW5⟩ : ∃ W5, w4.alloc (.cells #[.int .i64 0, .slice a4 0 c4, .slice a5 0 c5] 41) = W5 := ⟨_, rfl⟩
  rw [hW5] at hb5 HC5 HO5 ⊢
  have HB5 := Lib.hid (HB4.out.trans (hb5.mono HB4.out.size))
  have p0 := HC5.out.epoch
  have p1 := HC5.out.chain
  have p2 := HC5.out.stores
  simp only [List.length_cons, List.length_nil, Nat.zero_add, Nat.reduceAdd] at p1 p2
  have hb6 := below_alloc1 W5 (.cells #[.int .i64 3, .int .i64 4, .int .i64 0, .int .i64 2, .int .i64 2, .int .i64 3, .int .i64 0, .int .i64 0] 45)
  have hr2 := run_any ⟨2, [⟨3, 0, true⟩, ⟨4, 0, false⟩], []⟩ ac ast cc cs (some ⟨W5.heap.size, 0, none⟩) 2 2 [⟨3, 4, 0, 2⟩, ⟨2, 3, 0, 0⟩] (W5.alloc (.cells #[.int .i64 3, .int .i64 4, .int .i64 0, .int .i64 2, .int .i64 2, .int .i64 3, .int .i64 0, .int .i64 0] 45)) (HO5.out.below hb6).r (xs_box W5 [⟨3, 4, 0, 2⟩, ⟨2, 3, 0, 0⟩] (by decide)) ⟨by decide, by decide⟩
  rw [ex3] at hr2
  simp only [cval, List.length_cons, List.length_nil, Nat.zero_add, Nat.reduceAdd] at hr2
  have HR2 := Lib.hid hr2
  have HC6 := Lib.hid (HC5.out.below hb6)
  have HO6 := Lib.hid (HO5.out.below hb6)
  have HB6 := Lib.hid (HB5.out.trans (hb6.mono HB5.out.size))
  clear hr2 hb5 hW5 hb6 HB4 HC5 HO5
  go_wp2_with fail
  refine HR2.out.mono ?_
  rintro e w7 ⟨a7, c7, a8, c8, rfl, hO7, hb7⟩
  have hb8 := below_alloc1 w7 (.cells #[.int .i64 3, .slice a7 1 c7, .slice a8 0 c8] 41)
  have hc8 := cf_box w7 ⟨3, [⟨4, 0, true⟩], []⟩ a7 c7 a8 c8
  have HB7 := Lib.hid (HB6.out.trans (hb7.mono HB6.out.size))
  have HC8 := Lib.hid ((HC6.out.below hb7).below hb8)
  have HO8 := Lib.hid ((HO6.out.below hb7).below hb8)
  have HO9 := Lib.hid (hO7.below hb8)
  clear hO7 hb7 HC6 HO6 HR2 HB5 HB6 p0 p1 p2
  simp only [cval, List.length_cons, List.length_nil, Nat.zero_add, Nat.reduceAdd] at hc8 ⊢
  go_upto_region 4 with fail
  obtain ⟨W8, hW8⟩ : ∃ W8, w7.alloc (.cells #[.int .i64 3, .slice a7 1 c7, .slice a8 0 c8] 41) = W8 := ⟨_, rfl⟩
  obtain ⟨b8, hbb⟩ : ∃ b, b = w7.heap.size := ⟨_, rfl⟩
  rw [hW8] at hb8 hc8 HC8 HO8 HO9 ⊢
  rw [← hbb] at hc8 ⊢
  have HB8 := Lib.hid (HB7.out.trans (hb8.mono HB7.out.size))
  have p0 := HC8.out.epoch
  have p1 := HC8.out.chain
  have p2 := HC8.out.stores
  have r0 := hc8.epoch
  have r1 := hc8.chain
  simp only [List.length_cons, List.length_nil, Nat.zero_add, Nat.reduceAdd] at p1 p2 r1
  obtain ⟨b, off, rfl, m0⟩ := HO8.out.chain.ms.get (i := 0) (by decide)
  obtain ⟨b', off', e1, m1⟩ := HO8.out.chain.ms.get (i := 1) (by decide)
  cases e1
  obtain ⟨b2, off2, rfl, m2⟩ := HO9.out.chain.ms.get (i := 0) (by decide)
  have x0 : W8.cell? ⟨b, off + 2, none⟩ = some (.bool true) := m0.whole
  have x1 : W8.cell? ⟨b, off + 3 + 2, none⟩ = some (.bool false) := m1.whole
  have x1' : W8.cell? ⟨b, off + 5, none⟩ = some (.bool false) := m1.whole
  have x2 : W8.cell? ⟨b2, off2, none⟩ = some (.int .i64 4) := m2.node
  clear m0 m1 m2 hW8 hbb hb8 hc8 HO8 HO9 HC8 HB7
  go_wp2
  go_ret
  exact ⟨rfl, HB8.out⟩
end Go.Proofs.Ytincllchoflpmaa
