/- merge's Right and the reference's. -/
import Derived.Test.YtchdmjnhjonddaaCgC
import Derived.Shelf.Abstract
set_option maxRecDepth 100000
set_option linter.unusedSimpArgs false
namespace Go.Proofs.Ytchdmjnhjonddaa
open Go.RowKit
set_option linter.unusedVariables false

theorem cmp_neg (x y : Ent) : decide (Ent.cmp x y < 0) = decide (Ent.cmp x y = -1) := by
  rcases Ent.cmp_cases x y with h | h | h <;> rw [h] <;> rfl
theorem load_box (w : World) (x : Ent) (a : Option Addr) (c : Nat) : EntAt (w.alloc (.cells #[.string (bstr x.key), .int .u64 x.seq, .bool x.gone, .slice a x.val.length c] 61)) w.heap.size 0 x a c :=
  ⟨cell_of_row _ _ 0 #[.string (bstr x.key), .int .u64 x.seq, .bool x.gone, .slice a x.val.length c] 61 (0, 0) (heap_alloc_new w _), cell_of_row _ _ 1 #[.string (bstr x.key), .int .u64 x.seq, .bool x.gone, .slice a x.val.length c] 61 (0, 0) (heap_alloc_new w _),
   cell_of_row _ _ 2 #[.string (bstr x.key), .int .u64 x.seq, .bool x.gone, .slice a x.val.length c] 61 (0, 0) (heap_alloc_new w _), cell_of_row _ _ 3 #[.string (bstr x.key), .int .u64 x.seq, .bool x.gone, .slice a x.val.length c] 61 (0, 0) (heap_alloc_new w _)⟩
set_option maxHeartbeats 1000000 in
theorem right1_any (x y : Ent) (ax ay : Option Addr) (cx cy : Nat) (w : World) :
    Calls Try.prog 65 #[ev x ax cx, ev y ay cy] w fun e w' => e = .returned (.bool (decide (Ent.cmp x y = -1))) ∧ Below w.heap.size w w' := by
  rw [← cmp_neg]
  have hc := fun W => cmp_any x y ax ay cx cy W
  unfold ev at hc ⊢
  have hb := two_boxes w (.cells #[.string (bstr x.key), .int .u64 x.seq, .bool x.gone, .slice ax x.val.length cx] 61) (.cells #[.string (bstr y.key), .int .u64 y.seq, .bool y.gone, .slice ay y.val.length cy] 61)
  have HB := Lib.hid hb
  have HC := Lib.hid hc
  clear hb hc
  go_enter Try.func65, Try.ntmps65
  go_wp2_with fail
  refine (HC.out _).mono ?_
  rintro e w1 ⟨rfl, hb1⟩
  have HB1 := Lib.hid (HB.out.trans (hb1.mono HB.out.size))
  clear hb1
  go_wp2
  go_ret
  exact ⟨rfl, HB1.out⟩
/-- Each two that stand side by side are in order. -/
def Ent.adj (l : List Ent) (k : Nat) : Prop := ∀ i, 1 ≤ i → i < k → Ent.cmp (nth l (i - 1)) (nth l i) = -1
instance (l : List Ent) (k : Nat) : Decidable (Ent.adj l k) := decidable_of_iff (∀ i, i < k → 1 ≤ i → Ent.cmp (nth l (i - 1)) (nth l i) = -1) ⟨fun h i h1 h2 => h i h2 h1, fun h i h1 h2 => h i h2 h1⟩
set_option maxHeartbeats 4000000 in
theorem pairs_any (a : Option Addr) (n c : Nat) (l : List Ent) (w : World) (h : Es w a n c l) :
    Calls Try.prog 64 #[.slice a n c, .func (.func 65) #[] #[]] w fun e w' => e = .returned (.bool (decide (Ent.adj l n))) ∧ Below w.heap.size w w' := by
  have hle := h.le.1
  have HE := Lib.hid h
  have eg : ∀ (args : Array Value) (w : World), (callFunc 65 args).run Try.prog w = .ok (.enter 65 args) w := enters_of Try.func65 (by kernel_rfl) rfl
  clear h
  go_enter Try.func64, Try.ntmps64
  go_wp2
  go_loopw [5] (fun i wr => ∃ k : Nat, 1 ≤ k ∧ (k ≤ n ∨ k = 1) ∧ i = .int .i64 k ∧ Below w.heap.size w wr ∧ Hid (Ent.adj l k)) (fun i _ => n - (intOf i).toNat)
  case atStart => exact ⟨1, Nat.le_refl _, .inr rfl, rfl, Below.refl _ _, Lib.hid (fun i h1 h2 => by omega)⟩
  case round =>
    obtain ⟨k, hk1, hk, rfl, hb, hall⟩ := hrel
    by_cases hlt : k < n
    · obtain ⟨b1, o1, a1, d1, rfl, he1, hv1⟩ := (HE.out.below hb).vals (i := k - 1) (by omega)
      obtain ⟨b2, o2, a2, d2, e2, he2, hv2⟩ := (HE.out.below hb).vals hlt
      cases e2
      obtain ⟨j, rfl⟩ : ∃ j, k = j + 1 := ⟨k - 1, by omega⟩
      have ej : j + 1 - 1 = j := by omega
      rw [ej] at he1 hv1
      have z1 : IntKind.i64.wrap (((j + 1 : Nat) : Int) - 1) = (j : Int) := by rw [IntKind.wrap_i64]; omega
      have p1 := he1.key
      have p2 := he1.seq
      have p3 := he1.gone
      have p4 := he1.val
      have q1 := he2.key
      have q2 := he2.seq
      have q3 := he2.gone
      have q4 := he2.val
      have HB := Lib.hid hb
      clear he1 he2 hv1 hv2 hb ej
      have z2 : (0 : Int) ≤ (j : Int) := by omega
      by_cases hc : Ent.cmp (nth l j) (nth l (j + 1)) = -1
      · have hsm : ∀ W : World, Calls Try.prog 65 #[ev (nth l j) a1 d1, ev (nth l (j + 1)) a2 d2] W fun e w' => e = .returned (.bool true) ∧ Below W.heap.size W w' := fun W => by
          have := right1_any (nth l j) (nth l (j + 1)) a1 a2 d1 d2 W
          rwa [decide_eq_true hc] at this
        have HSM := Lib.hid hsm
        have HC := Lib.hid hc
        clear hc hsm
        go_wp2_with fail
        refine wp_region_class (w0 := wr) (by kernel_rfl) (by kernel_rfl) (Below.refl _ _) ?_
        have m1 := BW.cell p1
        have m2 := BW.cell p2
        have m3 := BW.cell p3
        have m4 := BW.cell p4
        have n1 := BW.cell q1
        have n2 := BW.cell q2
        have n3 := BW.cell q3
        have n4 := BW.cell q4
        repeat (first | go_big_quiet_step ((exact calls_class (HSM.out _))))
        refine wpQuiet_nil ?_
        intro w1 hb1; replace hb1 := BW.of hb1
        have HB1 := Lib.hid (HB.out.trans (hb1.mono HB.out.size))
        clear hb1 m1 m2 m3 m4 n1 n2 n3 n4
        go_wp2
        go_roundw
        case rel => exact ⟨j + 1 + 1, by omega, .inl (by omega), by go_num, HB1.out, Lib.hid (fun i h1 h2 => by
          by_cases e : i = j + 1
          · rw [e]; exact HC.out
          · exact hall.out i h1 (by omega))⟩
        case measure => simp [intOf]; omega
      · have hsm : ∀ W : World, Calls Try.prog 65 #[ev (nth l j) a1 d1, ev (nth l (j + 1)) a2 d2] W fun e w' => e = .returned (.bool false) ∧ Below W.heap.size W w' := fun W => by
          have := right1_any (nth l j) (nth l (j + 1)) a1 a2 d1 d2 W
          rwa [decide_eq_false hc] at this
        have HSM := Lib.hid hsm
        have E := Lib.hid (decide_eq_false (show ¬ Ent.adj l n from fun e => hc (e (j + 1) (by omega) hlt)))
        clear hc hsm
        go_wp2_with fail
        refine wp_region_class (w0 := wr) (by kernel_rfl) (by kernel_rfl) (Below.refl _ _) ?_
        have m1 := BW.cell p1
        have m2 := BW.cell p2
        have m3 := BW.cell p3
        have m4 := BW.cell p4
        have n1 := BW.cell q1
        have n2 := BW.cell q2
        have n3 := BW.cell q3
        have n4 := BW.cell q4
        repeat (first | go_big_quiet_step ((exact calls_class (HSM.out _))))
        refine wpQuiet_nil ?_
        intro w1 hb1; replace hb1 := BW.of hb1
        have HB1 := Lib.hid (HB.out.trans (hb1.mono HB.out.size))
        clear hb1 m1 m2 m3 m4 n1 n2 n3 n4
        go_wp2
        go_ret
        exact ⟨by rw [E.out]; rfl, HB1.out⟩
    · have E := Lib.hid (decide_eq_true (show Ent.adj l n from fun i h1 h2 => hall.out i h1 (by omega)))
      have HB := Lib.hid hb
      have t : decide (k < n) = false := decide_eq_false hlt
      clear hb hlt
      go_wp2
      go_ret
      exact ⟨by rw [E.out]; rfl, HB.out⟩
end Go.Proofs.Ytchdmjnhjonddaa
