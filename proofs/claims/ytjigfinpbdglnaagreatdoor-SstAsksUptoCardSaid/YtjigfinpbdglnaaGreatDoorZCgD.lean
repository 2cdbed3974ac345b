/- merge's Right and the reference's. -/
import Derived.Test.YtjigfinpbdglnaaGreatDoorZScG
import Derived.Shelf.Abstract
import Derived.OrdersHeld
set_option linter.unusedVariables false
set_option linter.unusedSimpArgs false
section
set_option maxRecDepth 100000
set_option linter.unusedSimpArgs false
namespace Go.Proofs.YtjigfinpbdglnaaGreatDoor
open Go.RowKit
set_option linter.unusedVariables false

theorem cmp_neg (x y : Ent) : decide (Ent.cmp x y < 0) = decide (Ent.cmp x y = -1) := by
  rcases Ent.cmp_cases x y with h | h | h <;> rw [h] <;> rfl
theorem load_box (w : World) (x : Ent) (a : Option Addr) (c : Nat) : EntAt (w.alloc (.cells #[.string (bstr x.key), .int .u64 x.seq, .bool x.gone, .slice a x.val.length c] 37)) w.heap.size 0 x a c :=
  ⟨cell_of_row _ _ 0 #[.string (bstr x.key), .int .u64 x.seq, .bool x.gone, .slice a x.val.length c] 37 (0, 0) (heap_alloc_new w _), cell_of_row _ _ 1 #[.string (bstr x.key), .int .u64 x.seq, .bool x.gone, .slice a x.val.length c] 37 (0, 0) (heap_alloc_new w _),
   cell_of_row _ _ 2 #[.string (bstr x.key), .int .u64 x.seq, .bool x.gone, .slice a x.val.length c] 37 (0, 0) (heap_alloc_new w _), cell_of_row _ _ 3 #[.string (bstr x.key), .int .u64 x.seq, .bool x.gone, .slice a x.val.length c] 37 (0, 0) (heap_alloc_new w _)⟩
set_option maxHeartbeats 1000000 in
theorem right1_any (x y : Ent) (ax ay : Option Addr) (cx cy : Nat) (w : World) :
    Calls Tryz.prog 77 #[ev x ax cx, ev y ay cy] w fun e w' => e = .returned (.bool (decide (Ent.cmp x y = -1))) ∧ Below w.heap.size w w' := by
  rw [← cmp_neg]
  have hc := fun W => cmp_any x y ax ay cx cy W
  unfold ev at hc ⊢
  have hb := two_boxes w (.cells #[.string (bstr x.key), .int .u64 x.seq, .bool x.gone, .slice ax x.val.length cx] 37) (.cells #[.string (bstr y.key), .int .u64 y.seq, .bool y.gone, .slice ay y.val.length cy] 37)
  have HB := Lib.hid hb
  have HC := Lib.hid hc
  clear hb hc
  go_enter Tryz.func77, Tryz.ntmps77
  go_wp2_with fail
  refine (HC.out _).mono ?_
  rintro e w1 ⟨rfl, hb1⟩
  have HB1 := Lib.hid (HB.out.trans (hb1.mono HB.out.size))
  clear hb1
  go_wp2
  go_ret
  exact ⟨rfl, HB1.out⟩
/-- Each two that stand side by side are in order. -/
def Ent.adj (l : List Ent) (k : Nat) : Prop := ∀ i, 1 ≤ i → i < k → Ent.cmp (nth l (i - 1)) (nth l i) = -1
instance (l : List Ent) (k : Nat) : Decidable (Ent.adj l k) := decidable_of_iff (∀ i, i < k → 1 ≤ i → Ent.cmp (nth l (i - 1)) (nth l i) = -1) ⟨fun h i h1 h2 => h i h2 h1, fun h i h1 h2 => h i h2 h1⟩
set_option maxHeartbeats 4000000 in
theorem pairs_any (a : Option Addr) (n c : Nat) (l : List Ent) (w : World) (h : Es w a n c l) :
    Calls Tryz.prog 76 #[.slice a n c, .func (.func 77) #[] #[]] w fun e w' => e = .returned (.bool (decide (Ent.adj l n))) ∧ Below w.heap.size w w' := by
  have hle := h.le.1
  have HE := Lib.hid h
  have eg : ∀ (args : Array Value) (w : World), (callFunc 77 args).run Tryz.prog w = .ok (.enter 77 args) w := enters_of Tryz.func77 (by kernel_rfl) rfl
  clear h
  go_enter Tryz.func76, Tryz.ntmps76
  go_wp2
  go_loopw [5] (fun i wr => ∃ k : Nat, 1 ≤ k ∧ (k ≤ n ∨ k = 1) ∧ i = .int .i64 k ∧ Below w.heap.size w wr ∧ Hid (Ent.adj l k)) (fun i _ => n - (intOf i).toNat)
  case atStart => exact ⟨1, Nat.le_refl _, .inr rfl, rfl, Below.refl _ _, Lib.hid (fun i h1 h2 => by omega)⟩
  case round =>
    obtain ⟨k, hk1, hk, rfl, hb, hall⟩ := hrel
    by_cases hlt : k < n
    · obtain ⟨b1, o1, a1, d1, rfl, he1, hv1⟩ := (HE.out.below hb).vals (i := k - 1) (by omega)
      obtain ⟨b2, o2, a2, d2, e2, he2, hv2⟩ := (HE.out.below hb).vals hlt
      cases e2
      obtain ⟨j, rfl⟩ : ∃ j, k = j + 1 := ⟨k - 1, by omega⟩
      have ej : j + 1 - 1 = j := by omega
      rw [ej] at he1 hv1
      have z1 : IntKind.i64.wrap (((j + 1 : Nat) : Int) - 1) = (j : Int) := by rw [IntKind.wrap_i64]; omega
      have p1 := he1.key
      have p2 := he1.seq
      have p3 := he1.gone
      have p4 := he1.val
      have q1 := he2.key
      have q2 := he2.seq
      have q3 := he2.gone
      have q4 := he2.val
      have HB := Lib.hid hb
      clear he1 he2 hv1 hv2 hb ej
      have z2 : (0 : Int) ≤ (j : Int) := by omega
      by_cases hc : Ent.cmp (nth l j) (nth l (j + 1)) = -1
      · have hsm : ∀ W : World, Calls Tryz.prog 77 #[ev (nth l j) a1 d1, ev (nth l (j + 1)) a2 d2] W fun e w' => e = .returned (.bool true) ∧ Below W.heap.size W w' := fun W => by
          have := right1_any (nth l j) (nth l (j + 1)) a1 a2 d1 d2 W
          rwa [decide_eq_true hc] at this
        have HSM := Lib.hid hsm
        have HC := Lib.hid hc
        clear hc hsm
        go_wp2_with fail
        refine wp_region_class (w0 := wr) (by kernel_rfl) (by kernel_rfl) (Below.refl _ _) ?_
        have m1 := BW.cell p1
        have m2 := BW.cell p2
        have m3 := BW.cell p3
        have m4 := BW.cell p4
        have n1 := BW.cell q1
        have n2 := BW.cell q2
        have n3 := BW.cell q3
        have n4 := BW.cell q4
        repeat (first | go_big_quiet_step ((exact calls_class (HSM.out _))))
        refine wpQuiet_nil ?_
        intro w1 hb1; replace hb1 := BW.of hb1
        have HB1 := Lib.hid (HB.out.trans (hb1.mono HB.out.size))
        clear hb1 m1 m2 m3 m4 n1 n2 n3 n4
        go_wp2
        go_roundw
        case rel => exact ⟨j + 1 + 1, by omega, .inl (by omega), by go_num, HB1.out, Lib.hid (fun i h1 h2 => by
          by_cases e : i = j + 1
          · rw [e]; exact HC.out
          · exact hall.out i h1 (by omega))⟩
        case measure => simp [intOf]; omega
      · have hsm : ∀ W : World, Calls Tryz.prog 77 #[ev (nth l j) a1 d1, ev (nth l (j + 1)) a2 d2] W fun e w' => e = .returned (.bool false) ∧ Below W.heap.size W w' := fun W => by
          have := right1_any (nth l j) (nth l (j + 1)) a1 a2 d1 d2 W
          rwa [decide_eq_false hc] at this
        have HSM := Lib.hid hsm
        have E := Lib.hid (decide_eq_false (show ¬ Ent.adj l n from fun e => hc (e (j + 1) (by omega) hlt)))
        clear hc hsm
        go_wp2_with fail
        refine wp_region_class (w0 := wr) (by kernel_rfl) (by kernel_rfl) (Below.refl _ _) ?_
        have m1 := BW.cell p1
        have m2 := BW.cell p2
        have m3 := BW.cell p3
        have m4 := BW.cell p4
        have n1 := BW.cell q1
        have n2 := BW.cell q2
        have n3 := BW.cell q3
        have n4 := BW.cell q4
        repeat (first | go_big_quiet_step ((exact calls_class (HSM.out _))))
        refine wpQuiet_nil ?_
        intro w1 hb1; replace hb1 := BW.of hb1
        have HB1 := Lib.hid (HB.out.trans (hb1.mono HB.out.size))
        clear hb1 m1 m2 m3 m4 n1 n2 n3 n4
        go_wp2
        go_ret
        exact ⟨by rw [E.out]; rfl, HB1.out⟩
    · have E := Lib.hid (decide_eq_true (show Ent.adj l n from fun i h1 h2 => hall.out i h1 (by omega)))
      have HB := Lib.hid hb
      have t : decide (k < n) = false := decide_eq_false hlt
      clear hb hlt
      go_wp2
      go_ret
      exact ⟨by rw [E.out]; rfl, HB.out⟩
end Go.Proofs.YtjigfinpbdglnaaGreatDoor
end

section
set_option maxRecDepth 100000
set_option linter.unusedSimpArgs false
namespace Go.Proofs.YtjigfinpbdglnaaGreatDoor
open Go.RowKit
set_option linter.unusedVariables false

def Ent.okTo (l : List Ent) (k : Nat) : Prop := ∀ i, i < k → ¬ ((nth l i).gone = true ∧ 0 < (nth l i).val.length)
instance (l : List Ent) (k : Nat) : Decidable (Ent.okTo l k) := inferInstanceAs (Decidable (∀ i, i < k → ¬ ((nth l i).gone = true ∧ 0 < (nth l i).val.length)))
def Ent.rightB (l : List Ent) : Bool := decide (Ent.okTo l l.length) && decide (Ent.adj l l.length)
set_option maxHeartbeats 4000000 in
theorem mright_any (a : Option Addr) (n c : Nat) (l : List Ent) (w : World) (h : Es w a n c l) :
    Calls Tryz.prog 39 #[.slice a n c] w fun e w' => e = .returned (.bool (Ent.rightB l)) ∧ Below w.heap.size w w' := by
  have hle := h.le.1
  have HN := Lib.hid h.1
  have HE := Lib.hid h
  clear h
  go_enter Tryz.func39, Tryz.ntmps39
  go_wp2
  go_loopw [7] (fun i wr => ∃ k : Nat, k ≤ n ∧ i = .int .i64 k ∧ Below w.heap.size w wr ∧ Hid (Ent.okTo l k)) (fun i _ => n - (intOf i).toNat)
  case atStart => exact ⟨0, by omega, rfl, Below.refl _ _, Lib.hid (fun i h => by omega)⟩
  case round =>
    obtain ⟨k, hk, rfl, hb, hall⟩ := hrel
    by_cases hlt : k < n
    · obtain ⟨b1, o1, a1, d1, rfl, he1, hv1⟩ := (HE.out.below hb).vals hlt
      have p1 := he1.key
      have p2 := he1.seq
      have p3 := he1.gone
      have p4 := he1.val
      have hvl := hv1.le.1
      generalize hx : nth l k = x at *
      have HX := Lib.hid hx
      have HB := Lib.hid hb
      clear he1 hv1 hb hx
      by_cases hg : x.gone = true
      · by_cases hv : 0 < x.val.length
        · have t1 : decide (0 < x.val.length) = true := decide_eq_true hv
          have E : Hid (Ent.rightB l = false) := Lib.hid (by
            unfold Ent.rightB
            rw [decide_eq_false (fun e => e k (by rw [HN.out]; exact hlt) (by rw [HX.out]; exact ⟨hg, hv⟩))]
            rfl)
          rw [hg] at p3
          clear hg hv
          go_wp2
          go_ret
          exact ⟨by rw [E.out]; rfl, HB.out.alloc HB.out.size _⟩
        · have t1 : decide (0 < x.val.length) = false := decide_eq_false hv
          have HOK : Hid (Ent.okTo l (k + 1)) := Lib.hid (fun i h e => by
            by_cases e2 : i = k
            · rw [e2, HX.out] at e; exact hv e.2
            · exact hall.out i (by omega) e)
          rw [hg] at p3
          clear hg hv
          go_wp2
          go_roundw
          case rel => exact ⟨k + 1, by omega, by go_num, HB.out.alloc HB.out.size _, HOK⟩
          case measure => simp [intOf]; omega
      · have hg' : x.gone = false := by simpa using hg
        have HOK : Hid (Ent.okTo l (k + 1)) := Lib.hid (fun i h e => by
            by_cases e2 : i = k
            · rw [e2, HX.out] at e; exact hg e.1
            · exact hall.out i (by omega) e)
        rw [hg'] at p3
        clear hg hg'
        go_wp2
        go_roundw
        case rel => exact ⟨k + 1, by omega, by go_num, HB.out.alloc HB.out.size _, HOK⟩
        case measure => simp [intOf]; omega
    · obtain rfl : k = n := by omega
      have E : Hid (Ent.rightB l = decide (Ent.adj l k)) := Lib.hid (by
        unfold Ent.rightB
        rw [HN.out, decide_eq_true hall.out]
        rfl)
      have HB := Lib.hid hb
      clear hb
      go_wp2_with fail
      refine (pairs_any _ k c l _ (HE.out.below HB.out)).mono ?_
      rintro e w2 ⟨rfl, hb2⟩
      have HB2 := Lib.hid (HB.out.trans (hb2.mono HB.out.size))
      clear hb2
      go_wp2
      go_ret
      exact ⟨by rw [E.out]; rfl, HB2.out⟩
end Go.Proofs.YtjigfinpbdglnaaGreatDoor
end

section
set_option maxRecDepth 100000
set_option linter.unusedSimpArgs false
namespace Go.Proofs.YtjigfinpbdglnaaGreatDoor
open Go.RowKit
set_option linter.unusedVariables false

theorem cmp_ge (x y : Ent) : decide (0 ≤ Ent.cmp x y) = !decide (Ent.cmp x y = -1) := by
  rcases Ent.cmp_cases x y with h | h | h <;> rw [h] <;> rfl
/-- What is right up to k. -/
def Ent.upTo (l : List Ent) (k : Nat) : Prop := Ent.okTo l k ∧ Ent.adj l k
theorem upTo_next {l : List Ent} {k : Nat} (h : Ent.upTo l k) (h1 : ¬ ((nth l k).gone = true ∧ 0 < (nth l k).val.length)) (h2 : 1 ≤ k → Ent.cmp (nth l (k - 1)) (nth l k) = -1) : Ent.upTo l (k + 1) := by
  refine ⟨fun i hi => ?_, fun i hi1 hi => ?_⟩
  · by_cases e : i = k
    · rw [e]; exact h1
    · exact h.1 i (by omega)
  · by_cases e : i = k
    · subst e; exact h2 hi1
    · exact h.2 i hi1 (by omega)
theorem rightB_bad {l : List Ent} {k : Nat} (hk : k < l.length) (h : ((nth l k).gone = true ∧ 0 < (nth l k).val.length) ∨ (1 ≤ k ∧ Ent.cmp (nth l (k - 1)) (nth l k) ≠ -1)) : Ent.rightB l = false := by
  unfold Ent.rightB
  rcases h with h | ⟨h1, h2⟩
  · rw [decide_eq_false (fun e => e k hk h)]; rfl
  · rw [decide_eq_false (fun e : Ent.adj l l.length => h2 (e k h1 hk)), Bool.and_false]
theorem rightB_all {l : List Ent} (h : Ent.upTo l l.length) : Ent.rightB l = true := by
  unfold Ent.rightB; rw [decide_eq_true h.1, decide_eq_true h.2]; rfl
theorem rightB_spec {l : List Ent} : Ent.rightB l = true ↔ Ent.upTo l l.length := by
  unfold Ent.rightB Ent.upTo
  rw [Bool.and_eq_true, decide_eq_true_eq, decide_eq_true_eq]
set_option maxHeartbeats 8000000 in
theorem refright_any (a : Option Addr) (n c : Nat) (l : List Ent) (w : World) (h : Es w a n c l) :
    Calls Tryz.prog 30 #[.slice a n c] w fun e w' => e = .returned (.bool (Ent.rightB l)) ∧ Below w.heap.size w w' := by
  have hle := h.le.1
  have HN := Lib.hid h.1
  have HE := Lib.hid h
  clear h
  go_enter Tryz.func30, Tryz.ntmps30
  go_wp2
  go_loopw [3] (fun i wr => ∃ k : Nat, k ≤ n ∧ i = .int .i64 k ∧ Below w.heap.size w wr ∧ Hid (Ent.upTo l k)) (fun i _ => n - (intOf i).toNat)
  case atStart => exact ⟨0, by omega, rfl, Below.refl _ _, Lib.hid ⟨fun i h => by omega, fun i h1 h2 => by omega⟩⟩
  case round =>
    obtain ⟨k, hk, rfl, hb, hall⟩ := hrel
    by_cases hlt : k < n
    · obtain ⟨b1, o1, a1, d1, rfl, he1, hv1⟩ := (HE.out.below hb).vals hlt
      have p1 := he1.key
      have p2 := he1.seq
      have p3 := he1.gone
      have p4 := he1.val
      have hvl := hv1.le.1
      have HB := Lib.hid hb
      by_cases hbad : (nth l k).gone = true ∧ 0 < (nth l k).val.length
      · have E := Lib.hid (rightB_bad (l := l) (k := k) (by rw [HN.out]; exact hlt) (.inl hbad))
        have t1 : decide (0 < (nth l k).val.length) = true := decide_eq_true hbad.2
        rw [hbad.1] at p3
        clear he1 hv1 hb hbad
        go_wp2_with fail
        refine wp_region_class (w0 := wr) (by kernel_rfl) (by kernel_rfl) (Below.refl _ _) ?_
        have m3 := BW.cell p3
        have m4 := BW.cell p4
        repeat (first | go_big_quiet_step (fail))
        refine wpQuiet_nil ?_
        intro w1 hb1; replace hb1 := BW.of hb1
        have HB1 := Lib.hid (HB.out.trans (hb1.mono HB.out.size))
        clear hb1 m3 m4
        go_wp2
        go_ret
        exact ⟨by rw [E.out]; rfl, HB1.out⟩
      · have HNB := Lib.hid hbad
        rcases (show (nth l k).gone = false ∨ ((nth l k).gone = true ∧ decide (0 < (nth l k).val.length) = false) by
          cases hg : (nth l k).gone with
          | false => exact .inl rfl
          | true => exact .inr ⟨rfl, decide_eq_false (fun e => hbad ⟨hg, e⟩)⟩) with hg | ⟨hg, t1⟩
        all_goals
          have HG := Lib.hid hg
          rw [hg] at p3
          clear hg hbad
          by_cases hk0 : k = 0
          · have t2 : decide (0 < k) = false := decide_eq_false (by omega)
            have HU := Lib.hid (upTo_next hall.out HNB.out (fun e => by omega))
            clear he1 hv1 hb hk0
            go_wp2_with fail
            refine wp_region_class (w0 := wr) (by kernel_rfl) (by kernel_rfl) (Below.refl _ _) ?_
            have m3 := BW.cell p3
            have m4 := BW.cell p4
            repeat (first | go_big_quiet_step (fail))
            refine wpQuiet_nil ?_
            intro w1 hb1; replace hb1 := BW.of hb1
            have HB1 := Lib.hid (HB.out.trans (hb1.mono HB.out.size))
            clear hb1 m3 m4
            go_wp2
            go_roundw
            case rel => exact ⟨k + 1, by omega, by go_num, HB1.out, HU⟩
            case measure => simp [intOf]; omega
          · obtain ⟨j, rfl⟩ : ∃ j, k = j + 1 := ⟨k - 1, by omega⟩
            have t2 : decide (0 < j + 1) = true := decide_eq_true (by omega)
            obtain ⟨b2, o2, a2, d2, e2, he2, hv2⟩ := (HE.out.below hb).vals (i := j) (by omega)
            cases e2
            have z1 : IntKind.i64.wrap (((j + 1 : Nat) : Int) - 1) = (j : Int) := by rw [IntKind.wrap_i64]; omega
            have z2 : (0 : Int) ≤ (j : Int) := by omega
            have q1 := he2.key
            have q2 := he2.seq
            have q3 := he2.gone
            have q4 := he2.val
            have hc := fun W => refcmp_any (nth l j) (nth l (j + 1)) a2 a1 d2 d1 W
            unfold ev at hc
            rw [HG.out] at hc
            have HC := Lib.hid hc
            clear he1 hv1 hb he2 hv2 hc hk0
            by_cases hcm : Ent.cmp (nth l j) (nth l (j + 1)) = -1
            · have t3 : decide (0 ≤ Ent.cmp (nth l j) (nth l (j + 1))) = false := by rw [cmp_ge, decide_eq_true hcm]; rfl
              have HU := Lib.hid (upTo_next hall.out HNB.out (fun _ => hcm))
              clear hcm
              go_wp2_with fail
              refine wp_region_class (w0 := wr) (by kernel_rfl) (by kernel_rfl) (Below.refl _ _) ?_
              have m1 := BW.cell p1
              have m2 := BW.cell p2
              have m3 := BW.cell p3
              have m4 := BW.cell p4
              have n1 := BW.cell q1
              have n2 := BW.cell q2
              have n3 := BW.cell q3
              have n4 := BW.cell q4
              repeat (first | go_big_quiet_step ((exact calls_class (HC.out _))))
              refine wpQuiet_nil ?_
              intro w1 hb1; replace hb1 := BW.of hb1
              have HB1 := Lib.hid (HB.out.trans (hb1.mono HB.out.size))
              clear hb1 m1 m2 m3 m4 n1 n2 n3 n4
              go_wp2
              go_roundw
              case rel => exact ⟨j + 1 + 1, by omega, by go_num, HB1.out, HU⟩
              case measure => simp [intOf]; omega
            · have t3 : decide (0 ≤ Ent.cmp (nth l j) (nth l (j + 1))) = true := by rw [cmp_ge, decide_eq_false hcm]; rfl
              have E := Lib.hid (rightB_bad (l := l) (k := j + 1) (by rw [HN.out]; exact hlt) (.inr ⟨by omega, hcm⟩))
              clear hcm
              go_wp2_with fail
              refine wp_region_class (w0 := wr) (by kernel_rfl) (by kernel_rfl) (Below.refl _ _) ?_
              have m1 := BW.cell p1
              have m2 := BW.cell p2
              have m3 := BW.cell p3
              have m4 := BW.cell p4
              have n1 := BW.cell q1
              have n2 := BW.cell q2
              have n3 := BW.cell q3
              have n4 := BW.cell q4
              repeat (first | go_big_quiet_step ((exact calls_class (HC.out _))))
              refine wpQuiet_nil ?_
              intro w1 hb1; replace hb1 := BW.of hb1
              have HB1 := Lib.hid (HB.out.trans (hb1.mono HB.out.size))
              clear hb1 m1 m2 m3 m4 n1 n2 n3 n4
              go_wp2
              go_ret
              exact ⟨by rw [E.out]; rfl, HB1.out⟩
    · obtain rfl : k = n := by omega
      have E := Lib.hid (rightB_all (l := l) (by rw [HN.out]; exact hall.out))
      have HB := Lib.hid hb
      clear hb
      go_wp2
      go_ret
      exact ⟨by rw [E.out]; rfl, HB.out⟩
end Go.Proofs.YtjigfinpbdglnaaGreatDoor
end

section
set_option linter.unusedVariables false
set_option linter.unusedSimpArgs false
namespace Go.Proofs.YtjigfinpbdglnaaGreatDoor
open Go.RowKit

section
variable {P : Program} {Q : Exit → Act → World → Prop} {a : Act} {w : World}
/-- A function whose body holds a range over a function. -/
theorem calls_marks {f : FuncId} {fn : Func} {c : Code} {args : Array Value} {R : Ending → World → Prop} (hf : P.funcs[f]? = some fn) (hb : fn.body = some c)
    (h : c.wp P (bodyPostM Fence.wide 9 P fn R) { tmps := args ++ Array.replicate (fn.ntmps - args.size) undef, defers := [] } w) : Calls P f args w R :=
  callsIn_wide.1 (callsIn_of_wp_marks (F := Fence.wide) (n := 9) hf hb trivial (wpIn_wide.2 h) rfl)
theorem ret_m0 {fn : Func} {R : Ending → World → Prop} {tmps : Array Value} {v : Value} (hr : (results fn tmps).run P w = .ok v w) (h : R (.returned v) w) : bodyPostM Fence.wide 9 P fn R .ret { tmps := tmps, defers := [] } w := ⟨v, hr, h⟩
theorem ret_m1 {fn : Func} {R : Ending → World → Prop} {tmps : Array Value} {v : Value} {D : Nat} (hD : w.heap[D]? = some (.deferred (some []))) (hr : (results fn tmps).run P (w.putObj D (.deferred none)) = .ok v (w.putObj D (.deferred none)))
    (h : R (.returned v) (w.putObj D (.deferred none))) : bodyPostM Fence.wide 9 P fn R .ret { tmps := tmps, defers := [{ target := .collected D, args := #[] }] } w :=
  ⟨by simp, .inl ⟨D, _, rfl, run_takeDeferred hD, v, hr, h⟩⟩
theorem end_m1 {fn : Func} {R : Ending → World → Prop} {tmps : Array Value} {v : Value} {D : Nat} (hD : w.heap[D]? = some (.deferred (some []))) (hr : (results fn tmps).run P (w.putObj D (.deferred none)) = .ok v (w.putObj D (.deferred none)))
    (h : R (.returned v) (w.putObj D (.deferred none))) : bodyPostM Fence.wide 9 P fn R .normal { tmps := tmps, defers := [{ target := .collected D, args := #[] }] } w :=
  ⟨by simp, .inl ⟨D, _, rfl, run_takeDeferred hD, v, hr, h⟩⟩
theorem range_wp {α : Type} {g : Operand} {ps : Array Tmp} {assign body : Code} {gf : Nat} {lb : Array Value} (hg : a.eval g = .func (.func gf) #[] lb) (eg : ∀ args w, (callFunc gf args).run P w = .ok (.enter gf args) w)
    {encs : α → Array Value} {Kp : World → World → Prop} {S Sp : List α → Prop} {N : Nat} {w0 : World} (hseq : SeqStopsK Fence.wide 4 P gf lb encs Kp S Sp N w0)
    (hKt : ∀ {A B C : World}, Kp A B → Kp B C → Kp A C) (hKb : ∀ (W : World) (l : Nat) (o o' : Obj), w.heap.size ≤ l → W.heap[l]? = some o → o.isCells = false → o.isWalk = false → Kp W (W.putObj l o')) (hb0 : Below w0.heap.size w0 w) (hps : ∀ x, (encs x).size = ps.size)
    (I : List α → World → Prop) (Ix : Code → List α → World → Prop) (hI : OwnFrom w.heap.size I) (hIx : ∀ c, OwnFrom w.heap.size (Ix c)) (h0 : I [] w)
    (h : ∃ a₁ : α → Act, (∀ (l : Nat) (x : α) (W : World) (K : Act → World → Prop), K (a₁ x) W →
        assign.wpIn (inR l) 3 P (Exit.then K (fun _ _ _ => False)) { tmps := (ps.zip (encs x)).foldl (fun t (p, v) => t.setIfInBounds p v) a.tmps, defers := [] } W) ∧
      (∀ (l : Nat) (pre : List α) (x : α) (W : World), I pre W → pre.length < N → body.wpIn (inR l) 3 P (ownPostK Kp I Ix (pre ++ [x]) W) (a₁ x) W))
    (hdone : ∀ (D : Nat) (xs : List α) (W : World), w.heap.size ≤ D → S xs → I xs W → W.heap[D]? = some (.deferred (some [])) → Q .normal { a with defers := { target := .collected D, args := #[] } :: a.defers } W)
    (hstop : ∀ (D : Nat) (c : Code) (pre : List α) (W : World), w.heap.size ≤ D → Sp pre → Ix c pre W → W.heap[D]? = some (.deferred (some [])) → c.wp P Q { a with defers := { target := .collected D, args := #[] } :: a.defers } W) :
    (Code.rangeFunc g ps assign body).wp P Q a w := by
  obtain ⟨a₁, h1, h2⟩ := h
  exact wpIn_wide.1 (wpIn_rangeFunc_ownF (F := Fence.wide) (n := 5) rfl (by omega) hg trivial eg hseq hKt hKb hb0 hps I Ix hI hIx h0 a₁ h1 h2 hdone (fun D c pre W h1 h2 h3 h4 => wpIn_wide.2 (hstop D c pre W h1 h2 h3 h4)))
theorem below_alloc1 (w : World) (o : Obj) : Below w.heap.size w (w.alloc o) := (Below.refl _ _).alloc (Nat.le_refl _) o
/-- Behind the turn of the block for deferred calls. -/
theorem below_shut {W : World} {n D : Nat} {o o' : Obj} (hn : n ≤ D) (hD : W.heap[D]? = some o) : Below n W (W.putObj D o') :=
  (Below.refl n W).grown (grownBy_putObj' W D o') (by have := (Array.getElem?_eq_some_iff.1 hD).1; omega) (fun k e => by cases e; omega)
end
end Go.Proofs.YtjigfinpbdglnaaGreatDoor
end

section
set_option linter.unusedVariables false
set_option linter.unusedSimpArgs false
namespace Go.Proofs.YtjigfinpbdglnaaGreatDoor
open Go.RowKit

section
variable {P : Program} {md : Region.Mode} {ops : Array Oper} {Q : Exit → Act → World → Prop} {S : World → Prop} {n g : Nat}

/-- The heads in whatever order, S holding behind each. -/
def anyM (P : Program) (md : Region.Mode) (ops : Array Oper) (Q : Exit → Act → World → Prop) (S : World → Prop) (n : Nat) (L : Array Bool → Act → World → Prop) : Nat → Array Bool → Act → World → Prop
  | 0, listed, a, w => L listed a w
  | f + 1, listed, a, w => Region.ready md ops listed ≠ [] ∧ ∀ i ∈ Region.ready md ops listed, i < n ∧ wpOp P ops Q i (fun a' w' => S w' ∧ anyM P md ops Q S n L f (listed.setIfInBounds i true) a' w') a w
theorem anyM_head {L : Array Bool → Act → World → Prop} (hL : ∀ listed a w, L listed a w → wpAny P md ops Q g listed a w) :
    ∀ (f : Nat) (listed : Array Bool) (a : Act) (w : World), anyM P md ops Q S n L f listed a w → wpAny P md ops Q (f + g) listed a w
  | 0, listed, a, w, h => by rw [Nat.zero_add]; exact hL _ _ _ h
  | f + 1, listed, a, w, h => by
    rw [show f + 1 + g = (f + g) + 1 by omega]
    exact ⟨fun h0 => absurd h0 h.1, fun i hi => wpOp_mono (fun a' w' h' => anyM_head hL f _ a' w' h'.2) (h.2 i hi).2⟩
theorem anyM_first {i : Nat} {oi : Oper} {v : Value} {L : Array Bool → Act → World → Prop} (hi : ops[i]? = some oi) (hsel : ∀ (j : Nat) (o : Oper) cs b, ops[j]? = some o → o.op ≠ .select cs b)
    (hQ : ∀ c a w, Q (.panic c) (a.put oi.dst v) w → Q (.panic c) a w)
    (hs : Region.sinkB md ops n = true) (hc : Region.chainB md ops n = true) (hn : n < ops.size) (hin : i < n)
    (hdone : ∀ listed a w, L listed a w → ∀ j ∈ Region.ready md ops listed, n ≤ j) :
    ∀ (f : Nat) (listed : Array Bool) (a : Act) (w : World), HeadInv md ops n listed →
      (∀ j oj, ops[j]? = some oj → j ≠ i → listed.getD j true = false → (∀ e ∈ oj.after, Region.binds md e = true → e.on ≠ i) → oi.apart ops oj = true) →
      i ∈ Region.ready md ops listed → YieldsIf P ops S oi v a → S w →
      anyM P md ops Q S n L f (listed.setIfInBounds i true) (a.put oi.dst v) w → anyM P md ops Q S n L (f + 1) listed a w := by
  intro f
  induction f with
  | zero =>
    intro listed a w inv _ hr hy hS H
    have hun := (mem_ready.1 hr).1
    refine ⟨fun h => (by rw [h] at hr; cases hr), fun j hj => ?_⟩
    have hjn : j < n := by
      rcases Nat.lt_or_ge j n with h | h
      · exact h
      · exact absurd hj (tail_waits hs hc hn inv _ i rfl hin hun j h)
    refine ⟨hjn, ?_⟩
    by_cases hji : j = i
    · subst hji; exact hy.wpOp hi hS ⟨hS, H⟩
    · have := hdone _ _ _ H j (ready_mono hj hji)
      omega
  | succ f ih =>
    intro listed a w inv hfree hr hy hS H
    have hun := (mem_ready.1 hr).1
    refine ⟨fun h => (by rw [h] at hr; cases hr), fun j hj => ?_⟩
    have hjn : j < n := by
      rcases Nat.lt_or_ge j n with h | h
      · exact h
      · exact absurd hj (tail_waits hs hc hn inv _ i rfl hin hun j h)
    refine ⟨hjn, ?_⟩
    by_cases hji : j = i
    · subst hji; exact hy.wpOp hi hS ⟨hS, H⟩
    · have h1 := (H.2 j (ready_mono hj hji)).2
      obtain ⟨hjun, oj, hoj, hall⟩ := mem_ready.1 hj
      have hnot : ∀ e ∈ oj.after, Region.binds md e = true → e.on ≠ i := fun e he hb heq => by
        have h1 := hall e he hb
        rw [heq, getD_both hun] at h1
        cases h1
      have h2 := wpOp_putIf hoj (hfree j oj hoj hji hjun hnot) (fun cs b => hsel i oi cs b hi) (fun cs b => hsel j oj cs b hoj) hQ hy h1
      have hfree' : ∀ k ok, ops[k]? = some ok → k ≠ i → (listed.setIfInBounds j true).getD k true = false →
          (∀ e ∈ ok.after, Region.binds md e = true → e.on ≠ i) → oi.apart ops ok = true := fun k ok hk hki hun hno => by
        refine hfree k ok hk hki ?_ hno
        by_cases hjk : j = k
        · subst hjk; exact hjun
        · rw [getD_set_ne true hjk] at hun; exact hun
      refine wpOp_mono (fun a' w' h3 => ⟨h3.2.1, ih (listed.setIfInBounds j true) a' w' (inv.set hj hjn) hfree' (ready_mono hr (Ne.symm hji)) h3.1 h3.2.1 ?_⟩) h2
      rw [Array.setIfInBounds_comm _ _ hji]
      exact h3.2.2

/-- Loads, each told in every world of S. -/
def heldL (P : Program) (ops : Array Oper) (S : World → Prop) (R : Act → Prop) : List Oper → Act → Prop
  | [], a => R a
  | o :: rest, a => ∃ v, YieldsIf P ops S o v a ∧ heldL P ops S R rest (a.put o.dst v)
theorem held_nil {R : Act → Prop} {a : Act} (h : R a) : heldL P ops S R [] a := h
theorem held_step {R : Act → Prop} {a : Act} {o : Oper} {rest : List Oper} {v : Value} (hw : Region.wanted o (yielded ops a.tmps) = true) (hv : ∀ w, S w → (execOp a.eval o).run P w = .ok (.value v) w) (h : heldL P ops S R rest (a.put o.dst v)) :
    heldL P ops S R (o :: rest) a := ⟨v, .inl ⟨hw, hv⟩, h⟩
theorem held_skip {R : Act → Prop} {a : Act} {o : Oper} {rest : List Oper} (hw : Region.wanted o (yielded ops a.tmps) = false) (h : heldL P ops S R rest (a.put o.dst undef)) : heldL P ops S R (o :: rest) a := ⟨undef, .inr ⟨hw, rfl⟩, h⟩
/-- Steps one behind the other, S holding behind each. -/
def walkS (P : Program) (ops : Array Oper) (Q : Exit → Act → World → Prop) (S : World → Prop) (R : Act → World → Prop) : List Oper → Act → World → Prop
  | [], a, w => R a w
  | o :: rest, a, w => Region.wanted o (yielded ops a.tmps) = true ∧ o.wp P a w (fun a' w' => S w' ∧ walkS P ops Q S R rest a' w') Q
theorem walkS_nil {R : Act → World → Prop} {a : Act} {w : World} (h : R a w) : walkS P ops Q S R [] a w := h
theorem walkS_step {R : Act → World → Prop} {a : Act} {w : World} {o : Oper} {rest : List Oper} (hw : Region.wanted o (yielded ops a.tmps) = true)
    (h : ∀ K : Act → World → Prop, (∀ a w, S w → walkS P ops Q S R rest a w → K a w) → o.wp P a w K Q) : walkS P ops Q S R (o :: rest) a w :=
  ⟨hw, h _ fun _ _ h1 h2 => ⟨h1, h2⟩⟩
theorem anyM_seq : ∀ (l : List Oper) (k : Nat) (listed : Array Bool) (a : Act) (w : World) {R : Act → World → Prop}, (∀ j, j < l.length → l[j]? = ops[k + j]?) → k + l.length = n →
    Region.seqB md ops (l.length + g) k listed = true → walkS P ops Q S R l a w → anyM P md ops Q S n (fun listed a w => Region.seqB md ops g n listed = true ∧ R a w) l.length listed a w
  | [], k, listed, a, w, R, _, hk, hB, h => by
    have : k = n := by simpa using hk
    subst this
    exact ⟨by simpa using hB, h⟩
  | o :: l, k, listed, a, w, R, hl, hk, hB, h => by
    have h0 : ops[k]? = some o := by simpa using (hl 0 (by simp)).symm
    rw [List.length_cons, show l.length + 1 + g = (l.length + g) + 1 by omega] at hB
    simp only [Region.seqB, Bool.and_eq_true, decide_eq_true_eq] at hB
    simp only [List.length_cons] at hk
    refine ⟨fun h1 => (by rw [hB.1] at h1; cases h1), fun i hi => ?_⟩
    rw [hB.1] at hi
    have hik : i = k := by simpa using hi
    subst hik
    refine ⟨by omega, ?_⟩
    unfold wpOp
    simp only [h0]
    rw [if_pos h.1]
    exact .inl (Oper.wp_mono (fun a' w' h' => ⟨h'.1, anyM_seq l (i + 1) _ a' w' (fun j hj => by have := hl (j + 1) (by simp; omega); simpa [Nat.add_assoc, Nat.add_comm 1 j] using this) (by omega) hB.2 h'.2⟩) h.2)
def readsHead (md : Region.Mode) (ops : Array Oper) (g : Nat) : Nat → Nat → Array Bool → Bool
  | 0, k, listed => Region.seqB md ops g k listed
  | f + 1, k, listed => (Region.ready md ops listed).contains k && Region.free md ops listed k && readsHead md ops g f (k + 1) (listed.setIfInBounds k true)
theorem anyM_lex (hsel : Region.noSelect ops = true) (hQ : ∀ c a d v w, Q (.panic c) (Act.put a d v) w → Q (.panic c) a w) (hs : Region.sinkB md ops n = true) (hc : Region.chainB md ops n = true) (hn : n < ops.size)
    {m : List Oper} {w : World} {R : Act → World → Prop} (hS : S w) :
    ∀ (l : List Oper) (k : Nat) (listed : Array Bool) (a : Act), (∀ j, j < l.length → l[j]? = ops[k + j]?) → (∀ j, j < m.length → m[j]? = ops[k + l.length + j]?) → k + l.length + m.length = n → HeadInv md ops n listed →
    readsHead md ops (m.length + g) l.length k listed = true → heldL P ops S (fun a' => walkS P ops Q S R m a' w) l a →
    anyM P md ops Q S n (fun listed a w => Region.seqB md ops g n listed = true ∧ R a w) (l.length + m.length) listed a w
  | [], k, listed, a, _, hm, hk, _, hB, h => by
    simp only [List.length_nil, Nat.zero_add, Nat.add_zero] at hm hk ⊢
    exact anyM_seq m k listed a w hm hk hB h
  | o :: l, k, listed, a, hl, hm, hk, inv, hB, h => by
    have h0 : ops[k]? = some o := by simpa using (hl 0 (by simp)).symm
    simp only [List.length_cons, readsHead, Bool.and_eq_true] at hB
    obtain ⟨⟨hr, hf⟩, hB'⟩ := hB
    simp only [List.length_cons] at hk hm
    have hkn : k < n := by omega
    have hr' : k ∈ Region.ready md ops listed := by simpa using hr
    obtain ⟨v, hy, hK⟩ := h
    rw [List.length_cons, show l.length + 1 + m.length = (l.length + m.length) + 1 by omega]
    exact anyM_first h0 (Region.noSelect_spec hsel) (fun c a w => hQ c a _ _ w) hs hc hn hkn (fun listed' a' w' hL => seqB_ready hL.1) (l.length + m.length) listed a w inv (Region.free_spec h0 hf) hr' hy hS
      (anyM_lex hsel hQ hs hc hn hS l (k + 1) _ _ (fun j hj => by have := hl (j + 1) (by simp; omega); simpa [Nat.add_assoc, Nat.add_comm 1 j] using this)
        (fun j hj => by rw [hm j hj, show k + 1 + l.length + j = k + (l.length + 1) + j by omega]) (by omega) (inv.set hr' hkn) hB' hK)
/-- The first r operations are loads, then m that follow one another; behind n nothing waits any more. -/
def readsB (md : Region.Mode) (ops : Array Oper) (r n : Nat) : Bool :=
  Region.noSelect ops && decide (n < ops.size) && decide (r ≤ n) && Region.sinkB md ops n && Region.chainB md ops n && readsHead md ops (n - r + (ops.size - n)) r 0 (Array.replicate ops.size false)
theorem any_reads {l : List Oper} {a : Act} {w : World} (r n : Nat) (hQ : ∀ c a d v w, Q (.panic c) (Act.put a d v) w → Q (.panic c) a w) (hB : readsB .any l.toArray r n = true) (S : World → Prop) (hS : S w)
    (h : heldL P l.toArray S (fun a' => walkS P l.toArray Q S (fun a w => wpList P l.toArray Q (l.drop n) a w) ((l.take n).drop r) a' w) (l.take r) a) : wpAny P .any l.toArray Q l.toArray.size (Array.replicate l.toArray.size false) a w := by
  simp only [readsB, Bool.and_eq_true, decide_eq_true_eq] at hB
  obtain ⟨⟨⟨⟨⟨hsel, hn⟩, hrn⟩, hs⟩, hc⟩, hlex⟩ := hB
  have hn' : n < l.length := by simpa using hn
  have htl : (l.take r).length = r := by simp; omega
  have hml : ((l.take n).drop r).length = n - r := by simp; omega
  have hdl : (l.drop n).length = l.toArray.size - n := by simp
  have inv0 : HeadInv .any l.toArray n (Array.replicate l.toArray.size false) :=
    ⟨by simp, fun j oj _ hl => (by rw [getD_replicate_false] at hl; cases hl), fun t _ ht => getD_in (by simpa using ht) (getD_replicate_false _ _)⟩
  have H := anyM_lex (P := P) (md := .any) (g := l.toArray.size - n) hsel hQ hs hc hn hS (l.take r) 0 _ a (fun j hj => by
    have hj' : j < r := by rw [htl] at hj; exact hj
    simp [hj']) (fun j hj => by
    rw [hml] at hj
    rw [htl, Nat.zero_add, List.getElem?_drop, List.getElem?_take, if_pos (by omega)]; simp) (by rw [htl, hml]; omega) inv0 (by rw [htl, hml]; exact hlex) h
  have := anyM_head (g := l.toArray.size - n) (fun listed a' w' hL => by
    have := wpAny_of_seq (md := .any) (Q' := Q) (l.drop n) n listed a' w' (fun j => by simp [List.getElem?_drop]) (by rw [hdl]; exact hL.1) hL.2
    rwa [hdl] at this) _ _ _ _ H
  rw [htl, hml, show r + (n - r) + (l.toArray.size - n) = l.toArray.size by omega] at this
  exact this
theorem wp_region_reads {id : Nat} {l : List Oper} {a : Act} {w : World} (r n : Nat) (hQ : ∀ c a d v w, Q (.panic c) (Act.put a d v) w → Q (.panic c) a w) (hm : P.follows .mixedOrders = true) (hB : readsB .any l.toArray r n = true) (S : World → Prop) (hS : S w.drew)
    (h : heldL P l.toArray S (fun a' => walkS P l.toArray Q S (fun a w => wpList P l.toArray Q (l.drop n) a w) ((l.take n).drop r) a' w.drew) (l.take r) a) : (Code.region id l.toArray true).wp P Q a w :=
  wp_region_any hm (any_reads r n hQ hB S hS h)
theorem round_reads {id lr k : Nat} {l : List Oper} {a : Act} {w : World} (r n : Nat) (hL : ¬ LetsOut Q) (hQ : ∀ c a d v w, Q (.panic c) (Act.put a d v) w → Q (.panic c) a w) (hm : P.follows .mixedOrders = true) (hB : readsB .any l.toArray r n = true) (hnd : l.toArray.all noDefer = true) (S : World → Prop) (hS : S w.drew)
    (h : heldL P l.toArray S (fun a' => walkS P l.toArray Q S (fun a w => wpList P l.toArray Q (l.drop n) a w) ((l.take n).drop r) a' w.drew) (l.take r) a) : (Code.region id l.toArray true).wpIn (inR lr) k P Q a w :=
  wpIn_region_any hm (any_in hL hnd _ _ _ _ (any_reads r n hQ hB S hS h))
end
end Go.Proofs.YtjigfinpbdglnaaGreatDoor
end

section
set_option linter.unusedVariables false
set_option linter.unusedSimpArgs false
namespace Go.Proofs.YtjigfinpbdglnaaGreatDoor
open Go.RowKit

section
variable {P : Program} {md : Region.Mode} {ops : Array Oper} {Q : Exit → Act → World → Prop} {S : World → Prop}

def inTail (ts : List Nat) (j : Nat) : Bool := ts.contains j
/-- What is listed is closed; nothing of the tail is listed. -/
structure HInv (md : Region.Mode) (ops : Array Oper) (l0 : Array Bool) (ts : List Nat) (listed : Array Bool) : Prop where
  size : listed.size = ops.size
  closed : ∀ j oj, ops[j]? = some oj → listed.getD j false = true → ∀ e ∈ oj.after, Region.binds md e = true → listed.getD e.on false = true
  tail : ∀ t, inTail ts t = true → t < ops.size → listed.getD t true = false
  base : ∀ j, l0.getD j false = true → listed.getD j false = true
theorem HInv.set {l0 : Array Bool} {ts : List Nat} {i : Nat} {listed : Array Bool} (inv : HInv md ops l0 ts listed) (hi : i ∈ Region.ready md ops listed) (hin : inTail ts i = false) : HInv md ops l0 ts (listed.setIfInBounds i true) := by
  obtain ⟨_, oi, hoi, hall⟩ := mem_ready.1 hi
  refine ⟨by simp [inv.size], fun j oj hj hl e he hb => ?_, fun t ht ht' => by rw [getD_set_ne true (fun e => by rw [e, ht] at hin; cases hin)]; exact inv.tail t ht ht', fun j hj => getD_set_true (inv.base j hj)⟩
  by_cases hij : i = j
  · subst hij
    have : oj = oi := Option.some.inj (hj.symm.trans hoi)
    subst this
    exact getD_set_true (hall e he hb)
  · rw [getD_set_ne false hij] at hl
    exact getD_set_true (inv.closed j oj hj hl e he hb)
/-- Each head (what is neither listed at the start nor of the tail) is waited for by a later head or by the tail's first. -/
def sink2 (md : Region.Mode) (ops : Array Oper) (l0 : Array Bool) (ts : List Nat) (t0 : Nat) : Bool :=
  (List.range ops.size).all fun i => l0.getD i false || inTail ts i || (List.range ops.size).any fun j => decide (i < j) && !l0.getD j false && (!inTail ts j || decide (j = t0)) && Region.waitsFor md ops j i
/-- Each of the tail but its first waits for another one of the tail. -/
def chain2 (md : Region.Mode) (ops : Array Oper) (ts : List Nat) (t0 : Nat) : Bool :=
  ts.all fun t => decide (t = t0) || ts.any fun u => decide (u < ops.size) && Region.waitsFor md ops t u
theorem tail_waits2 {l0 : Array Bool} {ts : List Nat} {t0 : Nat} {listed : Array Bool} (hs : sink2 md ops l0 ts t0 = true) (hc : chain2 md ops ts t0 = true) (inv : HInv md ops l0 ts listed) :
    ∀ (d i : Nat), ops.size - i = d → i < ops.size → inTail ts i = false → listed.getD i true = false → ∀ t, inTail ts t = true → t ∉ Region.ready md ops listed := by
  intro d
  induction d using Nat.strongRecOn with
  | _ d ih =>
    intro i hd hi hnt hun t ht hr
    obtain ⟨_, ot, hot, hall⟩ := mem_ready.1 hr
    have hi0 : l0.getD i false = false := by
      cases e : l0.getD i false with
      | false => rfl
      | true => have := inv.base i e; rw [getD_both hun] at this; cases this
    by_cases htn : t = t0
    · subst htn
      have h1 := List.all_eq_true.1 hs i (List.mem_range.2 hi)
      rw [hi0, hnt, Bool.false_or, Bool.false_or] at h1
      obtain ⟨j, hj, hj2⟩ := List.any_eq_true.1 h1
      simp only [Bool.and_eq_true, Bool.or_eq_true, decide_eq_true_eq, Bool.not_eq_true'] at hj2
      obtain ⟨⟨⟨hij, hj0⟩, hjt⟩, hw⟩ := hj2
      obtain ⟨oj, hoj, e, he, hb, hon⟩ := Region.waitsFor_spec hw
      have hjs : j < ops.size := List.mem_range.1 hj
      by_cases hjt2 : j = t
      · subst hjt2
        have : oj = ot := Option.some.inj (hoj.symm.trans hot)
        subst this
        have h2 := hall e he hb
        rw [hon, getD_both hun] at h2
        cases h2
      · have hjn : inTail ts j = false := by
          rcases hjt with h | h
          · exact h
          · exact absurd h hjt2
        cases hl : listed.getD j false with
        | true =>
          have h2 := inv.closed j oj hoj hl e he hb
          rw [hon, getD_both hun] at h2
          cases h2
        | false => exact ih (ops.size - j) (by omega) j rfl hjs hjn (getD_in (by rw [inv.size]; exact hjs) hl) t ht hr
    · have h1 := List.all_eq_true.1 hc t (by unfold inTail at ht; simpa using ht)
      rw [Bool.or_eq_true, decide_eq_true_eq] at h1
      rcases h1 with h1 | h1
      · exact htn h1
      · obtain ⟨u, hu, hu2⟩ := List.any_eq_true.1 h1
        simp only [Bool.and_eq_true, decide_eq_true_eq] at hu2
        obtain ⟨o', ho', e, he, hb, hon⟩ := Region.waitsFor_spec hu2.2
        have : o' = ot := Option.some.inj (ho'.symm.trans hot)
        subst this
        have h2 := hall e he hb
        rw [hon, getD_both (inv.tail u (by unfold inTail; simpa using hu) hu2.1)] at h2
        cases h2
/-- The heads in whatever order, S holding behind each. -/
def anyT (P : Program) (md : Region.Mode) (ops : Array Oper) (Q : Exit → Act → World → Prop) (S : World → Prop) (ts : List Nat) (L : Array Bool → Act → World → Prop) : Nat → Array Bool → Act → World → Prop
  | 0, listed, a, w => L listed a w
  | f + 1, listed, a, w => Region.ready md ops listed ≠ [] ∧ ∀ i ∈ Region.ready md ops listed, inTail ts i = false ∧ wpOp P ops Q i (fun a' w' => S w' ∧ anyT P md ops Q S ts L f (listed.setIfInBounds i true) a' w') a w
theorem anyT_head {g : Nat} {ts : List Nat} {L : Array Bool → Act → World → Prop} (hL : ∀ listed a w, L listed a w → wpAny P md ops Q g listed a w) :
    ∀ (f : Nat) (listed : Array Bool) (a : Act) (w : World), anyT P md ops Q S ts L f listed a w → wpAny P md ops Q (f + g) listed a w
  | 0, listed, a, w, h => by rw [Nat.zero_add]; exact hL _ _ _ h
  | f + 1, listed, a, w, h => by
    rw [show f + 1 + g = (f + g) + 1 by omega]
    exact ⟨fun h0 => absurd h0 h.1, fun i hi => wpOp_mono (fun a' w' h' => anyT_head hL f _ a' w' h'.2) (h.2 i hi).2⟩
theorem anyT_first {l0 : Array Bool} {ts : List Nat} {t0 i : Nat} {oi : Oper} {v : Value} {L : Array Bool → Act → World → Prop} (hi : ops[i]? = some oi) (hsel : ∀ (j : Nat) (o : Oper) cs b, ops[j]? = some o → o.op ≠ .select cs b)
    (hQ : ∀ c a w, Q (.panic c) (a.put oi.dst v) w → Q (.panic c) a w)
    (hs : sink2 md ops l0 ts t0 = true) (hc : chain2 md ops ts t0 = true) (hin : inTail ts i = false)
    (hdone : ∀ listed a w, L listed a w → ∀ j ∈ Region.ready md ops listed, inTail ts j = true) :
    ∀ (f : Nat) (listed : Array Bool) (a : Act) (w : World), HInv md ops l0 ts listed →
      (∀ j oj, ops[j]? = some oj → j ≠ i → listed.getD j true = false → (∀ e ∈ oj.after, Region.binds md e = true → e.on ≠ i) → oi.apart ops oj = true) →
      i ∈ Region.ready md ops listed → YieldsIf P ops S oi v a → S w →
      anyT P md ops Q S ts L f (listed.setIfInBounds i true) (a.put oi.dst v) w → anyT P md ops Q S ts L (f + 1) listed a w := by
  have his : i < ops.size := (Array.getElem?_eq_some_iff.1 hi).1
  have hjn : ∀ (listed : Array Bool), HInv md ops l0 ts listed → i ∈ Region.ready md ops listed → ∀ j, j ∈ Region.ready md ops listed → inTail ts j = false := by
    intro listed inv hr j hj
    cases e : inTail ts j with
    | false => rfl
    | true => exact absurd hj (tail_waits2 hs hc inv _ i rfl his hin (mem_ready.1 hr).1 j e)
  intro f
  induction f with
  | zero =>
    intro listed a w inv _ hr hy hS H
    refine ⟨fun h => (by rw [h] at hr; cases hr), fun j hj => ⟨hjn listed inv hr j hj, ?_⟩⟩
    by_cases hji : j = i
    · subst hji; exact hy.wpOp hi hS ⟨hS, H⟩
    · have h1 := hdone _ _ _ H j (ready_mono hj hji)
      rw [hjn listed inv hr j hj] at h1
      cases h1
  | succ f ih =>
    intro listed a w inv hfree hr hy hS H
    have hun := (mem_ready.1 hr).1
    refine ⟨fun h => (by rw [h] at hr; cases hr), fun j hj => ⟨hjn listed inv hr j hj, ?_⟩⟩
    by_cases hji : j = i
    · subst hji; exact hy.wpOp hi hS ⟨hS, H⟩
    · have h1 := (H.2 j (ready_mono hj hji)).2
      obtain ⟨hjun, oj, hoj, hall⟩ := mem_ready.1 hj
      have hnot : ∀ e ∈ oj.after, Region.binds md e = true → e.on ≠ i := fun e he hb heq => by
        have h1 := hall e he hb
        rw [heq, getD_both hun] at h1
        cases h1
      have h2 := wpOp_putIf hoj (hfree j oj hoj hji hjun hnot) (fun cs b => hsel i oi cs b hi) (fun cs b => hsel j oj cs b hoj) hQ hy h1
      have hfree' : ∀ k ok, ops[k]? = some ok → k ≠ i → (listed.setIfInBounds j true).getD k true = false →
          (∀ e ∈ ok.after, Region.binds md e = true → e.on ≠ i) → oi.apart ops ok = true := fun k ok hk hki hun hno => by
        refine hfree k ok hk hki ?_ hno
        by_cases hjk : j = k
        · subst hjk; exact hjun
        · rw [getD_set_ne true hjk] at hun; exact hun
      refine wpOp_mono (fun a' w' h3 => ⟨h3.2.1, ih (listed.setIfInBounds j true) a' w' (inv.set hj (hjn listed inv hr j hj)) hfree' (ready_mono hr (Ne.symm hji)) h3.1 h3.2.1 ?_⟩) h2
      rw [Array.setIfInBounds_comm _ _ hji]
      exact h3.2.2
/-- One behind the other. -/
def seqL (md : Region.Mode) (ops : Array Oper) : List Nat → Array Bool → Bool
  | [], listed => (Region.ready md ops listed).isEmpty
  | k :: ks, listed => decide (Region.ready md ops listed = [k]) && seqL md ops ks (listed.setIfInBounds k true)
/-- The operations with these numbers. -/
def opsAt (l : List Oper) (ks : List Nat) : List Oper := ks.filterMap (fun k => l[k]?)
theorem wpAny_seqL : ∀ (l : List Oper) (ks : List Nat) (listed : Array Bool) (a : Act) (w : World), seqL md l.toArray ks listed = true → (∀ k ∈ ks, k < l.length) → wpList P l.toArray Q (opsAt l ks) a w → wpAny P md l.toArray Q ks.length listed a w
  | l, [], _, _, _, hB, _, h => ⟨by simpa [seqL] using hB, h⟩
  | l, k :: ks, listed, a, w, hB, hk, h => by
    simp only [seqL, Bool.and_eq_true, decide_eq_true_eq] at hB
    have hkl := hk k (by simp)
    refine ⟨fun h1 => (by rw [hB.1] at h1; cases h1), fun i hi => ?_⟩
    rw [hB.1] at hi
    have hik : i = k := by simpa using hi
    subst hik
    have h' : wpList P l.toArray Q (l[i] :: opsAt l ks) a w := by
      unfold opsAt at h
      rw [List.filterMap_cons, List.getElem?_eq_getElem hkl] at h
      exact h
    have hw : wpOp P l.toArray Q i (wpList P l.toArray Q (opsAt l ks)) a w := by
      unfold wpOp
      simp only [List.getElem?_toArray, List.getElem?_eq_getElem hkl]
      exact h'
    exact wpOp_mono (fun a' w' h2 => wpAny_seqL l ks _ a' w' hB.2 (fun j hj => hk j (by simp [hj])) h2) hw
theorem anyT_seq {l : List Oper} {ts : List Nat} {R : Act → World → Prop} : ∀ (ms : List Nat) (listed : Array Bool) (a : Act) (w : World), seqL md l.toArray (ms ++ ts) listed = true → (∀ k ∈ ms, k < l.length ∧ inTail ts k = false) → walkS P l.toArray Q S R (opsAt l ms) a w →
    anyT P md l.toArray Q S ts (fun listed a w => seqL md l.toArray ts listed = true ∧ R a w) ms.length listed a w
  | [], _, _, _, hB, _, h => ⟨hB, h⟩
  | k :: ms, listed, a, w, hB, hk, h => by
    simp only [List.cons_append, seqL, Bool.and_eq_true, decide_eq_true_eq] at hB
    have hkl := hk k (by simp)
    refine ⟨fun h1 => (by rw [hB.1] at h1; cases h1), fun i hi => ?_⟩
    rw [hB.1] at hi
    have hik : i = k := by simpa using hi
    subst hik
    refine ⟨hkl.2, ?_⟩
    have h' : walkS P l.toArray Q S R (l[i]'hkl.1 :: opsAt l ms) a w := by
      unfold opsAt at h
      rw [List.filterMap_cons, List.getElem?_eq_getElem hkl.1] at h
      exact h
    unfold wpOp
    simp only [List.getElem?_toArray, List.getElem?_eq_getElem hkl.1]
    rw [if_pos h'.1]
    exact .inl (Oper.wp_mono (fun a' w' h2 => ⟨h2.1, anyT_seq ms _ a' w' hB.2 (fun j hj => hk j (by simp [hj])) h2.2⟩) h'.2)
theorem seqL_ready {l : List Oper} {ts : List Nat} {listed : Array Bool} (h : seqL md l.toArray ts listed = true) : ∀ j ∈ Region.ready md l.toArray listed, inTail ts j = true := by
  cases ts with
  | nil => intro j hj; simp only [seqL, List.isEmpty_iff] at h; rw [h] at hj; cases hj
  | cons t ts =>
    intro j hj
    simp only [seqL, Bool.and_eq_true, decide_eq_true_eq] at h
    rw [h.1] at hj
    have : j = t := by simpa using hj
    subst this
    simp [inTail]
/-- Taken in turn: each may come, and nobody who could come before it touches its temporaries. -/
def takeL (md : Region.Mode) (ops : Array Oper) : List Nat → Array Bool → Bool
  | [], _ => true
  | k :: ks, listed => (Region.ready md ops listed).contains k && Region.free md ops listed k && takeL md ops ks (listed.setIfInBounds k true)
def setL (listed : Array Bool) (ks : List Nat) : Array Bool := ks.foldl (fun l k => l.setIfInBounds k true) listed
theorem anyT_lex {l : List Oper} {l0 : Array Bool} {ts ms : List Nat} {t0 : Nat} {w : World} {R : Act → World → Prop} (hsel : Region.noSelect l.toArray = true) (hQ : ∀ c a d v w, Q (.panic c) (Act.put a d v) w → Q (.panic c) a w)
    (hs : sink2 md l.toArray l0 ts t0 = true) (hc : chain2 md l.toArray ts t0 = true) (hS : S w) (hms : ∀ k ∈ ms, k < l.length ∧ inTail ts k = false) :
    ∀ (rs : List Nat) (listed : Array Bool) (a : Act), (∀ k ∈ rs, k < l.length ∧ inTail ts k = false) → HInv md l.toArray l0 ts listed → takeL md l.toArray rs listed = true → seqL md l.toArray (ms ++ ts) (setL listed rs) = true →
    heldL P l.toArray S (fun a' => walkS P l.toArray Q S R (opsAt l ms) a' w) (opsAt l rs) a → anyT P md l.toArray Q S ts (fun listed a w => seqL md l.toArray ts listed = true ∧ R a w) (rs.length + ms.length) listed a w
  | [], listed, a, _, _, _, hB, h => by
    rw [List.length_nil, Nat.zero_add]
    exact anyT_seq ms listed a w hB hms h
  | k :: rs, listed, a, hk, inv, hT, hB, h => by
    simp only [takeL, Bool.and_eq_true] at hT
    obtain ⟨⟨hr, hf⟩, hT'⟩ := hT
    have hkl := hk k (by simp)
    have h0 : l.toArray[k]? = some (l[k]'hkl.1) := by simp [hkl.1]
    have h' : heldL P l.toArray S (fun a' => walkS P l.toArray Q S R (opsAt l ms) a' w) (l[k]'hkl.1 :: opsAt l rs) a := by
      unfold opsAt at h
      rw [List.filterMap_cons, List.getElem?_eq_getElem hkl.1] at h
      exact h
    obtain ⟨v, hy, hK⟩ := h'
    rw [List.length_cons, show rs.length + 1 + ms.length = (rs.length + ms.length) + 1 by omega]
    exact anyT_first h0 (Region.noSelect_spec hsel) (fun c a w => hQ c a _ _ w) hs hc hkl.2 (fun listed' a' w' hL => seqL_ready hL.1) (rs.length + ms.length) listed a w inv (Region.free_spec h0 hf) (by simpa using hr) hy hS
      (anyT_lex hsel hQ hs hc hS hms rs _ _ (fun j hj => hk j (by simp [hj])) (inv.set (by simpa using hr) hkl.2) hT' hB hK)
theorem any_pure {l : List Oper} {R : Act → Prop} {w : World} {f : Nat} (hsel : Region.noSelect l.toArray = true) (hQ : ∀ c a d v w, Q (.panic c) (Act.put a d v) w → Q (.panic c) a w) :
    ∀ (ps : List Nat) (listed : Array Bool) (a : Act), (∀ k ∈ ps, k < l.length) → takeL md l.toArray ps listed = true → (∀ a', R a' → wpAny P md l.toArray Q f (setL listed ps) a' w) → heldL P l.toArray (fun _ => True) R (opsAt l ps) a →
    wpAny P md l.toArray Q (ps.length + f) listed a w
  | [], listed, a, _, _, hR, h => by rw [List.length_nil, Nat.zero_add]; exact hR a h
  | k :: ps, listed, a, hk, hT, hR, h => by
    simp only [takeL, Bool.and_eq_true] at hT
    obtain ⟨⟨hr, hf⟩, hT'⟩ := hT
    have hkl := hk k (by simp)
    have h0 : l.toArray[k]? = some (l[k]'hkl) := by simp [hkl]
    have h' : heldL P l.toArray (fun _ => True) R (l[k]'hkl :: opsAt l ps) a := by
      unfold opsAt at h
      rw [List.filterMap_cons, List.getElem?_eq_getElem hkl] at h
      exact h
    obtain ⟨v, hy, hK⟩ := h'
    rw [List.length_cons, show ps.length + 1 + f = (ps.length + f) + 1 by omega]
    exact wpAny_take h0 hsel hf hr (fun c a w => hQ c a _ _ w) (hy.imp (fun ⟨h1, h2⟩ => ⟨h1, fun w => h2 w trivial⟩) id) (any_pure hsel hQ ps _ _ (fun j hj => hk j (by simp [hj])) hT' hR hK)
def closedB (md : Region.Mode) (ops : Array Oper) (listed : Array Bool) : Bool := (List.range ops.size).all fun j => !listed.getD j false || match ops[j]? with
  | some oj => oj.after.all fun e => !Region.binds md e || listed.getD e.on false
  | none => true
def orderB (md : Region.Mode) (ops : Array Oper) (ps rs ms ts : List Nat) (t0 : Nat) : Bool :=
  Region.noSelect ops && takeL md ops ps (Array.replicate ops.size false) && closedB md ops (setL (Array.replicate ops.size false) ps) && ts.all (fun t => !(setL (Array.replicate ops.size false) ps).getD t true) &&
  sink2 md ops (setL (Array.replicate ops.size false) ps) ts t0 && chain2 md ops ts t0 && takeL md ops rs (setL (Array.replicate ops.size false) ps) && seqL md ops (ms ++ ts) (setL (setL (Array.replicate ops.size false) ps) rs) &&
  (ps ++ rs ++ ms ++ ts).all (fun k => decide (k < ops.size)) && (rs ++ ms).all (fun k => !inTail ts k) && decide (ps.length + (rs.length + ms.length + ts.length) = ops.size)
theorem setL_size (ks : List Nat) : ∀ listed : Array Bool, (setL listed ks).size = listed.size := by
  induction ks with
  | nil => intro l; rfl
  | cons k ks ih => intro l; simp only [setL, List.foldl_cons]; exact (ih _).trans (by simp)
/-- A region that draws, in the order ps (pure), rs (loads), ms (steps), ts (the tail, t0 first). -/
theorem any_order {l : List Oper} {a : Act} {w : World} (ps rs ms ts : List Nat) (t0 : Nat) (hQ : ∀ c a d v w, Q (.panic c) (Act.put a d v) w → Q (.panic c) a w) (hB : orderB .any l.toArray ps rs ms ts t0 = true) (S : World → Prop) (hS : S w)
    (h : heldL P l.toArray (fun _ => True) (fun a => heldL P l.toArray S (fun a' => walkS P l.toArray Q S (fun a w => wpList P l.toArray Q (opsAt l ts) a w) (opsAt l ms) a' w) (opsAt l rs) a) (opsAt l ps) a) :
    wpAny P .any l.toArray Q l.toArray.size (Array.replicate l.toArray.size false) a w := by
  simp only [orderB, Bool.and_eq_true, decide_eq_true_eq] at hB
  obtain ⟨⟨⟨⟨⟨⟨⟨⟨⟨⟨hsel, hT⟩, hcl⟩, htl⟩, hs⟩, hc⟩, hT2⟩, hsq⟩, hlt⟩, hnt⟩, hlen⟩ := hB
  have hlt' : ∀ k ∈ ps ++ rs ++ ms ++ ts, k < l.length := fun k hk => by simpa using List.all_eq_true.1 hlt k hk
  have hnt' : ∀ k ∈ rs ++ ms, inTail ts k = false := fun k hk => by simpa using List.all_eq_true.1 hnt k hk
  have key : wpAny P .any l.toArray Q (ps.length + (rs.length + ms.length + ts.length)) (Array.replicate l.toArray.size false) a w := by
   refine any_pure hsel hQ ps _ a (fun k hk => hlt' k (by simp [hk])) hT (fun a' ha' => ?_) h
   have inv : HInv .any l.toArray (setL (Array.replicate l.toArray.size false) ps) ts (setL (Array.replicate l.toArray.size false) ps) := by
     refine ⟨by rw [setL_size]; simp, fun j oj hj hl e he hb => ?_, fun t ht hts => ?_, fun _ h => h⟩
     · have h1 := List.all_eq_true.1 hcl j (List.mem_range.2 (Array.getElem?_eq_some_iff.1 hj).1)
       rw [hl, hj] at h1
       simp only [Bool.not_true, Bool.false_or] at h1
       have h2 := Array.all_eq_true'.1 h1 e he
       rw [hb] at h2
       simpa using h2
     · have := List.all_eq_true.1 htl t (by unfold inTail at ht; simpa using ht)
       simpa using this
   have H := anyT_lex (P := P) (md := .any) hsel hQ hs hc hS (fun k hk => ⟨hlt' k (by simp [hk]), hnt' k (by simp [hk])⟩) rs _ a' (fun k hk => ⟨hlt' k (by simp [hk]), hnt' k (by simp [hk])⟩) inv hT2 hsq ha'
   refine anyT_head (g := ts.length) (L := fun listed a w => seqL .any l.toArray ts listed = true ∧ wpList P l.toArray Q (opsAt l ts) a w) (fun listed a w hL => wpAny_seqL l ts listed a w hL.1 (fun k hk => hlt' k (by simp [hk])) hL.2) _ _ _ _ H
  rwa [hlen] at key
theorem wp_region_order {id : Nat} {l : List Oper} {a : Act} {w : World} (ps rs ms ts : List Nat) (t0 : Nat) (hQ : ∀ c a d v w, Q (.panic c) (Act.put a d v) w → Q (.panic c) a w) (hm : P.follows .mixedOrders = true) (hB : orderB .any l.toArray ps rs ms ts t0 = true) (S : World → Prop) (hS : S w.drew)
    (h : heldL P l.toArray (fun _ => True) (fun a => heldL P l.toArray S (fun a' => walkS P l.toArray Q S (fun a w => wpList P l.toArray Q (opsAt l ts) a w) (opsAt l ms) a' w.drew) (opsAt l rs) a) (opsAt l ps) a) : (Code.region id l.toArray true).wp P Q a w :=
  wp_region_any hm (any_order ps rs ms ts t0 hQ hB S hS h)
theorem round_order {id lr k : Nat} {l : List Oper} {a : Act} {w : World} (ps rs ms ts : List Nat) (t0 : Nat) (hL : ¬ LetsOut Q) (hQ : ∀ c a d v w, Q (.panic c) (Act.put a d v) w → Q (.panic c) a w) (hm : P.follows .mixedOrders = true) (hB : orderB .any l.toArray ps rs ms ts t0 = true) (hnd : l.toArray.all noDefer = true) (S : World → Prop) (hS : S w.drew)
    (h : heldL P l.toArray (fun _ => True) (fun a => heldL P l.toArray S (fun a' => walkS P l.toArray Q S (fun a w => wpList P l.toArray Q (opsAt l ts) a w) (opsAt l ms) a' w.drew) (opsAt l rs) a) (opsAt l ps) a) : (Code.region id l.toArray true).wpIn (inR lr) k P Q a w :=
  wpIn_region_any hm (any_in hL hnd _ _ _ _ (any_order ps rs ms ts t0 hQ hB S hS h))
end
end Go.Proofs.YtjigfinpbdglnaaGreatDoor
end

section
set_option linter.unusedVariables false
set_option linter.unusedSimpArgs false
namespace Go.Proofs.YtjigfinpbdglnaaGreatDoor
open Go.RowKit

section
variable {P : Program} {md : Region.Mode} {Q : Exit → Act → World → Prop} {S : World → Prop} {l : List Oper} {ts : List Nat}

/-- Behind the heads the tail follows in its order. -/
def tailL (P : Program) (l : List Oper) (Q : Exit → Act → World → Prop) (ts : List Nat) (listed : Array Bool) (a : Act) (w : World) : Prop :=
  seqL .any l.toArray ts listed = true ∧ wpList P l.toArray Q (opsAt l ts) a w
def stepsB (ops : Array Oper) (ts : List Nat) (t0 : Nat) : Bool :=
  Region.noSelect ops && sink2 .any ops (Array.replicate ops.size false) ts t0 && chain2 .any ops ts t0 && ts.all (fun k => decide (k < ops.size))
/-- The heads, n of them, S holding behind each; then the tail ts (t0 first). -/
theorem wp_region_steps {id : Nat} {a : Act} {w : World} (ts : List Nat) (t0 n : Nat) (hm : P.follows .mixedOrders = true) (hB : stepsB l.toArray ts t0 = true) (hn : n + ts.length = l.toArray.size)
    (S : World → Prop) (h : anyT P .any l.toArray Q S ts (tailL P l Q ts) n (Array.replicate l.toArray.size false) a w.drew) : (Code.region id l.toArray true).wp P Q a w := by
  simp only [stepsB, Bool.and_eq_true] at hB
  obtain ⟨⟨⟨hsel, hs⟩, hc⟩, hlt⟩ := hB
  have hlt' : ∀ k ∈ ts, k < l.length := fun k hk => by simpa using List.all_eq_true.1 hlt k hk
  have key := anyT_head (g := ts.length) (L := tailL P l Q ts) (fun listed a w hL => wpAny_seqL l ts listed a w hL.1 hlt' hL.2) _ _ _ _ h
  rw [hn] at key
  exact wp_region_any hm key
def hinvB (ops : Array Oper) (ts : List Nat) (listed : Array Bool) : Bool := decide (listed.size = ops.size) && closedB .any ops listed && ts.all (fun t => !listed.getD t true)
theorem hinv_of {ops : Array Oper} {listed : Array Bool} (h : hinvB ops ts listed = true) : HInv .any ops (Array.replicate ops.size false) ts listed := by
  simp only [hinvB, Bool.and_eq_true, decide_eq_true_eq] at h
  obtain ⟨⟨h1, h2⟩, h3⟩ := h
  refine ⟨h1, fun j oj hj hl e he hb => ?_, fun t ht hts => ?_, fun j hj => ?_⟩
  · have h4 := List.all_eq_true.1 h2 j (List.mem_range.2 (Array.getElem?_eq_some_iff.1 hj).1)
    rw [hl, hj] at h4
    simp only [Bool.not_true, Bool.false_or] at h4
    have h5 := Array.all_eq_true'.1 h4 e he
    rw [hb] at h5
    simpa using h5
  · have := List.all_eq_true.1 h3 t (by unfold inTail at ht; simpa using ht)
    simpa using this
  · rw [getD_replicate_false] at hj; cases hj
def pullB (ops : Array Oper) (ts : List Nat) (t0 : Nat) (rs : List Nat) (listed : Array Bool) : Bool :=
  stepsB ops ts t0 && hinvB ops ts listed && takeL .any ops rs listed && rs.all (fun k => decide (k < ops.size) && !inTail ts k)
/-- Heads that tell the same in every world of S are pulled ahead. -/
theorem anyT_pull (rs : List Nat) (t0 n : Nat) {listed : Array Bool} {a : Act} {w : World} (hQ : ∀ c a d v w, Q (.panic c) (Act.put a d v) w → Q (.panic c) a w) (hB : pullB l.toArray ts t0 rs listed = true) (hS : S w)
    (h : heldL P l.toArray S (fun a' => anyT P .any l.toArray Q S ts (tailL P l Q ts) n (setL listed rs) a' w) (opsAt l rs) a) : anyT P .any l.toArray Q S ts (tailL P l Q ts) (rs.length + n) listed a w := by
  simp only [pullB, stepsB, Bool.and_eq_true] at hB
  obtain ⟨⟨⟨⟨⟨⟨hsel, hs⟩, hc⟩, _⟩, hi⟩, hT⟩, hk⟩ := hB
  have inv := hinv_of hi
  clear hi
  induction rs generalizing listed a with
  | nil => rw [List.length_nil, Nat.zero_add]; exact h
  | cons k rs ih =>
    simp only [takeL, Bool.and_eq_true] at hT
    obtain ⟨⟨hr, hf⟩, hT'⟩ := hT
    simp only [List.all_cons, Bool.and_eq_true, decide_eq_true_eq, Bool.not_eq_true'] at hk
    obtain ⟨⟨hk1, hk2⟩, hk3⟩ := hk
    have hkl : k < l.length := by simpa using hk1
    have h0 : l.toArray[k]? = some (l[k]'hkl) := by simp [hkl]
    have h' : heldL P l.toArray S (fun a' => anyT P .any l.toArray Q S ts (tailL P l Q ts) n (setL (listed.setIfInBounds k true) rs) a' w) (l[k]'hkl :: opsAt l rs) a := by
      unfold opsAt at h
      rw [List.filterMap_cons, List.getElem?_eq_getElem hkl] at h
      exact h
    obtain ⟨v, hy, hK⟩ := h'
    rw [List.length_cons, show rs.length + 1 + n = (rs.length + n) + 1 by omega]
    exact anyT_first h0 (Region.noSelect_spec hsel) (fun c a w => hQ c a _ _ w) hs hc hk2 (fun listed' a' w' hL => seqL_ready hL.1) (rs.length + n) listed a w inv (Region.free_spec h0 hf) (by simpa using hr) hy hS
      (ih hK (List.all_eq_true.2 (by simpa using hk3)) hT' (inv.set (by simpa using hr) hk2))
theorem step_op {L : Array Bool → Act → World → Prop} {k f : Nat} {listed : Array Bool} {a : Act} {w : World} {o : Oper} (h0 : l[k]? = some o) (hw : Region.wanted o (yielded l.toArray a.tmps) = true)
    (h : ∀ K : Act → World → Prop, (∀ a w, S w → anyT P .any l.toArray Q S ts L f (listed.setIfInBounds k true) a w → K a w) → o.wp P a w K Q) :
    wpOp P l.toArray Q k (fun a' w' => S w' ∧ anyT P .any l.toArray Q S ts L f (listed.setIfInBounds k true) a' w') a w := by
  unfold wpOp
  simp only [List.getElem?_toArray, h0]
  rw [if_pos hw]
  exact .inl (h _ fun a w h1 h2 => ⟨h1, h2⟩)
/-- One comes next. -/
theorem anyT_one {L : Array Bool → Act → World → Prop} (k : Nat) {f : Nat} {listed : Array Bool} {a : Act} {w : World} {o : Oper} (h0 : l[k]? = some o) (hr : (Region.ready .any l.toArray listed == [k] && !inTail ts k) = true) (hw : Region.wanted o (yielded l.toArray a.tmps) = true)
    (h : ∀ K : Act → World → Prop, (∀ a w, S w → anyT P .any l.toArray Q S ts L f (listed.setIfInBounds k true) a w → K a w) → o.wp P a w K Q) : anyT P .any l.toArray Q S ts L (f + 1) listed a w := by
  simp only [Bool.and_eq_true, beq_iff_eq, Bool.not_eq_true'] at hr
  refine ⟨fun e => (by rw [hr.1] at e; cases e), fun i hi => ?_⟩
  rw [hr.1] at hi
  have : i = k := by simpa using hi
  subst this
  exact ⟨hr.2, step_op h0 hw h⟩
/-- Either of two may come next. -/
theorem anyT_two {L : Array Bool → Act → World → Prop} (k j : Nat) {f : Nat} {listed : Array Bool} {a : Act} {w : World} {o o' : Oper} (h0 : l[k]? = some o) (h0' : l[j]? = some o') (hr : (Region.ready .any l.toArray listed == [k, j] && !inTail ts k && !inTail ts j) = true)
    (hw : Region.wanted o (yielded l.toArray a.tmps) = true) (hw' : Region.wanted o' (yielded l.toArray a.tmps) = true)
    (h : ∀ K : Act → World → Prop, (∀ a w, S w → anyT P .any l.toArray Q S ts L f (listed.setIfInBounds k true) a w → K a w) → o.wp P a w K Q)
    (h' : ∀ K : Act → World → Prop, (∀ a w, S w → anyT P .any l.toArray Q S ts L f (listed.setIfInBounds j true) a w → K a w) → o'.wp P a w K Q) : anyT P .any l.toArray Q S ts L (f + 1) listed a w := by
  simp only [Bool.and_eq_true, beq_iff_eq, Bool.not_eq_true'] at hr
  refine ⟨fun e => (by rw [hr.1.1] at e; cases e), fun i hi => ?_⟩
  rw [hr.1.1] at hi
  have : i = k ∨ i = j := by simpa using hi
  rcases this with rfl | rfl
  · exact ⟨hr.1.2, step_op h0 hw h⟩
  · exact ⟨hr.2, step_op h0' hw' h'⟩
/-- The heads are done. -/
theorem anyT_done {listed : Array Bool} {a : Act} {w : World} (hB : seqL .any l.toArray ts listed = true) (h : wpList P l.toArray Q (opsAt l ts) a w) : anyT P .any l.toArray Q S ts (tailL P l Q ts) 0 listed a w := ⟨hB, h⟩
end
end Go.Proofs.YtjigfinpbdglnaaGreatDoor
end
