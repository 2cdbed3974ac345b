/- The reference's Right. -/
import Derived.Test.YtgcealgkhlbgmaaMmS
import Derived.Test.YtgcealgkhlbgmaaMgP
namespace Go.Proofs.Ytgcealgkhlbgmaa
open Go.RowKit
set_option linter.unusedVariables false

theorem cmp_neg (x y : Ent) : decide (Ent.cmp x y < 0) = decide (Ent.cmp x y = -1) := by
  rcases Ent.cmp_cases x y with h | h | h <;> rw [h] <;> rfl
def Ent.adj (l : List Ent) (k : Nat) : Prop := ∀ i, 1 ≤ i → i < k → Ent.cmp (nth l (i - 1)) (nth l i) = -1
instance (l : List Ent) (k : Nat) : Decidable (Ent.adj l k) := decidable_of_iff (∀ i, i < k → 1 ≤ i → Ent.cmp (nth l (i - 1)) (nth l i) = -1) ⟨fun h i h1 h2 => h i h2 h1, fun h i h1 h2 => h i h2 h1⟩
def Ent.okTo (l : List Ent) (k : Nat) : Prop := ∀ i, i < k → ¬ ((nth l i).gone = true ∧ 0 < (nth l i).val.length)
instance (l : List Ent) (k : Nat) : Decidable (Ent.okTo l k) := inferInstanceAs (Decidable (∀ i, i < k → ¬ ((nth l i).gone = true ∧ 0 < (nth l i).val.length)))
def Ent.rightB (l : List Ent) : Bool := decide (Ent.okTo l l.length) && decide (Ent.adj l l.length)
theorem cmp_ge (x y : Ent) : decide (0 ≤ Ent.cmp x y) = !decide (Ent.cmp x y = -1) := by
  rcases Ent.cmp_cases x y with h | h | h <;> rw [h] <;> rfl
/-- What is right up to k. -/
def Ent.upTo (l : List Ent) (k : Nat) : Prop := Ent.okTo l k ∧ Ent.adj l k
theorem upTo_next {l : List Ent} {k : Nat} (h : Ent.upTo l k) (h1 : ¬ ((nth l k).gone = true ∧ 0 < (nth l k).val.length)) (h2 : 1 ≤ k → Ent.cmp (nth l (k - 1)) (nth l k) = -1) : Ent.upTo l (k + 1) := by
  refine ⟨fun i hi => ?_, fun i hi1 hi => ?_⟩
  · by_cases e : i = k
    · rw [e]; exact h1
    · exact h.1 i (by omega)
  · by_cases e : i = k
    · subst e; exact h2 hi1
    · exact h.2 i hi1 (by omega)
theorem rightB_bad {l : List Ent} {k : Nat} (hk : k < l.length) (h : ((nth l k).gone = true ∧ 0 < (nth l k).val.length) ∨ (1 ≤ k ∧ Ent.cmp (nth l (k - 1)) (nth l k) ≠ -1)) : Ent.rightB l = false := by
  unfold Ent.rightB
  rcases h with h | ⟨h1, h2⟩
  · rw [decide_eq_false (fun e => e k hk h)]; rfl
  · rw [decide_eq_false (fun e : Ent.adj l l.length => h2 (e k h1 hk)), Bool.and_false]
theorem rightB_all {l : List Ent} (h : Ent.upTo l l.length) : Ent.rightB l = true := by
  unfold Ent.rightB; rw [decide_eq_true h.1, decide_eq_true h.2]; rfl
theorem rightB_spec {l : List Ent} : Ent.rightB l = true ↔ Ent.upTo l l.length := by
  unfold Ent.rightB Ent.upTo
  rw [Bool.and_eq_true, decide_eq_true_eq, decide_eq_true_eq]
set_option maxHeartbeats 8000000 in
theorem refright_any (a : Option Addr) (n c : Nat) (l : List Ent) (w : World) (h : Es w a n c l) :
    Calls Try.prog 16 #[.slice a n c] w fun e w' => e = .returned (.bool (Ent.rightB l)) ∧ Below w.heap.size w w' := by
  have hle := h.le.1
  have HN := Lib.hid h.1
  have HE := Lib.hid h
  clear h
  go_enter Try.func16, Try.ntmps16
  go_wp2
  go_loopw [3] (fun i wr => ∃ k : Nat, k ≤ n ∧ i = .int .i64 k ∧ Below w.heap.size w wr ∧ Hid (Ent.upTo l k)) (fun i _ => n - (intOf i).toNat)
  case atStart => exact ⟨0, by omega, rfl, Below.refl _ _, Lib.hid ⟨fun i h => by omega, fun i h1 h2 => by omega⟩⟩
  case round =>
    obtain ⟨k, hk, rfl, hb, hall⟩ := hrel
    by_cases hlt : k < n
    · obtain ⟨b1, o1, a1, d1, rfl, he1, hv1⟩ := (HE.out.below hb).vals hlt
      have p1 := he1.key
      have p2 := he1.seq
      have p3 := he1.gone
      have p4 := he1.val
      have hvl := hv1.le.1
      have HB := Lib.hid hb
      by_cases hbad : (nth l k).gone = true ∧ 0 < (nth l k).val.length
      · have E := Lib.hid (rightB_bad (l := l) (k := k) (by rw [HN.out]; exact hlt) (.inl hbad))
        have t1 : decide (0 < (nth l k).val.length) = true := decide_eq_true hbad.2
        rw [hbad.1] at p3
        clear he1 hv1 hb hbad
        go_wp2_with fail
        refine wp_region_class (w0 := wr) (by kernel_rfl) (by kernel_rfl) (Below.refl _ _) ?_
        have m3 := BW.cell p3
        have m4 := BW.cell p4
        repeat (first | go_big_quiet_step (fail))
        refine wpQuiet_nil ?_
        intro w1 hb1; replace hb1 := BW.of hb1
        have HB1 := Lib.hid (HB.out.trans (hb1.mono HB.out.size))
        clear hb1 m3 m4
        go_wp2
        go_ret
        exact ⟨by rw [E.out]; rfl, HB1.out⟩
      · have HNB := Lib.hid hbad
        rcases (show (nth l k).gone = false ∨ ((nth l k).gone = true ∧ decide (0 < (nth l k).val.length) = false) by
          cases hg : (nth l k).gone with
          | false => exact .inl rfl
          | true => exact .inr ⟨rfl, decide_eq_false (fun e => hbad ⟨hg, e⟩)⟩) with hg | ⟨hg, t1⟩
        all_goals
          have HG := Lib.hid hg
          rw [hg] at p3
          clear hg hbad
          by_cases hk0 : k = 0
          · have t2 : decide (0 < k) = false := decide_eq_false (by omega)
            have HU := Lib.hid (upTo_next hall.out HNB.out (fun e => by omega))
            clear he1 hv1 hb hk0
            go_wp2_with fail
            refine wp_region_class (w0 := wr) (by kernel_rfl) (by kernel_rfl) (Below.refl _ _) ?_
            have m3 := BW.cell p3
            have m4 := BW.cell p4
            repeat (first | go_big_quiet_step (fail))
            refine wpQuiet_nil ?_
            intro w1 hb1; replace hb1 := BW.of hb1
            have HB1 := Lib.hid (HB.out.trans (hb1.mono HB.out.size))
            clear hb1 m3 m4
            go_wp2
            go_roundw
            case rel => exact ⟨k + 1, by omega, by go_num, HB1.out, HU⟩
            case measure => simp [intOf]; omega
          · obtain ⟨j, rfl⟩ : ∃ j, k = j + 1 := ⟨k - 1, by omega⟩
            have t2 : decide (0 < j + 1) = true := decide_eq_true (by omega)
            obtain ⟨b2, o2, a2, d2, e2, he2, hv2⟩ := (HE.out.below hb).vals (i := j) (by omega)
            cases e2
            have z1 : IntKind.i64.wrap (((j + 1 : Nat) : Int) - 1) = (j : Int) := by rw [IntKind.wrap_i64]; omega
            have z2 : (0 : Int) ≤ (j : Int) := by omega
            have q1 := he2.key
            have q2 := he2.seq
            have q3 := he2.gone
            have q4 := he2.val
            have hc := fun W => refcmp_any (nth l j) (nth l (j + 1)) a2 a1 d2 d1 W
            unfold ev at hc
            rw [HG.out] at hc
            have HC := Lib.hid hc
            clear he1 hv1 hb he2 hv2 hc hk0
            by_cases hcm : Ent.cmp (nth l j) (nth l (j + 1)) = -1
            · have t3 : decide (0 ≤ Ent.cmp (nth l j) (nth l (j + 1))) = false := by rw [cmp_ge, decide_eq_true hcm]; rfl
              have HU := Lib.hid (upTo_next hall.out HNB.out (fun _ => hcm))
              clear hcm
              go_wp2_with fail
              refine wp_region_class (w0 := wr) (by kernel_rfl) (by kernel_rfl) (Below.refl _ _) ?_
              have m1 := BW.cell p1
              have m2 := BW.cell p2
              have m3 := BW.cell p3
              have m4 := BW.cell p4
              have n1 := BW.cell q1
              have n2 := BW.cell q2
              have n3 := BW.cell q3
              have n4 := BW.cell q4
              repeat (first | go_big_quiet_step ((exact calls_class (HC.out _))))
              refine wpQuiet_nil ?_
              intro w1 hb1; replace hb1 := BW.of hb1
              have HB1 := Lib.hid (HB.out.trans (hb1.mono HB.out.size))
              clear hb1 m1 m2 m3 m4 n1 n2 n3 n4
              go_wp2
              go_roundw
              case rel => exact ⟨j + 1 + 1, by omega, by go_num, HB1.out, HU⟩
              case measure => simp [intOf]; omega
            · have t3 : decide (0 ≤ Ent.cmp (nth l j) (nth l (j + 1))) = true := by rw [cmp_ge, decide_eq_false hcm]; rfl
              have E := Lib.hid (rightB_bad (l := l) (k := j + 1) (by rw [HN.out]; exact hlt) (.inr ⟨by omega, hcm⟩))
              clear hcm
              go_wp2_with fail
              refine wp_region_class (w0 := wr) (by kernel_rfl) (by kernel_rfl) (Below.refl _ _) ?_
              have m1 := BW.cell p1
              have m2 := BW.cell p2
              have m3 := BW.cell p3
              have m4 := BW.cell p4
              have n1 := BW.cell q1
              have n2 := BW.cell q2
              have n3 := BW.cell q3
              have n4 := BW.cell q4
              repeat (first | go_big_quiet_step ((exact calls_class (HC.out _))))
              refine wpQuiet_nil ?_
              intro w1 hb1; replace hb1 := BW.of hb1
              have HB1 := Lib.hid (HB.out.trans (hb1.mono HB.out.size))
              clear hb1 m1 m2 m3 m4 n1 n2 n3 n4
              go_wp2
              go_ret
              exact ⟨by rw [E.out]; rfl, HB1.out⟩
    · obtain rfl : k = n := by omega
      have E := Lib.hid (rightB_all (l := l) (by rw [HN.out]; exact hall.out))
      have HB := Lib.hid hb
      clear hb
      go_wp2
      go_ret
      exact ⟨by rw [E.out]; rfl, HB.out⟩
/-- Entries of the call's own and a number are told. -/
def RetEs (l : List Ent) (er : Int) (w : World) (e : Ending) (w' : World) : Prop := ∃ a n c, e = .returned (.tuple #[.slice a n c, .int .i64 er]) ∧ AccE w' w.heap.size a n c l ∧ Below w.heap.size w w'
theorem ret_es_nil {w w' : World} {er : Int} (hb : Below w.heap.size w w') : RetEs [] er w (.returned (.tuple #[.slice none 0 0, .int .i64 er])) w' := ⟨_, _, _, rfl, AccE.nil _ _, hb⟩
theorem adj_lt {l : List Ent} (h : Ent.adj l l.length) : ∀ (d i : Nat), i + d + 1 < l.length → Ent.lt (nth l i) (nth l (i + d + 1))
  | 0, i, hi => by
    have := h (i + 1) (by omega) hi
    rw [Nat.add_sub_cancel] at this
    exact Ent.cmp_lt.1 this
  | d + 1, i, hi => by
    have h1 := adj_lt h d i (by omega)
    have h2 := h (i + (d + 1) + 1) (by omega) hi
    rw [Nat.add_sub_cancel] at h2
    exact Ent.lt_trans h1 (Ent.cmp_lt.1 h2)
theorem right_pairwise {l : List Ent} (h : Ent.rightB l = true) : l.Pairwise Ent.lt := by
  rw [List.pairwise_iff_getElem]
  intro i j hi hj hij
  have := adj_lt (rightB_spec.1 h).2 (j - i - 1) i (by omega)
  rw [show i + (j - i - 1) + 1 = j by omega, nth_eq _ hi, nth_eq _ hj] at this
  exact this
end Go.Proofs.Ytgcealgkhlbgmaa
