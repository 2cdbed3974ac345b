/- The reference's Right. -/
import Derived.Test.YtchdmjnhjonddaaCgE
set_option maxRecDepth 100000
set_option linter.unusedSimpArgs false
namespace Go.Proofs.Ytchdmjnhjonddaa
open Go.RowKit
set_option linter.unusedVariables false

theorem cmp_ge (x y : Ent) : decide (0 ≤ Ent.cmp x y) = !decide (Ent.cmp x y = -1) := by
  rcases Ent.cmp_cases x y with h | h | h <;> rw [h] <;> rfl
/-- What is right up to k. -/
def Ent.upTo (l : List Ent) (k : Nat) : Prop := Ent.okTo l k ∧ Ent.adj l k
theorem upTo_next {l : List Ent} {k : Nat} (h : Ent.upTo l k) (h1 : ¬ ((nth l k).gone = true ∧ 0 < (nth l k).val.length)) (h2 : 1 ≤ k → Ent.cmp (nth l (k - 1)) (nth l k) = -1) : Ent.upTo l (k + 1) := by
  refine ⟨fun i hi => ?_, fun i hi1 hi => ?_⟩
  · by_cases e : i = k
    · rw [e]; exact h1
    · exact h.1 i (by omega)
  · by_cases e : i = k
    · subst e; exact h2 hi1
    · exact h.2 i hi1 (by omega)
theorem rightB_bad {l : List Ent} {k : Nat} (hk : k < l.length) (h : ((nth l k).gone = true ∧ 0 < (nth l k).val.length) ∨ (1 ≤ k ∧ Ent.cmp (nth l (k - 1)) (nth l k) ≠ -1)) : Ent.rightB l = false := by
  unfold Ent.rightB
  rcases h with h | ⟨h1, h2⟩
  · rw [decide_eq_false (fun e => e k hk h)]; rfl
  · rw [decide_eq_false (fun e : Ent.adj l l.length => h2 (e k h1 hk)), Bool.and_false]
theorem rightB_all {l : List Ent} (h : Ent.upTo l l.length) : Ent.rightB l = true := by
  unfold Ent.rightB; rw [decide_eq_true h.1, decide_eq_true h.2]; rfl
theorem rightB_spec {l : List Ent} : Ent.rightB l = true ↔ Ent.upTo l l.length := by
  unfold Ent.rightB Ent.upTo
  rw [Bool.and_eq_true, decide_eq_true_eq, decide_eq_true_eq]
set_option maxHeartbeats 8000000 in
theorem refright_any (a : Option Addr) (n c : Nat) (l : List Ent) (w : World) (h : Es w a n c l) :
    Calls Try.prog 8 #[.slice a n c] w fun e w' => e = .returned (.bool (Ent.rightB l)) ∧ Below w.heap.size w w' := by
  have hle := h.le.1
  have HN := Lib.hid h.1
  have HE := Lib.hid h
  clear h
  go_enter Try.func8, Try.ntmps8
  go_wp2
  go_loopw [3] (fun i wr => ∃ k : Nat, k ≤ n ∧ i = .int .i64 k ∧ Below w.heap.size w wr ∧ Hid (Ent.upTo l k)) (fun i _ => n - (intOf i).toNat)
  case atStart => exact ⟨0, by omega, rfl, Below.refl _ _, Lib.hid ⟨fun i h => by omega, fun i h1 h2 => by omega⟩⟩
  case round =>
    obtain ⟨k, hk, rfl, hb, hall⟩ := hrel
    by_cases hlt : k < n
    · obtain ⟨b1, o1, a1, d1, rfl, he1, hv1⟩ := (HE.out.below hb).vals hlt
      have p1 := he1.key
      have p2 := he1.seq
      have p3 := he1.gone
      have p4 := he1.val
      have hvl := hv1.le.1
      have HB := Lib.hid hb
      by_cases hbad : (nth l k).gone = true ∧ 0 < (nth l k).val.length
      · have E := Lib.hid (rightB_bad (l := l) (k := k) (by rw [HN.out]; exact hlt) (.inl hbad))
        have t1 : decide (0 < (nth l k).val.length) = true := decide_eq_true hbad.2
        rw [hbad.1] at p3
        clear he1 hv1 hb hbad
        go_wp2_with fail
        refine wp_region_class (w0 := wr) (by kernel_rfl) (by kernel_rfl) (Below.refl _ _) ?_
        have m3 := BW.cell p3
        have m4 := BW.cell p4
        repeat (first | go_big_quiet_step (fail))
        refine wpQuiet_nil ?_
        intro w1 hb1; replace hb1 := BW.of hb1
        have HB1 := Lib.hid (HB.out.trans (hb1.mono HB.out.size))
        clear hb1 m3 m4
        go_wp2
        go_ret
        exact ⟨by rw [E.out]; rfl, HB1.out⟩
      · have HNB := Lib.hid hbad
        rcases (show (nth l k).gone = false ∨ ((nth l k).gone = true ∧ decide (0 < (nth l k).val.length) = false) by
          cases hg : (nth l k).gone with
          | false => exact .inl rfl
          | true => exact .inr ⟨rfl, decide_eq_false (fun e => hbad ⟨hg, e⟩)⟩) with hg | ⟨hg, t1⟩
        all_goals
          have HG := Lib.hid hg
          rw [hg] at p3
          clear hg hbad
          by_cases hk0 : k = 0
          · have t2 : decide (0 < k) = false := decide_eq_false (by omega)
            have HU := Lib.hid (upTo_next hall.out HNB.out (fun e => by omega))
            clear he1 hv1 hb hk0
            go_wp2_with fail
            refine wp_region_class (w0 := wr) (by kernel_rfl) (by kernel_rfl) (Below.refl _ _) ?_
            have m3 := BW.cell p3
            have m4 := BW.cell p4
            repeat (first | go_big_quiet_step (fail))
            refine wpQuiet_nil ?_
            intro w1 hb1; replace hb1 := BW.of hb1
            have HB1 := Lib.hid (HB.out.trans (hb1.mono HB.out.size))
            clear hb1 m3 m4
            go_wp2
            go_roundw
            case rel => exact ⟨k + 1, by omega, by go_num, HB1.out, HU⟩
            case measure => simp [intOf]; omega
          · obtain ⟨j, rfl⟩ : ∃ j, k = j + 1 := ⟨k - 1, by omega⟩
            have t2 : decide (0 < j + 1) = true := decide_eq_true (by omega)
            obtain ⟨b2, o2, a2, d2, e2, he2, hv2⟩ := (HE.out.below hb).vals (i := j) (by omega)
            cases e2
            have z1 : IntKind.i64.wrap (((j + 1 : Nat) : Int) - 1) = (j : Int) := by rw [IntKind.wrap_i64]; omega
            have z2 : (0 : Int) ≤ (j : Int) := by omega
            have q1 := he2.key
            have q2 := he2.seq
            have q3 := he2.gone
            have q4 := he2.val
            have hc := fun W => refcmp_any (nth l j) (nth l (j + 1)) a2 a1 d2 d1 W
            unfold ev at hc
            rw [HG.out] at hc
            have HC := Lib.hid hc
            clear he1 hv1 hb he2 hv2 hc hk0
            by_cases hcm : Ent.cmp (nth l j) (nth l (j + 1)) = -1
            · have t3 : decide (0 ≤ Ent.cmp (nth l j) (nth l (j + 1))) = false := by rw [cmp_ge, decide_eq_true hcm]; rfl
              have HU := Lib.hid (upTo_next hall.out HNB.out (fun _ => hcm))
              clear hcm
              go_wp2_with fail
              refine wp_region_class (w0 := wr) (by kernel_rfl) (by kernel_rfl) (Below.refl _ _) ?_
              have m1 := BW.cell p1
              have m2 := BW.cell p2
              have m3 := BW.cell p3
              have m4 := BW.cell p4
              have n1 := BW.cell q1
              have n2 := BW.cell q2
              have n3 := BW.cell q3
              have n4 := BW.cell q4
              repeat (first | go_big_quiet_step ((exact calls_class (HC.out _))))
              refine wpQuiet_nil ?_
              intro w1 hb1; replace hb1 := BW.of hb1
              have HB1 := Lib.hid (HB.out.trans (hb1.mono HB.out.size))
              clear hb1 m1 m2 m3 m4 n1 n2 n3 n4
              go_wp2
              go_roundw
              case rel => exact ⟨j + 1 + 1, by omega, by go_num, HB1.out, HU⟩
              case measure => simp [intOf]; omega
            · have t3 : decide (0 ≤ Ent.cmp (nth l j) (nth l (j + 1))) = true := by rw [cmp_ge, decide_eq_false hcm]; rfl
              have E := Lib.hid (rightB_bad (l := l) (k := j + 1) (by rw [HN.out]; exact hlt) (.inr ⟨by omega, hcm⟩))
              clear hcm
              go_wp2_with fail
              refine wp_region_class (w0 := wr) (by kernel_rfl) (by kernel_rfl) (Below.refl _ _) ?_
              have m1 := BW.cell p1
              have m2 := BW.cell p2
              have m3 := BW.cell p3
              have m4 := BW.cell p4
              have n1 := BW.cell q1
              have n2 := BW.cell q2
              have n3 := BW.cell q3
              have n4 := BW.cell q4
              repeat (first | go_big_quiet_step ((exact calls_class (HC.out _))))
              refine wpQuiet_nil ?_
              intro w1 hb1; replace hb1 := BW.of hb1
              have HB1 := Lib.hid (HB.out.trans (hb1.mono HB.out.size))
              clear hb1 m1 m2 m3 m4 n1 n2 n3 n4
              go_wp2
              go_ret
              exact ⟨by rw [E.out]; rfl, HB1.out⟩
    · obtain rfl : k = n := by omega
      have E := Lib.hid (rightB_all (l := l) (by rw [HN.out]; exact hall.out))
      have HB := Lib.hid hb
      clear hb
      go_wp2
      go_ret
      exact ⟨by rw [E.out]; rfl, HB.out⟩
end Go.Proofs.Ytchdmjnhjonddaa
