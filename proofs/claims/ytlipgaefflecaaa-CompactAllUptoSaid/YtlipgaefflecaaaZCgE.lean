/- merge.Right. -/
import Derived.Test.YtlipgaefflecaaaZBase
import Derived.Lib.LazyBuf
import Derived.OrdersHeld
set_option linter.unusedVariables false
set_option linter.unusedSimpArgs false
section
set_option maxRecDepth 100000
set_option linter.unusedSimpArgs false
namespace Go.Proofs.Ytlipgaefflecaaa
open Go.RowKit
set_option linter.unusedVariables false

def Ent.okTo (l : List Ent) (k : Nat) : Prop := ∀ i, i < k → ¬ ((nth l i).gone = true ∧ 0 < (nth l i).val.length)
instance (l : List Ent) (k : Nat) : Decidable (Ent.okTo l k) := inferInstanceAs (Decidable (∀ i, i < k → ¬ ((nth l i).gone = true ∧ 0 < (nth l i).val.length)))
def Ent.rightB (l : List Ent) : Bool := decide (Ent.okTo l l.length) && decide (Ent.adj l l.length)
set_option maxHeartbeats 4000000 in
theorem mright_any (a : Option Addr) (n c : Nat) (l : List Ent) (w : World) (h : Es w a n c l) :
    Calls Try.prog 33 #[.slice a n c] w fun e w' => e = .returned (.bool (Ent.rightB l)) ∧ Below w.heap.size w w' := by
  have hle := h.le.1
  have HN := Lib.hid h.1
  have HE := Lib.hid h
  clear h
  go_enter Try.func33, Try.ntmps33
  go_wp2
  go_loopw [7] (fun i wr => ∃ k : Nat, k ≤ n ∧ i = .int .i64 k ∧ Below w.heap.size w wr ∧ Hid (Ent.okTo l k)) (fun i _ => n - (intOf i).toNat)
  case atStart => exact ⟨0, by omega, rfl, Below.refl _ _, Lib.hid (fun i h => by omega)⟩
  case round =>
    obtain ⟨k, hk, rfl, hb, hall⟩ := hrel
    by_cases hlt : k < n
    · obtain ⟨b1, o1, a1, d1, rfl, he1, hv1⟩ := (HE.out.below hb).vals hlt
      have p1 := he1.key
      have p2 := he1.seq
      have p3 := he1.gone
      have p4 := he1.val
      have hvl := hv1.le.1
      generalize hx : nth l k = x at *
      have HX := Lib.hid hx
      have HB := Lib.hid hb
      clear he1 hv1 hb hx
      by_cases hg : x.gone = true
      · by_cases hv : 0 < x.val.length
        · have t1 : decide (0 < x.val.length) = true := decide_eq_true hv
          have E : Hid (Ent.rightB l = false) := Lib.hid (by
            unfold Ent.rightB
            rw [decide_eq_false (fun e => e k (by rw [HN.out]; exact hlt) (by rw [HX.out]; exact ⟨hg, hv⟩))]
            rfl)
          rw [hg] at p3
          clear hg hv
          go_wp2
          go_ret
          exact ⟨by rw [E.out]; rfl, HB.out.alloc HB.out.size _⟩
        · have t1 : decide (0 < x.val.length) = false := decide_eq_false hv
          have HOK : Hid (Ent.okTo l (k + 1)) := Lib.hid (fun i h e => by
            by_cases e2 : i = k
            · rw [e2, HX.out] at e; exact hv e.2
            · exact hall.out i (by omega) e)
          rw [hg] at p3
          clear hg hv
          go_wp2
          go_roundw
          case rel => exact ⟨k + 1, by omega, by go_num, HB.out.alloc HB.out.size _, HOK⟩
          case measure => simp [intOf]; omega
      · have hg' : x.gone = false := by simpa using hg
        have HOK : Hid (Ent.okTo l (k + 1)) := Lib.hid (fun i h e => by
            by_cases e2 : i = k
            · rw [e2, HX.out] at e; exact hg e.1
            · exact hall.out i (by omega) e)
        rw [hg'] at p3
        clear hg hg'
        go_wp2
        go_roundw
        case rel => exact ⟨k + 1, by omega, by go_num, HB.out.alloc HB.out.size _, HOK⟩
        case measure => simp [intOf]; omega
    · obtain rfl : k = n := by omega
      have E : Hid (Ent.rightB l = decide (Ent.adj l k)) := Lib.hid (by
        unfold Ent.rightB
        rw [HN.out, decide_eq_true hall.out]
        rfl)
      have HB := Lib.hid hb
      clear hb
      go_wp2_with fail
      refine (pairs_any _ k c l _ (HE.out.below HB.out)).mono ?_
      rintro e w2 ⟨rfl, hb2⟩
      have HB2 := Lib.hid (HB.out.trans (hb2.mono HB.out.size))
      clear hb2
      go_wp2
      go_ret
      exact ⟨by rw [E.out]; rfl, HB2.out⟩
end Go.Proofs.Ytlipgaefflecaaa
end

section
set_option maxRecDepth 100000
set_option linter.unusedSimpArgs false
namespace Go.Proofs.Ytlipgaefflecaaa
open Go.RowKit
set_option linter.unusedVariables false

theorem cmp_ge (x y : Ent) : decide (0 ≤ Ent.cmp x y) = !decide (Ent.cmp x y = -1) := by
  rcases Ent.cmp_cases x y with h | h | h <;> rw [h] <;> rfl
/-- What is right up to k. -/
def Ent.upTo (l : List Ent) (k : Nat) : Prop := Ent.okTo l k ∧ Ent.adj l k
theorem upTo_next {l : List Ent} {k : Nat} (h : Ent.upTo l k) (h1 : ¬ ((nth l k).gone = true ∧ 0 < (nth l k).val.length)) (h2 : 1 ≤ k → Ent.cmp (nth l (k - 1)) (nth l k) = -1) : Ent.upTo l (k + 1) := by
  refine ⟨fun i hi => ?_, fun i hi1 hi => ?_⟩
  · by_cases e : i = k
    · rw [e]; exact h1
    · exact h.1 i (by omega)
  · by_cases e : i = k
    · subst e; exact h2 hi1
    · exact h.2 i hi1 (by omega)
theorem rightB_bad {l : List Ent} {k : Nat} (hk : k < l.length) (h : ((nth l k).gone = true ∧ 0 < (nth l k).val.length) ∨ (1 ≤ k ∧ Ent.cmp (nth l (k - 1)) (nth l k) ≠ -1)) : Ent.rightB l = false := by
  unfold Ent.rightB
  rcases h with h | ⟨h1, h2⟩
  · rw [decide_eq_false (fun e => e k hk h)]; rfl
  · rw [decide_eq_false (fun e : Ent.adj l l.length => h2 (e k h1 hk)), Bool.and_false]
theorem rightB_all {l : List Ent} (h : Ent.upTo l l.length) : Ent.rightB l = true := by
  unfold Ent.rightB; rw [decide_eq_true h.1, decide_eq_true h.2]; rfl
theorem rightB_spec {l : List Ent} : Ent.rightB l = true ↔ Ent.upTo l l.length := by
  unfold Ent.rightB Ent.upTo
  rw [Bool.and_eq_true, decide_eq_true_eq, decide_eq_true_eq]
set_option maxHeartbeats 8000000 in
theorem refright_any (a : Option Addr) (n c : Nat) (l : List Ent) (w : World) (h : Es w a n c l) :
    Calls Try.prog 7 #[.slice a n c] w fun e w' => e = .returned (.bool (Ent.rightB l)) ∧ Below w.heap.size w w' := by
  have hle := h.le.1
  have HN := Lib.hid h.1
  have HE := Lib.hid h
  clear h
  go_enter Try.func7, Try.ntmps7
  go_wp2
  go_loopw [3] (fun i wr => ∃ k : Nat, k ≤ n ∧ i = .int .i64 k ∧ Below w.heap.size w wr ∧ Hid (Ent.upTo l k)) (fun i _ => n - (intOf i).toNat)
  case atStart => exact ⟨0, by omega, rfl, Below.refl _ _, Lib.hid ⟨fun i h => by omega, fun i h1 h2 => by omega⟩⟩
  case round =>
    obtain ⟨k, hk, rfl, hb, hall⟩ := hrel
    by_cases hlt : k < n
    · obtain ⟨b1, o1, a1, d1, rfl, he1, hv1⟩ := (HE.out.below hb).vals hlt
      have p1 := he1.key
      have p2 := he1.seq
      have p3 := he1.gone
      have p4 := he1.val
      have hvl := hv1.le.1
      have HB := Lib.hid hb
      by_cases hbad : (nth l k).gone = true ∧ 0 < (nth l k).val.length
      · have E := Lib.hid (rightB_bad (l := l) (k := k) (by rw [HN.out]; exact hlt) (.inl hbad))
        have t1 : decide (0 < (nth l k).val.length) = true := decide_eq_true hbad.2
        rw [hbad.1] at p3
        clear he1 hv1 hb hbad
        go_wp2_with fail
        refine wp_region_class (w0 := wr) (by kernel_rfl) (by kernel_rfl) (Below.refl _ _) ?_
        have m3 := BW.cell p3
        have m4 := BW.cell p4
        repeat (first | go_big_quiet_step (fail))
        refine wpQuiet_nil ?_
        intro w1 hb1; replace hb1 := BW.of hb1
        have HB1 := Lib.hid (HB.out.trans (hb1.mono HB.out.size))
        clear hb1 m3 m4
        go_wp2
        go_ret
        exact ⟨by rw [E.out]; rfl, HB1.out⟩
      · have HNB := Lib.hid hbad
        rcases (show (nth l k).gone = false ∨ ((nth l k).gone = true ∧ decide (0 < (nth l k).val.length) = false) by
          cases hg : (nth l k).gone with
          | false => exact .inl rfl
          | true => exact .inr ⟨rfl, decide_eq_false (fun e => hbad ⟨hg, e⟩)⟩) with hg | ⟨hg, t1⟩
        all_goals
          have HG := Lib.hid hg
          rw [hg] at p3
          clear hg hbad
          by_cases hk0 : k = 0
          · have t2 : decide (0 < k) = false := decide_eq_false (by omega)
            have HU := Lib.hid (upTo_next hall.out HNB.out (fun e => by omega))
            clear he1 hv1 hb hk0
            go_wp2_with fail
            refine wp_region_class (w0 := wr) (by kernel_rfl) (by kernel_rfl) (Below.refl _ _) ?_
            have m3 := BW.cell p3
            have m4 := BW.cell p4
            repeat (first | go_big_quiet_step (fail))
            refine wpQuiet_nil ?_
            intro w1 hb1; replace hb1 := BW.of hb1
            have HB1 := Lib.hid (HB.out.trans (hb1.mono HB.out.size))
            clear hb1 m3 m4
            go_wp2
            go_roundw
            case rel => exact ⟨k + 1, by omega, by go_num, HB1.out, HU⟩
            case measure => simp [intOf]; omega
          · obtain ⟨j, rfl⟩ : ∃ j, k = j + 1 := ⟨k - 1, by omega⟩
            have t2 : decide (0 < j + 1) = true := decide_eq_true (by omega)
            obtain ⟨b2, o2, a2, d2, e2, he2, hv2⟩ := (HE.out.below hb).vals (i := j) (by omega)
            cases e2
            have z1 : IntKind.i64.wrap (((j + 1 : Nat) : Int) - 1) = (j : Int) := by rw [IntKind.wrap_i64]; omega
            have z2 : (0 : Int) ≤ (j : Int) := by omega
            have q1 := he2.key
            have q2 := he2.seq
            have q3 := he2.gone
            have q4 := he2.val
            have hc := fun W => refcmp_any (nth l j) (nth l (j + 1)) a2 a1 d2 d1 W
            unfold ev at hc
            rw [HG.out] at hc
            have HC := Lib.hid hc
            clear he1 hv1 hb he2 hv2 hc hk0
            by_cases hcm : Ent.cmp (nth l j) (nth l (j + 1)) = -1
            · have t3 : decide (0 ≤ Ent.cmp (nth l j) (nth l (j + 1))) = false := by rw [cmp_ge, decide_eq_true hcm]; rfl
              have HU := Lib.hid (upTo_next hall.out HNB.out (fun _ => hcm))
              clear hcm
              go_wp2_with fail
              refine wp_region_class (w0 := wr) (by kernel_rfl) (by kernel_rfl) (Below.refl _ _) ?_
              have m1 := BW.cell p1
              have m2 := BW.cell p2
              have m3 := BW.cell p3
              have m4 := BW.cell p4
              have n1 := BW.cell q1
              have n2 := BW.cell q2
              have n3 := BW.cell q3
              have n4 := BW.cell q4
              repeat (first | go_big_quiet_step ((exact calls_class (HC.out _))))
              refine wpQuiet_nil ?_
              intro w1 hb1; replace hb1 := BW.of hb1
              have HB1 := Lib.hid (HB.out.trans (hb1.mono HB.out.size))
              clear hb1 m1 m2 m3 m4 n1 n2 n3 n4
              go_wp2
              go_roundw
              case rel => exact ⟨j + 1 + 1, by omega, by go_num, HB1.out, HU⟩
              case measure => simp [intOf]; omega
            · have t3 : decide (0 ≤ Ent.cmp (nth l j) (nth l (j + 1))) = true := by rw [cmp_ge, decide_eq_false hcm]; rfl
              have E := Lib.hid (rightB_bad (l := l) (k := j + 1) (by rw [HN.out]; exact hlt) (.inr ⟨by omega, hcm⟩))
              clear hcm
              go_wp2_with fail
              refine wp_region_class (w0 := wr) (by kernel_rfl) (by kernel_rfl) (Below.refl _ _) ?_
              have m1 := BW.cell p1
              have m2 := BW.cell p2
              have m3 := BW.cell p3
              have m4 := BW.cell p4
              have n1 := BW.cell q1
              have n2 := BW.cell q2
              have n3 := BW.cell q3
              have n4 := BW.cell q4
              repeat (first | go_big_quiet_step ((exact calls_class (HC.out _))))
              refine wpQuiet_nil ?_
              intro w1 hb1; replace hb1 := BW.of hb1
              have HB1 := Lib.hid (HB.out.trans (hb1.mono HB.out.size))
              clear hb1 m1 m2 m3 m4 n1 n2 n3 n4
              go_wp2
              go_ret
              exact ⟨by rw [E.out]; rfl, HB1.out⟩
    · obtain rfl : k = n := by omega
      have E := Lib.hid (rightB_all (l := l) (by rw [HN.out]; exact hall.out))
      have HB := Lib.hid hb
      clear hb
      go_wp2
      go_ret
      exact ⟨by rw [E.out]; rfl, HB.out⟩
end Go.Proofs.Ytlipgaefflecaaa
end

section
set_option maxRecDepth 100000
set_option linter.unusedSimpArgs false
namespace Go.Proofs.Ytlipgaefflecaaa
open Go.RowKit
set_option linter.unusedVariables false

set_option maxHeartbeats 400000 in
theorem clone_any (a : Option Addr) (n c : Nat) (l : List UInt8) (w : World) (h : Bs w a n c l) (hf : n ≤ 1000000000) :
    Calls Try.prog 46 #[.slice a n c] w (RetB w w.heap.size l) := by
  have hq := fun (w : World) => Lib.run_eql_slice_nil (P := Try.prog) w 55 5 a n c 0 0 Try.underlying55
  cases a with
  | none =>
    go_enter Try.func46, Try.ntmps46
    go_wp2
    go_ret
    have hl : l = [] := by
      cases l with
      | nil => rfl
      | cons b l => obtain ⟨_, _, h1, _⟩ := h.2.2.2 0 _ rfl; cases h1
    subst hl
    exact ⟨_, _, _, rfl, Own.nil _ _, Below.refl _ _⟩
  | some ad =>
    go_enter Try.func46, Try.ntmps46
    go_wp2_with (at_builtin; refine app_own rfl _ _ rfl w.heap.size rfl (Own.lit w w.heap.size [] (Nat.le_refl _) (by simp [maxLen])) rfl (h.below ((Below.refl _ _).alloc (Nat.le_refl _) _)) (by simp; omega) (le_alloc (Nat.le_refl _)) ?_; intro a'' c'' w' h1 h2 _)
    go_ret
    exact ⟨_, _, _, rfl, by simpa using h1, ((Below.refl _ _).alloc (Nat.le_refl _) _).trans h2⟩
/-- An entry is told; its bytes are the call's own. -/
def RetEv (e : Ent) (w : World) (en : Ending) (w' : World) : Prop := ∃ a c, en = .returned (ev e a c) ∧ Own w' w.heap.size a e.val.length c e.val ∧ Below w.heap.size w w'
set_option maxHeartbeats 1000000 in
theorem apart_any (e : Ent) (a : Option Addr) (c : Nat) (w : World) (h : Bs w a e.val.length c e.val) (hf : e.val.length ≤ 1000000000) :
    Calls Try.prog 38 #[ev e a c] w (RetEv e w) := by
  have hb := two_boxes w (.cells #[.string (bstr e.key), .int .u64 e.seq, .bool e.gone, .slice a e.val.length c] 57) (.cells #[.string ByteArray.empty, .int .u64 0, .bool false, .slice none 0 0] 57)
  have HB := Lib.hid hb
  have HV := Lib.hid (h.below hb)
  clear hb h
  unfold ev
  go_enter Try.func38, Try.ntmps38
  go_wp2_with fail
  refine (clone_any _ _ _ e.val _ HV.out hf).mono ?_
  rintro en w1 ⟨a1, n1, c1, rfl, ho, hb1⟩
  obtain rfl : n1 = e.val.length := by have := ho.bs.1; omega
  have hz : w.heap.size + 1 < w1.heap.size := by have := hb1.size; simp at this; omega
  have g0 : w1.heap[w.heap.size]? = some (.cells #[.string (bstr e.key), .int .u64 e.seq, .bool e.gone, .slice a e.val.length c] 57 (0, 0)) := by
    rw [hb1.block _ (by simp; omega)]
    exact (Below.heap_alloc _ _ _ (by simp)).trans (heap_alloc_new w _)
  have g1 : w1.heap[w.heap.size + 1]? = some (.cells #[.string ByteArray.empty, .int .u64 0, .bool false, .slice none 0 0] 57 (0, 0)) := by
    rw [hb1.block _ (by simp)]
    have := heap_alloc_new (w.alloc (.cells #[.string (bstr e.key), .int .u64 e.seq, .bool e.gone, .slice a e.val.length c] 57)) (.cells #[.string ByteArray.empty, .int .u64 0, .bool false, .slice none 0 0] 57)
    rwa [World.size_alloc] at this
  have f0 : ∀ o, w1.frozen? ⟨w.heap.size, o, none⟩ = false := fun o => by simp [World.frozen?, g0]
  have f1 : ∀ o, w1.frozen? ⟨w.heap.size + 1, o, none⟩ = false := fun o => by simp [World.frozen?, g1]
  have p0 := cell_of_row _ _ 0 _ _ _ g0
  have p1 := cell_of_row _ _ 1 _ _ _ g0
  have p2 := cell_of_row _ _ 2 _ _ _ g0
  have p3 := cell_of_row _ _ 3 _ _ _ g0
  have q0 := cell_of_row _ _ 0 _ _ _ g1
  have q1 := cell_of_row _ _ 1 _ _ _ g1
  have q2 := cell_of_row _ _ 2 _ _ _ g1
  have q3 := cell_of_row _ _ 3 _ _ _ g1
  simp at p0 p1 p2 p3 q0 q1 q2 q3
  have HO := Lib.hid ho
  have HB1 := Lib.hid hb1
  clear ho hb1 g0 g1
  go_wp2
  have hk : ∀ (v v0 v1 v2 v3 : Value) g, w.heap.size + 2 ≤ g → (((((w1.setCell ⟨w.heap.size, 3, none⟩ v).setCell ⟨w.heap.size + 1, 0, none⟩ v0).setCell ⟨w.heap.size + 1, 1, none⟩ v1).setCell ⟨w.heap.size + 1, 2, none⟩ v2).setCell ⟨w.heap.size + 1, 3, none⟩ v3).heap[g]? = w1.heap[g]? := by
    intro v v0 v1 v2 v3 g hg
    rw [Below.heap_setCell _ _ _ _ (by show g ≠ w.heap.size + 1; omega), Below.heap_setCell _ _ _ _ (by show g ≠ w.heap.size + 1; omega), Below.heap_setCell _ _ _ _ (by show g ≠ w.heap.size + 1; omega), Below.heap_setCell _ _ _ _ (by show g ≠ w.heap.size + 1; omega), Below.heap_setCell _ _ _ _ (by show g ≠ w.heap.size; omega)]
  refine bodyPost_ret (v := ev e a1 c1) (by simp [results, Try.results38, go_sem, ev, p0, p1, p2, q0, q1, q2, q3]) rfl ⟨a1, c1, rfl, ?_, ?_⟩
  · refine own_mono (own_keep (HO.out : World.ownsRow _ _ _ _ _ _ _) fun g hg => hk _ _ _ _ _ g (by simpa using hg)) (by simp; omega)
  · exact (((((HB.out.trans (HB1.out.mono HB.out.size)).setCell (p := ⟨w.heap.size, 3, none⟩) (Nat.le_refl _) _).setCell (p := ⟨w.heap.size + 1, 0, none⟩) (Nat.le_succ _) _).setCell (p := ⟨w.heap.size + 1, 1, none⟩) (Nat.le_succ _) _).setCell (p := ⟨w.heap.size + 1, 2, none⟩) (Nat.le_succ _) _).setCell (p := ⟨w.heap.size + 1, 3, none⟩) (Nat.le_succ _) _
theorem idx_at {l : List Ent} {up k : Nat} (hk : k < l.length) (h : (nth l k).seq ≤ up) (h2 : ∀ j, j < k → ¬ (nth l j).seq ≤ up) : Ent.idx up l = k := by
  unfold Ent.idx
  rw [List.findIdx_eq hk]
  refine ⟨by rw [← nth_eq]; simpa using h, fun j hj => ?_⟩
  have := h2 j hj
  rw [← nth_eq]
  simpa using this
theorem idx_none {l : List Ent} {up : Nat} (h2 : ∀ j, j < l.length → ¬ (nth l j).seq ≤ up) : Ent.idx up l = l.length := by
  unfold Ent.idx
  rw [List.findIdx_eq_length]
  intro x hx
  obtain ⟨j, hj, rfl⟩ := List.getElem_of_mem hx
  have := h2 j hj
  rw [nth_eq _ hj] at this
  simpa using this
set_option maxHeartbeats 1000000 in
theorem newest_any (a : Option Addr) (n c : Nat) (l : List Ent) (up : Nat) (w : World) (h : Es w a n c l) :
    Calls Try.prog 37 #[.slice a n c, .int .u64 up] w fun e w' => e = .returned (.int .i64 (Ent.idx up l : Nat)) ∧ Below w.heap.size w w' := by
  have hle := h.le.1
  have HN := Lib.hid h.1
  have HE := Lib.hid h
  clear h
  go_enter Try.func37, Try.ntmps37
  go_wp2
  go_loopw [9] (fun i wr => ∃ k : Nat, k ≤ n ∧ i = .int .i64 k ∧ Below w.heap.size w wr ∧ Hid (∀ j, j < k → ¬ (nth l j).seq ≤ up)) (fun i _ => n - (intOf i).toNat)
  case atStart => exact ⟨0, by omega, rfl, Below.refl _ _, Lib.hid (fun i h => by omega)⟩
  case round =>
    obtain ⟨k, hk, rfl, hb, hall⟩ := hrel
    by_cases hlt : k < n
    · obtain ⟨b1, o1, a1, d1, rfl, he1, hv1⟩ := (HE.out.below hb).vals hlt
      have p1 := he1.key
      have p2 := he1.seq
      have p3 := he1.gone
      have p4 := he1.val
      have HB := Lib.hid hb
      by_cases hs : (nth l k).seq ≤ up
      · have E := Lib.hid (idx_at (by rw [HN.out]; exact hlt) hs hall.out)
        have t1 : decide ((nth l k).seq ≤ up) = true := decide_eq_true hs
        clear he1 hv1 hb hs
        go_wp2
        go_ret
        exact ⟨by rw [E.out]; rfl, HB.out.alloc HB.out.size _⟩
      · have HA : Hid (∀ j, j < k + 1 → ¬ (nth l j).seq ≤ up) := Lib.hid (fun j hj => by
          by_cases e : j = k
          · rw [e]; exact hs
          · exact hall.out j (by omega))
        have t1 : decide ((nth l k).seq ≤ up) = false := decide_eq_false hs
        clear he1 hv1 hb hs
        go_wp2
        go_roundw
        case rel => exact ⟨k + 1, by omega, by go_num, HB.out.alloc HB.out.size _, HA⟩
        case measure => simp [intOf]; omega
    · obtain rfl : k = n := by omega
      have E := Lib.hid (idx_none (l := l) (up := up) (fun j hj => hall.out j (by rw [HN.out] at hj; exact hj)))
      have HB := Lib.hid hb
      clear hb
      go_wp2
      go_ret
      exact ⟨by rw [E.out, HN.out]; rfl, HB.out⟩
end Go.Proofs.Ytlipgaefflecaaa
end

section
set_option maxRecDepth 100000
set_option linter.unusedSimpArgs false
namespace Go.Proofs.Ytlipgaefflecaaa
open Go.RowKit
set_option linter.unusedVariables false
attribute [local go_sem] Oper.semAt_some

/-- A stretch of a list of n. -/
abbrev Gp (n : Nat) := { p : Nat × Nat // p.1 < p.2 ∧ p.2 ≤ n }
def gpv {n : Nat} (a : Option Addr) (x : Gp n) : Array Value := #[.slice (subAn a x.1.2 x.1.1 4) (x.1.2 - x.1.1) (x.1.2 - x.1.1)]
/-- What a round keeps: all below n₀, and one box. -/
def Kb (n₀ Bl : Nat) (t : TypeId) (v : Value) (A B : World) : Prop := Below n₀ A B ∧ (Boxed A Bl t v → Boxed B Bl t v)
theorem Kb.refl {n₀ Bl : Nat} {t : TypeId} {v : Value} (A : World) : Kb n₀ Bl t v A A := ⟨Below.refl _ _, fun h => h⟩
theorem Kb.trans {n₀ Bl : Nat} {t : TypeId} {v : Value} {A B C : World} (h : Kb n₀ Bl t v A B) (k : Kb n₀ Bl t v B C) : Kb n₀ Bl t v A C := ⟨h.1.trans k.1, fun x => k.2 (h.2 x)⟩
theorem Kb.book {n₀ Bl : Nat} {t : TypeId} {v : Value} {w : World} (hn : n₀ ≤ w.heap.size) (W : World) (l : Nat) (o o' : Obj) (hl : w.heap.size ≤ l) (h : W.heap[l]? = some o) (hc : o.isCells = false) (hw : o.isWalk = false) : Kb n₀ Bl t v W (W.putObj l o') :=
  ⟨belowK_b hn W l o o' hl h hc hw, fun hb => Boxed.turned hb (grownBy_putObj' W l o') (fun r e => by cases e; exact ⟨o, h, hc⟩)⟩
theorem Kb.drewN {n₀ Bl : Nat} {t : TypeId} {v : Value} (A : World) (q : Nat) : Kb n₀ Bl t v A (A.drewN q) := ⟨below_drewN (Below.refl _ _) q, fun h => h⟩
theorem grown_drewN (W : World) (q : Nat) : W.grownBy (W.drewN q) none := ⟨rfl, rfl, rfl, Nat.le_refl _, fun _ _ _ => rfl⟩
theorem segs_len {l : List Ent} : ∀ {xs : List (Nat × Nat)} {a b : Nat}, Ent.Segs l a xs b → xs.length + a ≤ b
  | [], a, b, h => by have : a = b := h; simp; omega
  | p :: xs, a, b, h => by have := segs_len h.2.2.2.2.2; have := h.1; have := h.2.1; simp only [List.length_cons]; omega
set_option maxRecDepth 100000 in
set_option maxHeartbeats 4000000 in
theorem groups1_in (m : Nat) (l Bl : Nat) (a : Option Addr) (n c : Nat) (es : List Ent) (wS : World) (hE : Es wS a n c es) (J Jx : List (Gp n) → World → Prop) (W : World) (hSW : Below wS.heap.size wS W) (hJ : AbidesFrom W.heap.size J)
    (hY : ∀ pre x W1, J pre W1 → pre.length < n → YieldAt Fence.wide m Try.prog l (gpv a x) W1 fun e W' =>
      (e = .returned (.bool true) ∧ J (pre ++ [x]) W' ∧ Kb wS.heap.size Bl 33 (.slice a n c) W1 W') ∨ (e = .returned (.bool false) ∧ Jx (pre ++ [x]) W'))
    (hBl : Boxed W Bl 33 (.slice a n c)) (h0 : J [] W) :
    CallsIn Fence.wide (m + 1) Try.prog 45 #[.func (.yield l) #[] #[], .pointer (some ⟨Bl, 0, none⟩)] W fun e W' => (∃ v, e = .returned v) ∧
      ((∃ xs, Ent.Segs es 0 (xs.map Subtype.val) n ∧ J xs W') ∨ (∃ pre, True ∧ Jx pre W')) := by
  have hle := hE.le
  have HN := Lib.hid hE.1
  have HE := Lib.hid hE
  have HSW := Lib.hid hSW
  have HJ := Lib.hid hJ
  have HY := Lib.hid hY
  have HBl := Lib.hid hBl
  have h1 : 1 ≤ m + 1 := by omega
  obtain ⟨i0, hi0, _, hz1, _⟩ := info_parts infoE
  have HS : Hid (∀ (f t : Nat) (W : World), f < t → t ≤ n → (Instr.slice 33 (.slice a n c) (some (.int .i64 (f : Int))) (some (.int .i64 (t : Int))) (some (.int .i64 (t : Int)))).run Try.prog W = .ok (.slice (subAn a t f 4) (t - f) (t - f)) W) :=
    Lib.hid fun f t W h1 h2 => run_slice_lhm (P := Try.prog) Try.underlying33 hi0 hz1 a n c rfl rfl rfl (Nat.le_of_lt h1) (Nat.le_refl _) (by have := hE.2.1; omega) W
  clear hE hSW hJ hY hBl hi0 hz1
  refine callsIn_of_wp Try.func45 rfl trivial ?_ rfl
  simp only [Try.ntmps45, List.size_toArray, List.length_cons, List.length_nil, Nat.reduceAdd, Nat.reduceSub, Array.replicate_succ, Array.replicate_zero, List.push_toArray, List.append_toArray, List.nil_append, List.cons_append]
  gi_wp2
  gi_loopw [3] (fun i wr => ∃ (f : Nat) (pre : List (Gp n)), f ≤ n ∧ i = .int .i64 f ∧ Ent.Segs es 0 (pre.map Subtype.val) f ∧ J pre wr ∧ Kb wS.heap.size Bl 33 (.slice a n c) W wr)
    (fun i _ => n - (intOf i).toNat)
  case atStart => exact ⟨0, [], Nat.zero_le _, rfl, rfl, h0, Kb.refl _⟩
  case round =>
    obtain ⟨f, pre, hf, rfl, hsg, hJs, hkp⟩ := hrel
    have hb := (hkp.2 HBl.out).cell
    by_cases hlt : f < n
    · have HEr := Lib.hid (HE.out.below (HSW.out.trans hkp.1))
      obtain ⟨b1, o1, a1, d1, rfl, he1, hv1⟩ := HEr.out.vals hlt
      have p1 := he1.key
      gi_wp2
      refine wpIn_wide.2 ?_
      go_loopw [4] (fun i wi => ∃ (t q : Nat), f < t ∧ t ≤ n ∧ i = .int .i64 t ∧ wi = wr.drewN q ∧ Hid (∀ i, f ≤ i → i < t → (nth es i).key = (nth es f).key)) (fun i _ => n - (intOf i).toNat)
      case atStart => exact ⟨f + 1, 0, by omega, by omega, by go_num, rfl, Lib.hid (fun i h1 h2 => by rw [show i = f by omega])⟩
      case round =>
        obtain ⟨t, q, hft, htn, rfl, rfl, hall⟩ := hrel
        by_cases hlt2 : t < n
        · obtain ⟨b2, o2, a2, d2, ea2, he2, hv2⟩ := HEr.out.vals hlt2
          cases ea2
          have q1 := he2.key
          by_cases hk : (nth es t).key = (nth es f).key
          · have t1 : ((bstr (nth es t).key).toList == (bstr (nth es f).key).toList) = true := by rw [bstr_beq]; exact decide_eq_true hk
            have t1' : decide ((nth es t).key = (nth es f).key) = true := decide_eq_true hk
            have HK := Lib.hid hk
            have HJs := Lib.hid hJs
            have HKP := Lib.hid hkp
            clear hk hJs hkp he1 he2 hv1 hv2
            go_wp2_with fail
            go_quiet (fail)
            go_wp2
            go_roundw
            case rel => exact ⟨t + 1, q + nq, by omega, by omega, by go_num, rfl, Lib.hid (fun i h1 h2 => by
              by_cases e : i = t
              · rw [e]; exact HK.out
              · exact hall.out i h1 (by omega))⟩
            case measure => simp [intOf]; omega
          · have t1 : ((bstr (nth es t).key).toList == (bstr (nth es f).key).toList) = false := by rw [bstr_beq]; exact decide_eq_false hk
            have t1' : decide ((nth es t).key = (nth es f).key) = false := decide_eq_false hk
            have HK := Lib.hid hk
            have HJs := Lib.hid hJs
            have HKP := Lib.hid hkp
            clear hk hJs hkp he1 he2 hv1 hv2
            go_wp2_with fail
            go_quiet (fail)
            have HK2 : Hid (t < es.length → (nth es t).key ≠ (nth es f).key) := Lib.hid (fun _ => HK.out)
            have hlen : pre.length < n := by have := segs_len hsg; simp at this; omega
            obtain ⟨fn, tmps, assign, body, hy, hR⟩ := HY.out pre ⟨(f, t), hft, htn⟩ (wr.drewN (q + nq)) (HJ.out pre wr _ none HJs.out (grown_drewN wr _) (fun r e => by cases e)) hlen
            have hs := fun W => HS.out f t W hft htn
            dsimp only [gpv] at hy
            have HSG := Lib.hid (hsg.snoc hft (by rw [HN.out]; exact htn) hall.out HK2.out)
            clear hsg
            go_wp2
            gi_wp2
            refine hR.mono ?_
            rintro e W3 (⟨rfl, hJ3, hk3⟩ | ⟨rfl, hJx3⟩)
            · have HK3 := Lib.hid (HKP.out.trans ((Kb.drewN wr (q + nq)).trans hk3))
              have HJ3 := Lib.hid hJ3
              clear hk3 hJ3
              gi_wp2
              go_roundw
              case rel => exact ⟨t, pre ++ [⟨(f, t), hft, htn⟩], htn, rfl, by rw [List.map_append]; exact HSG.out, HJ3.out, HK3.out⟩
              case measure => simp [intOf]; omega
            · gi_wp2
              refine bodyPost_ret (results_none rfl _ _ _) rfl ?_
              exact ⟨⟨_, rfl⟩, .inr ⟨_, trivial, hJx3⟩⟩
        · have t1 : decide (t < n) = false := decide_eq_false hlt2
          have HK2 : Hid (t < es.length → (nth es t).key ≠ (nth es f).key) := Lib.hid (fun h => by rw [HN.out] at h; exact absurd h hlt2)
          have HJs := Lib.hid hJs
          have HKP := Lib.hid hkp
          clear hJs hkp he1 hv1
          go_wp2_with fail
          go_quiet (fail)
          have hlen : pre.length < n := by have := segs_len hsg; simp at this; omega
          obtain ⟨fn, tmps, assign, body, hy, hR⟩ := HY.out pre ⟨(f, t), hft, htn⟩ (wr.drewN (q + nq)) (HJ.out pre wr _ none HJs.out (grown_drewN wr _) (fun r e => by cases e)) hlen
          have hs := fun W => HS.out f t W hft htn
          dsimp only [gpv] at hy
          have HSG := Lib.hid (hsg.snoc hft (by rw [HN.out]; exact htn) hall.out HK2.out)
          clear hsg
          go_wp2
          gi_wp2
          refine hR.mono ?_
          rintro e W3 (⟨rfl, hJ3, hk3⟩ | ⟨rfl, hJx3⟩)
          · have HK3 := Lib.hid (HKP.out.trans ((Kb.drewN wr (q + nq)).trans hk3))
            have HJ3 := Lib.hid hJ3
            clear hk3 hJ3
            gi_wp2
            go_roundw
            case rel => exact ⟨t, pre ++ [⟨(f, t), hft, htn⟩], htn, rfl, by rw [List.map_append]; exact HSG.out, HJ3.out, HK3.out⟩
            case measure => simp [intOf]; omega
          · gi_wp2
            refine bodyPost_ret (results_none rfl _ _ _) rfl ?_
            exact ⟨⟨_, rfl⟩, .inr ⟨_, trivial, hJx3⟩⟩
    · obtain rfl : f = n := by omega
      have HJs := Lib.hid hJs
      clear hJs
      gi_wp2
      go_end0
      exact ⟨⟨_, rfl⟩, .inl ⟨pre, hsg, HJs.out⟩⟩
end Go.Proofs.Ytlipgaefflecaaa
end

section
set_option linter.unusedVariables false
set_option linter.unusedSimpArgs false
namespace Go.Proofs.Ytlipgaefflecaaa
open Go.RowKit

section
variable {P : Program} {md : Region.Mode} {ops : Array Oper} {Q : Exit → Act → World → Prop} {S : World → Prop} {n g : Nat}

/-- The heads in whatever order, S holding behind each. -/
def anyM (P : Program) (md : Region.Mode) (ops : Array Oper) (Q : Exit → Act → World → Prop) (S : World → Prop) (n : Nat) (L : Array Bool → Act → World → Prop) : Nat → Array Bool → Act → World → Prop
  | 0, listed, a, w => L listed a w
  | f + 1, listed, a, w => Region.ready md ops listed ≠ [] ∧ ∀ i ∈ Region.ready md ops listed, i < n ∧ wpOp P ops Q i (fun a' w' => S w' ∧ anyM P md ops Q S n L f (listed.setIfInBounds i true) a' w') a w
theorem anyM_head {L : Array Bool → Act → World → Prop} (hL : ∀ listed a w, L listed a w → wpAny P md ops Q g listed a w) :
    ∀ (f : Nat) (listed : Array Bool) (a : Act) (w : World), anyM P md ops Q S n L f listed a w → wpAny P md ops Q (f + g) listed a w
  | 0, listed, a, w, h => by rw [Nat.zero_add]; exact hL _ _ _ h
  | f + 1, listed, a, w, h => by
    rw [show f + 1 + g = (f + g) + 1 by omega]
    exact ⟨fun h0 => absurd h0 h.1, fun i hi => wpOp_mono (fun a' w' h' => anyM_head hL f _ a' w' h'.2) (h.2 i hi).2⟩
theorem anyM_first {i : Nat} {oi : Oper} {v : Value} {L : Array Bool → Act → World → Prop} (hi : ops[i]? = some oi) (hsel : ∀ (j : Nat) (o : Oper) cs b, ops[j]? = some o → o.op ≠ .select cs b)
    (hQ : ∀ c a w, Q (.panic c) (a.put oi.dst v) w → Q (.panic c) a w)
    (hs : Region.sinkB md ops n = true) (hc : Region.chainB md ops n = true) (hn : n < ops.size) (hin : i < n)
    (hdone : ∀ listed a w, L listed a w → ∀ j ∈ Region.ready md ops listed, n ≤ j) :
    ∀ (f : Nat) (listed : Array Bool) (a : Act) (w : World), HeadInv md ops n listed →
      (∀ j oj, ops[j]? = some oj → j ≠ i → listed.getD j true = false → (∀ e ∈ oj.after, Region.binds md e = true → e.on ≠ i) → oi.apart ops oj = true) →
      i ∈ Region.ready md ops listed → YieldsIf P ops S oi v a → S w →
      anyM P md ops Q S n L f (listed.setIfInBounds i true) (a.put oi.dst v) w → anyM P md ops Q S n L (f + 1) listed a w := by
  intro f
  induction f with
  | zero =>
    intro listed a w inv _ hr hy hS H
    have hun := (mem_ready.1 hr).1
    refine ⟨fun h => (by rw [h] at hr; cases hr), fun j hj => ?_⟩
    have hjn : j < n := by
      rcases Nat.lt_or_ge j n with h | h
      · exact h
      · exact absurd hj (tail_waits hs hc hn inv _ i rfl hin hun j h)
    refine ⟨hjn, ?_⟩
    by_cases hji : j = i
    · subst hji; exact hy.wpOp hi hS ⟨hS, H⟩
    · have := hdone _ _ _ H j (ready_mono hj hji)
      omega
  | succ f ih =>
    intro listed a w inv hfree hr hy hS H
    have hun := (mem_ready.1 hr).1
    refine ⟨fun h => (by rw [h] at hr; cases hr), fun j hj => ?_⟩
    have hjn : j < n := by
      rcases Nat.lt_or_ge j n with h | h
      · exact h
      · exact absurd hj (tail_waits hs hc hn inv _ i rfl hin hun j h)
    refine ⟨hjn, ?_⟩
    by_cases hji : j = i
    · subst hji; exact hy.wpOp hi hS ⟨hS, H⟩
    · have h1 := (H.2 j (ready_mono hj hji)).2
      obtain ⟨hjun, oj, hoj, hall⟩ := mem_ready.1 hj
      have hnot : ∀ e ∈ oj.after, Region.binds md e = true → e.on ≠ i := fun e he hb heq => by
        have h1 := hall e he hb
        rw [heq, getD_both hun] at h1
        cases h1
      have h2 := wpOp_putIf hoj (hfree j oj hoj hji hjun hnot) (fun cs b => hsel i oi cs b hi) (fun cs b => hsel j oj cs b hoj) hQ hy h1
      have hfree' : ∀ k ok, ops[k]? = some ok → k ≠ i → (listed.setIfInBounds j true).getD k true = false →
          (∀ e ∈ ok.after, Region.binds md e = true → e.on ≠ i) → oi.apart ops ok = true := fun k ok hk hki hun hno => by
        refine hfree k ok hk hki ?_ hno
        by_cases hjk : j = k
        · subst hjk; exact hjun
        · rw [getD_set_ne true hjk] at hun; exact hun
      refine wpOp_mono (fun a' w' h3 => ⟨h3.2.1, ih (listed.setIfInBounds j true) a' w' (inv.set hj hjn) hfree' (ready_mono hr (Ne.symm hji)) h3.1 h3.2.1 ?_⟩) h2
      rw [Array.setIfInBounds_comm _ _ hji]
      exact h3.2.2

/-- Loads, each told in every world of S. -/
def heldL (P : Program) (ops : Array Oper) (S : World → Prop) (R : Act → Prop) : List Oper → Act → Prop
  | [], a => R a
  | o :: rest, a => ∃ v, YieldsIf P ops S o v a ∧ heldL P ops S R rest (a.put o.dst v)
theorem held_nil {R : Act → Prop} {a : Act} (h : R a) : heldL P ops S R [] a := h
theorem held_step {R : Act → Prop} {a : Act} {o : Oper} {rest : List Oper} {v : Value} (hw : Region.wanted o (yielded ops a.tmps) = true) (hv : ∀ w, S w → (execOp a.eval o).run P w = .ok (.value v) w) (h : heldL P ops S R rest (a.put o.dst v)) :
    heldL P ops S R (o :: rest) a := ⟨v, .inl ⟨hw, hv⟩, h⟩
theorem held_skip {R : Act → Prop} {a : Act} {o : Oper} {rest : List Oper} (hw : Region.wanted o (yielded ops a.tmps) = false) (h : heldL P ops S R rest (a.put o.dst undef)) : heldL P ops S R (o :: rest) a := ⟨undef, .inr ⟨hw, rfl⟩, h⟩
/-- Steps one behind the other, S holding behind each. -/
def walkS (P : Program) (ops : Array Oper) (Q : Exit → Act → World → Prop) (S : World → Prop) (R : Act → World → Prop) : List Oper → Act → World → Prop
  | [], a, w => R a w
  | o :: rest, a, w => Region.wanted o (yielded ops a.tmps) = true ∧ o.wp P a w (fun a' w' => S w' ∧ walkS P ops Q S R rest a' w') Q
theorem walkS_nil {R : Act → World → Prop} {a : Act} {w : World} (h : R a w) : walkS P ops Q S R [] a w := h
theorem walkS_step {R : Act → World → Prop} {a : Act} {w : World} {o : Oper} {rest : List Oper} (hw : Region.wanted o (yielded ops a.tmps) = true)
    (h : ∀ K : Act → World → Prop, (∀ a w, S w → walkS P ops Q S R rest a w → K a w) → o.wp P a w K Q) : walkS P ops Q S R (o :: rest) a w :=
  ⟨hw, h _ fun _ _ h1 h2 => ⟨h1, h2⟩⟩
theorem anyM_seq : ∀ (l : List Oper) (k : Nat) (listed : Array Bool) (a : Act) (w : World) {R : Act → World → Prop}, (∀ j, j < l.length → l[j]? = ops[k + j]?) → k + l.length = n →
    Region.seqB md ops (l.length + g) k listed = true → walkS P ops Q S R l a w → anyM P md ops Q S n (fun listed a w => Region.seqB md ops g n listed = true ∧ R a w) l.length listed a w
  | [], k, listed, a, w, R, _, hk, hB, h => by
    have : k = n := by simpa using hk
    subst this
    exact ⟨by simpa using hB, h⟩
  | o :: l, k, listed, a, w, R, hl, hk, hB, h => by
    have h0 : ops[k]? = some o := by simpa using (hl 0 (by simp)).symm
    rw [List.length_cons, show l.length + 1 + g = (l.length + g) + 1 by omega] at hB
    simp only [Region.seqB, Bool.and_eq_true, decide_eq_true_eq] at hB
    simp only [List.length_cons] at hk
    refine ⟨fun h1 => (by rw [hB.1] at h1; cases h1), fun i hi => ?_⟩
    rw [hB.1] at hi
    have hik : i = k := by simpa using hi
    subst hik
    refine ⟨by omega, ?_⟩
    unfold wpOp
    simp only [h0]
    rw [if_pos h.1]
    exact .inl (Oper.wp_mono (fun a' w' h' => ⟨h'.1, anyM_seq l (i + 1) _ a' w' (fun j hj => by have := hl (j + 1) (by simp; omega); simpa [Nat.add_assoc, Nat.add_comm 1 j] using this) (by omega) hB.2 h'.2⟩) h.2)
def readsHead (md : Region.Mode) (ops : Array Oper) (g : Nat) : Nat → Nat → Array Bool → Bool
  | 0, k, listed => Region.seqB md ops g k listed
  | f + 1, k, listed => (Region.ready md ops listed).contains k && Region.free md ops listed k && readsHead md ops g f (k + 1) (listed.setIfInBounds k true)
theorem anyM_lex (hsel : Region.noSelect ops = true) (hQ : ∀ c a d v w, Q (.panic c) (Act.put a d v) w → Q (.panic c) a w) (hs : Region.sinkB md ops n = true) (hc : Region.chainB md ops n = true) (hn : n < ops.size)
    {m : List Oper} {w : World} {R : Act → World → Prop} (hS : S w) :
    ∀ (l : List Oper) (k : Nat) (listed : Array Bool) (a : Act), (∀ j, j < l.length → l[j]? = ops[k + j]?) → (∀ j, j < m.length → m[j]? = ops[k + l.length + j]?) → k + l.length + m.length = n → HeadInv md ops n listed →
    readsHead md ops (m.length + g) l.length k listed = true → heldL P ops S (fun a' => walkS P ops Q S R m a' w) l a →
    anyM P md ops Q S n (fun listed a w => Region.seqB md ops g n listed = true ∧ R a w) (l.length + m.length) listed a w
  | [], k, listed, a, _, hm, hk, _, hB, h => by
    simp only [List.length_nil, Nat.zero_add, Nat.add_zero] at hm hk ⊢
    exact anyM_seq m k listed a w hm hk hB h
  | o :: l, k, listed, a, hl, hm, hk, inv, hB, h => by
    have h0 : ops[k]? = some o := by simpa using (hl 0 (by simp)).symm
    simp only [List.length_cons, readsHead, Bool.and_eq_true] at hB
    obtain ⟨⟨hr, hf⟩, hB'⟩ := hB
    simp only [List.length_cons] at hk hm
    have hkn : k < n := by omega
    have hr' : k ∈ Region.ready md ops listed := by simpa using hr
    obtain ⟨v, hy, hK⟩ := h
    rw [List.length_cons, show l.length + 1 + m.length = (l.length + m.length) + 1 by omega]
    exact anyM_first h0 (Region.noSelect_spec hsel) (fun c a w => hQ c a _ _ w) hs hc hn hkn (fun listed' a' w' hL => seqB_ready hL.1) (l.length + m.length) listed a w inv (Region.free_spec h0 hf) hr' hy hS
      (anyM_lex hsel hQ hs hc hn hS l (k + 1) _ _ (fun j hj => by have := hl (j + 1) (by simp; omega); simpa [Nat.add_assoc, Nat.add_comm 1 j] using this)
        (fun j hj => by rw [hm j hj, show k + 1 + l.length + j = k + (l.length + 1) + j by omega]) (by omega) (inv.set hr' hkn) hB' hK)
/-- The first r operations are loads, then m that follow one another; behind n nothing waits any more. -/
def readsB (md : Region.Mode) (ops : Array Oper) (r n : Nat) : Bool :=
  Region.noSelect ops && decide (n < ops.size) && decide (r ≤ n) && Region.sinkB md ops n && Region.chainB md ops n && readsHead md ops (n - r + (ops.size - n)) r 0 (Array.replicate ops.size false)
theorem any_reads {l : List Oper} {a : Act} {w : World} (r n : Nat) (hQ : ∀ c a d v w, Q (.panic c) (Act.put a d v) w → Q (.panic c) a w) (hB : readsB .any l.toArray r n = true) (S : World → Prop) (hS : S w)
    (h : heldL P l.toArray S (fun a' => walkS P l.toArray Q S (fun a w => wpList P l.toArray Q (l.drop n) a w) ((l.take n).drop r) a' w) (l.take r) a) : wpAny P .any l.toArray Q l.toArray.size (Array.replicate l.toArray.size false) a w := by
  simp only [readsB, Bool.and_eq_true, decide_eq_true_eq] at hB
  obtain ⟨⟨⟨⟨⟨hsel, hn⟩, hrn⟩, hs⟩, hc⟩, hlex⟩ := hB
  have hn' : n < l.length := by simpa using hn
  have htl : (l.take r).length = r := by simp; omega
  have hml : ((l.take n).drop r).length = n - r := by simp; omega
  have hdl : (l.drop n).length = l.toArray.size - n := by simp
  have inv0 : HeadInv .any l.toArray n (Array.replicate l.toArray.size false) :=
    ⟨by simp, fun j oj _ hl => (by rw [getD_replicate_false] at hl; cases hl), fun t _ ht => getD_in (by simpa using ht) (getD_replicate_false _ _)⟩
  have H := anyM_lex (P := P) (md := .any) (g := l.toArray.size - n) hsel hQ hs hc hn hS (l.take r) 0 _ a (fun j hj => by
    have hj' : j < r := by rw [htl] at hj; exact hj
    simp [hj']) (fun j hj => by
    rw [hml] at hj
    rw [htl, Nat.zero_add, List.getElem?_drop, List.getElem?_take, if_pos (by omega)]; simp) (by rw [htl, hml]; omega) inv0 (by rw [htl, hml]; exact hlex) h
  have := anyM_head (g := l.toArray.size - n) (fun listed a' w' hL => by
    have := wpAny_of_seq (md := .any) (Q' := Q) (l.drop n) n listed a' w' (fun j => by simp [List.getElem?_drop]) (by rw [hdl]; exact hL.1) hL.2
    rwa [hdl] at this) _ _ _ _ H
  rw [htl, hml, show r + (n - r) + (l.toArray.size - n) = l.toArray.size by omega] at this
  exact this
theorem wp_region_reads {id : Nat} {l : List Oper} {a : Act} {w : World} (r n : Nat) (hQ : ∀ c a d v w, Q (.panic c) (Act.put a d v) w → Q (.panic c) a w) (hm : P.follows .mixedOrders = true) (hB : readsB .any l.toArray r n = true) (S : World → Prop) (hS : S w.drew)
    (h : heldL P l.toArray S (fun a' => walkS P l.toArray Q S (fun a w => wpList P l.toArray Q (l.drop n) a w) ((l.take n).drop r) a' w.drew) (l.take r) a) : (Code.region id l.toArray true).wp P Q a w :=
  wp_region_any hm (any_reads r n hQ hB S hS h)
theorem round_reads {id lr k : Nat} {l : List Oper} {a : Act} {w : World} (r n : Nat) (hL : ¬ LetsOut Q) (hQ : ∀ c a d v w, Q (.panic c) (Act.put a d v) w → Q (.panic c) a w) (hm : P.follows .mixedOrders = true) (hB : readsB .any l.toArray r n = true) (hnd : l.toArray.all noDefer = true) (S : World → Prop) (hS : S w.drew)
    (h : heldL P l.toArray S (fun a' => walkS P l.toArray Q S (fun a w => wpList P l.toArray Q (l.drop n) a w) ((l.take n).drop r) a' w.drew) (l.take r) a) : (Code.region id l.toArray true).wpIn (inR lr) k P Q a w :=
  wpIn_region_any hm (any_in hL hnd _ _ _ _ (any_reads r n hQ hB S hS h))
end
end Go.Proofs.Ytlipgaefflecaaa
end

section
set_option linter.unusedVariables false
set_option linter.unusedSimpArgs false
namespace Go.Proofs.Ytlipgaefflecaaa
open Go.RowKit

section
variable {P : Program} {Q : Exit → Act → World → Prop} {a : Act} {w : World}
/-- A function whose body holds a range over a function. -/
theorem calls_marks {f : FuncId} {fn : Func} {c : Code} {args : Array Value} {R : Ending → World → Prop} (hf : P.funcs[f]? = some fn) (hb : fn.body = some c)
    (h : c.wp P (bodyPostM Fence.wide 9 P fn R) { tmps := args ++ Array.replicate (fn.ntmps - args.size) undef, defers := [] } w) : Calls P f args w R :=
  callsIn_wide.1 (callsIn_of_wp_marks (F := Fence.wide) (n := 9) hf hb trivial (wpIn_wide.2 h) rfl)
theorem ret_m0 {fn : Func} {R : Ending → World → Prop} {tmps : Array Value} {v : Value} (hr : (results fn tmps).run P w = .ok v w) (h : R (.returned v) w) : bodyPostM Fence.wide 9 P fn R .ret { tmps := tmps, defers := [] } w := ⟨v, hr, h⟩
theorem ret_m1 {fn : Func} {R : Ending → World → Prop} {tmps : Array Value} {v : Value} {D : Nat} (hD : w.heap[D]? = some (.deferred (some []))) (hr : (results fn tmps).run P (w.putObj D (.deferred none)) = .ok v (w.putObj D (.deferred none)))
    (h : R (.returned v) (w.putObj D (.deferred none))) : bodyPostM Fence.wide 9 P fn R .ret { tmps := tmps, defers := [{ target := .collected D, args := #[] }] } w :=
  ⟨by simp, .inl ⟨D, _, rfl, run_takeDeferred hD, v, hr, h⟩⟩
theorem end_m1 {fn : Func} {R : Ending → World → Prop} {tmps : Array Value} {v : Value} {D : Nat} (hD : w.heap[D]? = some (.deferred (some []))) (hr : (results fn tmps).run P (w.putObj D (.deferred none)) = .ok v (w.putObj D (.deferred none)))
    (h : R (.returned v) (w.putObj D (.deferred none))) : bodyPostM Fence.wide 9 P fn R .normal { tmps := tmps, defers := [{ target := .collected D, args := #[] }] } w :=
  ⟨by simp, .inl ⟨D, _, rfl, run_takeDeferred hD, v, hr, h⟩⟩
theorem range_wp {α : Type} {g : Operand} {ps : Array Tmp} {assign body : Code} {gf : Nat} {lb : Array Value} (hg : a.eval g = .func (.func gf) #[] lb) (eg : ∀ args w, (callFunc gf args).run P w = .ok (.enter gf args) w)
    {encs : α → Array Value} {Kp : World → World → Prop} {S Sp : List α → Prop} {N : Nat} {w0 : World} (hseq : SeqStopsK Fence.wide 4 P gf lb encs Kp S Sp N w0)
    (hKt : ∀ {A B C : World}, Kp A B → Kp B C → Kp A C) (hKb : ∀ (W : World) (l : Nat) (o o' : Obj), w.heap.size ≤ l → W.heap[l]? = some o → o.isCells = false → o.isWalk = false → Kp W (W.putObj l o')) (hb0 : Below w0.heap.size w0 w) (hps : ∀ x, (encs x).size = ps.size)
    (I : List α → World → Prop) (Ix : Code → List α → World → Prop) (hI : OwnFrom w.heap.size I) (hIx : ∀ c, OwnFrom w.heap.size (Ix c)) (h0 : I [] w)
    (h : ∃ a₁ : α → Act, (∀ (l : Nat) (x : α) (W : World) (K : Act → World → Prop), K (a₁ x) W →
        assign.wpIn (inR l) 3 P (Exit.then K (fun _ _ _ => False)) { tmps := (ps.zip (encs x)).foldl (fun t (p, v) => t.setIfInBounds p v) a.tmps, defers := [] } W) ∧
      (∀ (l : Nat) (pre : List α) (x : α) (W : World), I pre W → pre.length < N → body.wpIn (inR l) 3 P (ownPostK Kp I Ix (pre ++ [x]) W) (a₁ x) W))
    (hdone : ∀ (D : Nat) (xs : List α) (W : World), w.heap.size ≤ D → S xs → I xs W → W.heap[D]? = some (.deferred (some [])) → Q .normal { a with defers := { target := .collected D, args := #[] } :: a.defers } W)
    (hstop : ∀ (D : Nat) (c : Code) (pre : List α) (W : World), w.heap.size ≤ D → Sp pre → Ix c pre W → W.heap[D]? = some (.deferred (some [])) → c.wp P Q { a with defers := { target := .collected D, args := #[] } :: a.defers } W) :
    (Code.rangeFunc g ps assign body).wp P Q a w := by
  obtain ⟨a₁, h1, h2⟩ := h
  exact wpIn_wide.1 (wpIn_rangeFunc_ownF (F := Fence.wide) (n := 5) rfl (by omega) hg trivial eg hseq hKt hKb hb0 hps I Ix hI hIx h0 a₁ h1 h2 hdone (fun D c pre W h1 h2 h3 h4 => wpIn_wide.2 (hstop D c pre W h1 h2 h3 h4)))
theorem below_alloc1 (w : World) (o : Obj) : Below w.heap.size w (w.alloc o) := (Below.refl _ _).alloc (Nat.le_refl _) o
/-- Behind the turn of the block for deferred calls. -/
theorem below_shut {W : World} {n D : Nat} {o o' : Obj} (hn : n ≤ D) (hD : W.heap[D]? = some o) : Below n W (W.putObj D o') :=
  (Below.refl n W).grown (grownBy_putObj' W D o') (by have := (Array.getElem?_eq_some_iff.1 hD).1; omega) (fun k e => by cases e; omega)
end
end Go.Proofs.Ytlipgaefflecaaa
end

section
set_option maxRecDepth 100000
set_option linter.unusedSimpArgs false
namespace Go.Proofs.Ytlipgaefflecaaa
open Go.RowKit
set_option linter.unusedVariables false
attribute [local go_sem] Oper.semAt_some

theorem groups_any (a : Option Addr) (n c : Nat) (w : World) :
    Calls Try.prog 36 #[.slice a n c] w fun e w' => e = .returned (.func (.func 45) #[] #[.pointer (some ⟨w.heap.size, 0, none⟩)]) ∧ w' = w.alloc (.cells #[.slice a n c] 33) := by
  go_enter Try.func36, Try.ntmps36
  go_wp2
  go_ret
  exact ⟨rfl, rfl⟩
/-- The sequence of groups. -/
theorem groups_stops (m Bl : Nat) (a : Option Addr) (n c : Nat) (es : List Ent) (wS w : World) (hE : Es wS a n c es) (hSW : Below wS.heap.size wS w) (hBl : Boxed w Bl 33 (.slice a n c)) :
    SeqStopsK Fence.wide (m + 1) Try.prog 45 #[.pointer (some ⟨Bl, 0, none⟩)] (gpv a) (Kb wS.heap.size Bl 33 (.slice a n c)) (fun xs : List (Gp n) => Ent.Segs es 0 (xs.map Subtype.val) n) (fun _ => True) n w :=
  fun l J Jx W hb hJ _ hY h0 => groups1_in m l Bl a n c es wS hE J Jx W (hSW.trans (hb.mono hSW.size)) hJ hY (Boxed.below hBl hb) h0
/-- Entries of the call's own and a number are told. -/
def RetEs (l : List Ent) (er : Int) (w : World) (e : Ending) (w' : World) : Prop := ∃ a n c, e = .returned (.tuple #[.slice a n c, .int .i64 er]) ∧ AccE w' w.heap.size a n c l ∧ Below w.heap.size w w'
theorem ret_es_nil {w w' : World} {er : Int} (hb : Below w.heap.size w w') : RetEs [] er w (.returned (.tuple #[.slice none 0 0, .int .i64 er])) w' := ⟨_, _, _, rfl, AccE.nil _ _, hb⟩
def Ent.seenOf {n : Nat} (up : Nat) (es : List Ent) (xs : List (Gp n)) : List Ent := xs.flatMap fun x => Ent.seenSeg up (Ent.seg es x.1)
theorem seenOf_snoc {n : Nat} (up : Nat) (es : List Ent) (xs : List (Gp n)) (x : Gp n) : Ent.seenOf up es (xs ++ [x]) = Ent.seenOf up es xs ++ Ent.seenSeg up (Ent.seg es x.1) := by simp [Ent.seenOf]
theorem seenSeg_len (up : Nat) (g : List Ent) : (Ent.seenSeg up g).length ≤ 1 := by unfold Ent.seenSeg; split <;> simp
theorem seenOf_len {n : Nat} (up : Nat) (es : List Ent) : ∀ xs : List (Gp n), (Ent.seenOf up es xs).length ≤ xs.length
  | [] => Nat.le_refl _
  | x :: xs => by
    have := seenOf_len up es xs
    have := seenSeg_len up (Ent.seg es x.1)
    unfold Ent.seenOf at *
    simp only [List.flatMap_cons, List.length_append, List.length_cons]
    omega
/-- What a loop that gathers entries holds between two rounds. -/
def Gath (w : World) (Bo Bl : Nat) (lv : Value) (ls : List Ent) (W : World) : Prop :=
  (∃ a k c, Boxed W Bo 33 (.slice a k c) ∧ AccE W w.heap.size a k c ls) ∧ Boxed W Bl 33 lv ∧ Below w.heap.size w W
theorem Gath.own {β : Type} {w : World} {Bo Bl B : Nat} {lv : Value} {f : β → List Ent} (hB : w.heap.size ≤ B) : OwnFrom B (fun s W => Gath w Bo Bl lv (f s) W) := by
  intro s W W' row hs hg hr
  obtain ⟨⟨a, k, c, h1, h2⟩, h3, h4⟩ := hs
  have hr' : ∀ r, row = some r → ∃ o : Obj, W.heap[r]? = some o ∧ o.isCells = false := fun r e => (hr r e).2
  exact ⟨⟨a, k, c, Boxed.turned h1 hg hr', h2.turned hg hr'⟩, Boxed.turned h3 hg hr', h4.grown hg h4.size (fun k e => Nat.le_trans hB (hr k e).1)⟩
theorem adj_lt {l : List Ent} (h : Ent.adj l l.length) : ∀ (d i : Nat), i + d + 1 < l.length → Ent.lt (nth l i) (nth l (i + d + 1))
  | 0, i, hi => by
    have := h (i + 1) (by omega) hi
    rw [Nat.add_sub_cancel] at this
    exact Ent.cmp_lt.1 this
  | d + 1, i, hi => by
    have h1 := adj_lt h d i (by omega)
    have h2 := h (i + (d + 1) + 1) (by omega) hi
    rw [Nat.add_sub_cancel] at h2
    exact Ent.lt_trans h1 (Ent.cmp_lt.1 h2)
theorem right_pairwise {l : List Ent} (h : Ent.rightB l = true) : l.Pairwise Ent.lt := by
  rw [List.pairwise_iff_getElem]
  intro i j hi hj hij
  have := adj_lt (rightB_spec.1 h).2 (j - i - 1) i (by omega)
  rw [show i + (j - i - 1) + 1 = j by omega, nth_eq _ hi, nth_eq _ hj] at this
  exact this
end Go.Proofs.Ytlipgaefflecaaa
end

section
set_option maxRecDepth 100000
set_option linter.unusedSimpArgs false
namespace Go.Proofs.Ytlipgaefflecaaa
open Go.RowKit
set_option linter.unusedVariables false
namespace Ent

theorem rightB_iff {l : List Ent} : rightB l = true ↔ Right l := by
  constructor
  · intro h
    refine ⟨fun e he => ?_, right_pairwise h⟩
    obtain ⟨i, hi, rfl⟩ := List.getElem_of_mem he
    have := (rightB_spec.1 h).1 i hi
    rw [nth_eq _ hi] at this
    exact this
  · intro h
    refine rightB_spec.2 ⟨fun i hi => ?_, fun i h1 hi => ?_⟩
    · rw [nth_eq _ hi]; exact h.1 _ (List.getElem_mem _)
    · rw [cmp_lt, nth_eq _ (by omega), nth_eq _ hi]
      exact List.pairwise_iff_getElem.1 h.2 (i - 1) i (by omega) hi (by omega)
theorem Right.sub {l m : List Ent} (h : Right l) (hs : List.Sublist m l) : Right m := ⟨fun e he => h.1 e (hs.subset he), h.2.sublist hs⟩
theorem prune_right {l : List Ent} (h : Right l) (keep : Nat) (bottom : Bool) : Right (prune l keep bottom) := h.sub List.filter_sublist
theorem newest_sub {l m : List Ent} {up : Nat} {e : Ent} (h : newest l up e) (hs : ∀ x ∈ m, x ∈ l) : newest m up e := ⟨h.1, fun x hx => h.2 x (hs x hx)⟩
theorem prune_idem (l : List Ent) (keep : Nat) (bottom : Bool) : prune (prune l keep bottom) keep bottom = prune l keep bottom := by
  show (prune l keep bottom).filter (pruneB (prune l keep bottom) keep bottom) = prune l keep bottom
  rw [List.filter_eq_self]
  intro e he
  have h1 := (List.mem_filter.1 he).2
  unfold pruneB at h1 ⊢
  simp only [Bool.or_eq_true, Bool.and_eq_true, decide_eq_true_eq] at h1 ⊢
  rcases h1 with h1 | ⟨h1, h2⟩
  · exact .inl h1
  · exact .inr ⟨newest_sub h1 (fun x hx => (List.mem_filter.1 hx).1), h2⟩
theorem exists_newest {l : List Ent} {keep : Nat} : ∀ (d : Nat) (x : Ent), x ∈ l → x.seq ≤ keep → keep - x.seq ≤ d → ∃ m, m ∈ l ∧ m.key = x.key ∧ newest l keep m ∧ x.seq ≤ m.seq
  | d, x, hx, hk, hd => by
    by_cases hn : newest l keep x
    · exact ⟨x, hx, rfl, hn, Nat.le_refl _⟩
    · have : ∃ y ∈ l, y.key = x.key ∧ y.seq ≤ keep ∧ x.seq < y.seq := by
        apply Classical.byContradiction
        intro hc
        exact hn ⟨hk, fun y hy h1 h2 => by
          rcases Nat.lt_or_ge x.seq y.seq with h | h
          · exact absurd ⟨y, hy, h1, h2, h⟩ hc
          · exact h⟩
      obtain ⟨y, hy, h1, h2, h3⟩ := this
      cases d with
      | zero => omega
      | succ d =>
        obtain ⟨m, g1, g2, g3, g4⟩ := exists_newest d y hy h2 (by omega)
        exact ⟨m, g1, g2.trans h1, g3, by omega⟩
theorem prune_seen (l : List Ent) {keep up : Nat} (bottom : Bool) (h : keep ≤ up) : seen (prune l keep bottom) up = seen l up := by
  have hf : seen (prune l keep bottom) up = l.filter (fun e => seenB (prune l keep bottom) up e && pruneB l keep bottom e) := by
    unfold seen
    conv => lhs; rw [show prune l keep bottom = l.filter (pruneB l keep bottom) from rfl]
    rw [List.filter_filter]
    rfl
  rw [hf]
  unfold seen
  apply List.filter_congr
  intro e he
  rw [Bool.eq_iff_iff]
  have hsub : ∀ x ∈ prune l keep bottom, x ∈ l := fun x hx => (List.mem_filter.1 hx).1
  have hin : ∀ x ∈ l, pruneB l keep bottom x = true → x ∈ prune l keep bottom := fun x hx hp => List.mem_filter.2 ⟨hx, hp⟩
  constructor
  · intro hh
    rw [Bool.and_eq_true] at hh
    obtain ⟨hs, hp⟩ := hh
    unfold seenB at hs ⊢
    rw [Bool.and_eq_true, decide_eq_true_eq] at hs ⊢
    refine ⟨⟨hs.1.1, fun x hx hk hu => ?_⟩, hs.2⟩
    apply Classical.byContradiction
    intro hlt
    cases hpx : pruneB l keep bottom x with
    | true => exact hlt (hs.1.2 x (hin x hx hpx) hk hu)
    | false =>
      have hxk : x.seq ≤ keep := by
        unfold pruneB at hpx
        rw [Bool.or_eq_false_iff, decide_eq_false_iff_not] at hpx
        omega
      obtain ⟨m, g1, g2, g3, g4⟩ := exists_newest (keep - x.seq) x hx hxk (Nat.le_refl _)
      cases hpm : pruneB l keep bottom m with
      | true =>
        have := hs.1.2 m (hin m g1 hpm) (g2.trans hk) (by have := g3.1; omega)
        omega
      | false =>
        unfold pruneB at hp
        rw [Bool.or_eq_true, Bool.and_eq_true, decide_eq_true_eq, decide_eq_true_eq] at hp
        rcases hp with hp | ⟨hp, _⟩
        · omega
        · have := hp.2 m g1 (g2.trans hk) g3.1
          omega
  · intro hs
    unfold seenB at hs
    rw [Bool.and_eq_true, decide_eq_true_eq] at hs
    have hg : e.gone = false := by simpa using hs.2
    have hp : pruneB l keep bottom e = true := by
      unfold pruneB
      rw [Bool.or_eq_true, Bool.and_eq_true, decide_eq_true_eq, decide_eq_true_eq, hg]
      rcases Nat.lt_or_ge keep e.seq with h1 | h1
      · exact .inl h1
      · exact .inr ⟨⟨h1, fun x hx hk hu => hs.1.2 x hx hk (by omega)⟩, rfl⟩
    rw [Bool.and_eq_true]
    refine ⟨?_, hp⟩
    unfold seenB
    rw [Bool.and_eq_true, decide_eq_true_eq]
    exact ⟨newest_sub hs.1 hsub, hs.2⟩
end Ent
end Go.Proofs.Ytlipgaefflecaaa
end

section
set_option maxRecDepth 100000
set_option linter.unusedVariables false
set_option linter.unusedSimpArgs false
namespace Go.Proofs.Ytlipgaefflecaaa

def Cp.wt (e : Ent) : Nat := e.key.length + e.val.length + 16
/-- Is the key of the next one another one? (None: the list is at its end.) -/
def Cp.ends (size s : Nat) (x : Ent) : List Ent → Bool
  | [] => true
  | y :: _ => decide (size ≤ s) && decide (y.key ≠ x.key)
def Cp.cut (size : Nat) : List Ent → List Ent → Nat → List (List Ent)
  | [], _, _ => []
  | x :: rest, cur, sum => if Cp.ends size (sum + Cp.wt x) x rest = true then (cur ++ [x]) :: Cp.cut size rest [] 0 else Cp.cut size rest (cur ++ [x]) (sum + Cp.wt x)
theorem Cp.cut_flatten (size : Nat) : ∀ (l cur : List Ent) (sum : Nat), l ≠ [] → (Cp.cut size l cur sum).flatten = cur ++ l
  | [], _, _, h => absurd rfl h
  | x :: rest, cur, sum, _ => by
    unfold Cp.cut
    by_cases e : Cp.ends size (sum + Cp.wt x) x rest = true
    · rw [if_pos e, List.flatten_cons]
      cases rest with
      | nil => simp [Cp.cut]
      | cons y r => rw [Cp.cut_flatten size (y :: r) [] 0 (by simp)]; simp
    · rw [if_neg e]
      cases rest with
      | nil => simp [Cp.ends] at e
      | cons y r => rw [Cp.cut_flatten size (y :: r) (cur ++ [x]) _ (by simp)]; simp
theorem Cp.cut_ne (size : Nat) : ∀ (l cur : List Ent) (sum : Nat), ∀ p ∈ Cp.cut size l cur sum, p ≠ []
  | [], _, _, p, h => by simp [Cp.cut] at h
  | x :: rest, cur, sum, p, h => by
    unfold Cp.cut at h
    by_cases e : Cp.ends size (sum + Cp.wt x) x rest = true
    · rw [if_pos e] at h
      rcases List.mem_cons.1 h with rfl | h
      · simp
      · exact Cp.cut_ne size rest [] 0 p h
    · rw [if_neg e] at h
      exact Cp.cut_ne size rest _ _ p h
/-- The first part begins with what was gathered, and goes on with the list. -/
theorem Cp.cut_head (size : Nat) : ∀ (l cur : List Ent) (sum : Nat) (p : List Ent) (ps : List (List Ent)), Cp.cut size l cur sum = p :: ps → ∃ t r, t ≠ [] ∧ p = cur ++ t ∧ l = t ++ r
  | [], _, _, p, ps, h => by simp [Cp.cut] at h
  | x :: rest, cur, sum, p, ps, h => by
    unfold Cp.cut at h
    by_cases e : Cp.ends size (sum + Cp.wt x) x rest = true
    · rw [if_pos e] at h
      cases h
      exact ⟨[x], rest, by simp, rfl, rfl⟩
    · rw [if_neg e] at h
      obtain ⟨t, r, h1, h2, h3⟩ := Cp.cut_head size rest _ _ p ps h
      exact ⟨x :: t, r, by simp, by rw [h2]; simp, by rw [h3]; rfl⟩
/-- No key is at the end of one part and at the head of the next. -/
theorem Cp.cut_apart (size : Nat) : ∀ (l cur : List Ent) (sum : Nat), ∀ (a : List (List Ent)) (p q : List Ent) (b : List (List Ent)), Cp.cut size l cur sum = a ++ p :: q :: b → ∀ x y, p.getLast? = some x → q.head? = some y → x.key ≠ y.key
  | [], _, _ => by simp [Cp.cut]
  | z :: rest, cur, sum => by
    intro a p q b h x y hx hy
    unfold Cp.cut at h
    by_cases e : Cp.ends size (sum + Cp.wt z) z rest = true
    · rw [if_pos e] at h
      cases a with
      | nil =>
        simp only [List.nil_append, List.cons.injEq] at h
        obtain ⟨rfl, h⟩ := h
        obtain ⟨t, r, h1, h2, h3⟩ := Cp.cut_head size rest [] 0 q b h
        simp at hx h2
        subst hx h2
        cases rest with
        | nil => simp at h3; exact absurd h3.1 h1
        | cons y' r' =>
          cases q with
          | nil => exact absurd rfl h1
          | cons q0 qs =>
            simp at hy h3
            obtain ⟨rfl, _⟩ := h3
            subst hy
            simp [Cp.ends] at e
            exact fun k => e.2 k.symm
      | cons a0 ar =>
        simp only [List.cons_append, List.cons.injEq] at h
        exact Cp.cut_apart size rest [] 0 ar p q b h.2 x y hx hy
    · rw [if_neg e] at h
      exact Cp.cut_apart size rest _ _ a p q b h x y hx hy
/-- The keys of the parts rise. -/
theorem Cp.cut_rise {size : Nat} {l : List Ent} (hs : l.Pairwise Ent.lt) {i : Nat} (h0 : 0 < i) (hi : i < (Cp.cut size l [] 0).length) :
    Ent.klt (nth (nth (Cp.cut size l [] 0) (i - 1)) ((nth (Cp.cut size l [] 0) (i - 1)).length - 1)).key (nth (nth (Cp.cut size l [] 0) i) 0).key = true := by
  have hl : l ≠ [] := fun e => by subst e; simp [Cp.cut] at hi
  have hf := Cp.cut_flatten size l [] 0 hl
  have hne := Cp.cut_ne size l [] 0
  have hap := Cp.cut_apart size l [] 0
  generalize Cp.cut size l [] 0 = ps at *
  have e1 : ps = ps.take (i - 1) ++ nth ps (i - 1) :: nth ps i :: ps.drop (i + 1) := by
    have h1 := List.take_append_drop (i - 1) ps
    rw [List.drop_eq_getElem_cons (by omega), List.drop_eq_getElem_cons (by omega)] at h1
    rw [nth_eq _ (by omega), nth_eq _ hi]
    have e2 : i - 1 + 1 = i := by omega
    simp only [e2] at h1
    exact h1.symm
  have hp : nth ps (i - 1) ≠ [] := hne _ (by rw [nth_eq _ (by omega)]; exact List.getElem_mem _)
  have hq : nth ps i ≠ [] := hne _ (by rw [nth_eq _ hi]; exact List.getElem_mem _)
  generalize nth ps (i - 1) = p at *
  generalize nth ps i = q at *
  have hpl : 0 < p.length := List.length_pos_iff.2 hp
  have hql : 0 < q.length := List.length_pos_iff.2 hq
  have k1 : p.getLast? = some (nth p (p.length - 1)) := by rw [List.getLast?_eq_getElem?, nth_eq _ (by omega), List.getElem?_eq_getElem]
  have k2 : q.head? = some (nth q 0) := by rw [List.head?_eq_getElem?, nth_eq _ hql, List.getElem?_eq_getElem]
  have h2 := hap _ p q _ e1 _ _ k1 k2
  have h3 : Ent.lt (nth p (p.length - 1)) (nth q 0) := by
    simp only [List.nil_append] at hf
    rw [← hf, e1] at hs
    simp only [List.flatten_append, List.flatten_cons] at hs
    rw [List.pairwise_append] at hs
    have h4 := hs.2.1
    rw [List.pairwise_append] at h4
    refine h4.2.2 _ ?_ _ ?_
    · rw [nth_eq _ (by omega)]; exact List.getElem_mem _
    · rw [List.mem_append]; left; rw [nth_eq _ hql]; exact List.getElem_mem _
  rcases h3 with h3 | h3
  · exact h3
  · exact absurd h3.1 h2
theorem Cp.cut_all (size : Nat) (l : List Ent) : (Cp.cut size l [] 0).flatten = l := by
  cases l with
  | nil => rfl
  | cons x l => exact Cp.cut_flatten size (x :: l) [] 0 (by simp)
theorem Cp.cut_len (size : Nat) : ∀ (l cur : List Ent) (sum : Nat), (Cp.cut size l cur sum).length ≤ l.length
  | [], _, _ => Nat.le_refl _
  | x :: rest, cur, sum => by
    unfold Cp.cut
    by_cases e : Cp.ends size (sum + Cp.wt x) x rest = true
    · rw [if_pos e]; have := Cp.cut_len size rest [] 0; simp only [List.length_cons]; omega
    · rw [if_neg e]; have := Cp.cut_len size rest (cur ++ [x]) (sum + Cp.wt x); simp only [List.length_cons]; omega
end Go.Proofs.Ytlipgaefflecaaa
end

section
namespace Go.Proofs.Ytlipgaefflecaaa
open Go.RowKit
set_option linter.unusedVariables false
namespace Ent

theorem lt_asymm {a b : Ent} (h : lt a b) : ¬ lt b a := fun k => lt_irrefl a (lt_trans h k)
theorem lt_not_eqv {a b : Ent} (h : lt a b) : ¬ eqv a b := fun k => by
  rcases h with h | h
  · rw [k.1, klt_irrefl] at h; cases h
  · have := k.2; omega
theorem eqv_symm {a b : Ent} (h : eqv a b) : eqv b a := ⟨h.1.symm, h.2.symm⟩
theorem eqv_trans {a b c : Ent} (h : eqv a b) (k : eqv b c) : eqv a c := ⟨h.1.trans k.1, h.2.trans k.2⟩
instance (a b : Ent) : Decidable (eqv a b) := inferInstanceAs (Decidable (_ ∧ _))
/-- Lists in order with the same entries are the same. -/
theorem sorted_ext : ∀ {l m : List Ent}, l.Pairwise lt → m.Pairwise lt → (∀ x, x ∈ l ↔ x ∈ m) → l = m
  | [], [], _, _, _ => rfl
  | [], y :: m, _, _, h => by have := (h y).2 (by simp); cases this
  | x :: l, [], _, _, h => by have := (h x).1 (by simp); cases this
  | x :: l, y :: m, hl, hm, h => by
    rw [List.pairwise_cons] at hl hm
    have hxy : x = y := by
      rcases List.mem_cons.1 ((h x).1 (by simp)) with h1 | h1
      · exact h1
      · rcases List.mem_cons.1 ((h y).2 (by simp)) with h2 | h2
        · exact h2.symm
        · exact absurd (hm.1 x h1) (lt_asymm (hl.1 y h2))
    subst hxy
    congr 1
    refine sorted_ext hl.2 hm.2 fun z => ⟨fun hz => ?_, fun hz => ?_⟩
    · rcases List.mem_cons.1 ((h z).1 (by simp [hz])) with h1 | h1
      · subst h1; exact absurd (hl.1 z hz) (lt_irrefl z)
      · exact h1
    · rcases List.mem_cons.1 ((h z).2 (by simp [hz])) with h1 | h1
      · subst h1; exact absurd (hm.1 z hz) (lt_irrefl z)
      · exact h1
/-- Two lists as one; of the same the first one's. -/
def two : List Ent → List Ent → List Ent
  | [], b => b
  | x :: a, [] => x :: a
  | x :: a, y :: b => if cmp x y = -1 then x :: two a (y :: b) else if cmp x y = 0 then x :: two a b else y :: two (x :: a) b
termination_by a b => a.length + b.length
theorem two_nil (b : List Ent) : two [] b = b := by rw [two]
theorem two_nil_right (a : List Ent) : two a [] = a := by cases a <;> rw [two]
theorem two_cons (x y : Ent) (a b : List Ent) : two (x :: a) (y :: b) = if cmp x y = -1 then x :: two a (y :: b) else if cmp x y = 0 then x :: two a b else y :: two (x :: a) b := by rw [two]
theorem two_spec : ∀ (n : Nat) (a b : List Ent), a.length + b.length ≤ n → a.Pairwise lt → b.Pairwise lt → (two a b).Pairwise lt ∧ ∀ x, x ∈ two a b ↔ x ∈ a ∨ (x ∈ b ∧ ∀ y ∈ a, ¬ eqv y x)
  | n, [], b, _, _, hb => by rw [two_nil]; exact ⟨hb, fun x => by simp⟩
  | n, x :: a, [], _, ha, _ => by rw [two_nil_right]; exact ⟨ha, fun z => by simp⟩
  | 0, x :: a, y :: b, h, _, _ => by simp at h
  | n + 1, x :: a, y :: b, h, ha, hb => by
    simp only [List.length_cons] at h
    have ha' := List.pairwise_cons.1 ha
    have hb' := List.pairwise_cons.1 hb
    rw [two_cons]
    by_cases h1 : cmp x y = -1
    · rw [if_pos h1]
      have hlt := cmp_lt.1 h1
      obtain ⟨s, m⟩ := two_spec n a (y :: b) (by simp only [List.length_cons]; omega) ha'.2 hb
      have hxb : ∀ z ∈ y :: b, lt x z := fun z hz => by
        rcases List.mem_cons.1 hz with e | e
        · rw [e]; exact hlt
        · exact lt_trans hlt (hb'.1 z e)
      refine ⟨List.pairwise_cons.2 ⟨fun z hz => ?_, s⟩, fun z => ?_⟩
      · rcases (m z).1 hz with e | e
        · exact ha'.1 z e
        · exact hxb z e.1
      · rw [List.mem_cons, m z, (List.mem_cons : z ∈ x :: a ↔ _)]
        constructor
        · rintro (e | e | e)
          · exact .inl (.inl e)
          · exact .inl (.inr e)
          · refine .inr ⟨e.1, fun u hu => ?_⟩
            rcases List.mem_cons.1 hu with k | k
            · rw [k]; exact lt_not_eqv (hxb z e.1)
            · exact e.2 u k
        · rintro ((e | e) | e)
          · exact .inl e
          · exact .inr (.inl e)
          · exact .inr (.inr ⟨e.1, fun u hu => e.2 u (by simp [hu])⟩)
    · rw [if_neg h1]
      by_cases h2 : cmp x y = 0
      · rw [if_pos h2]
        have heq := cmp_eq.1 h2
        obtain ⟨s, m⟩ := two_spec n a b (by omega) ha'.2 hb'.2
        have hxb : ∀ z ∈ b, lt x z := fun z hz => eqv_lt heq (hb'.1 z hz)
        refine ⟨List.pairwise_cons.2 ⟨fun z hz => ?_, s⟩, fun z => ?_⟩
        · rcases (m z).1 hz with e | e
          · exact ha'.1 z e
          · exact hxb z e.1
        · rw [List.mem_cons, m z, (List.mem_cons : z ∈ x :: a ↔ _)]
          constructor
          · rintro (e | e | e)
            · exact .inl (.inl e)
            · exact .inl (.inr e)
            · refine .inr ⟨by simp [e.1], fun u hu => ?_⟩
              rcases List.mem_cons.1 hu with k | k
              · rw [k]; exact lt_not_eqv (hxb z e.1)
              · exact e.2 u k
          · rintro ((e | e) | e)
            · exact .inl e
            · exact .inr (.inl e)
            · rcases List.mem_cons.1 e.1 with k | k
              · exact absurd (by rw [k]; exact heq) (e.2 x (by simp))
              · exact .inr (.inr ⟨k, fun u hu => e.2 u (by simp [hu])⟩)
      · rw [if_neg h2]
        have hlt : lt y x := by
          rcases cmp_cases x y with k | k | k
          · exact absurd k h1
          · exact absurd k h2
          · exact cmp_gt.1 k
        obtain ⟨s, m⟩ := two_spec n (x :: a) b (by simp only [List.length_cons]; omega) ha hb'.2
        have hya : ∀ z ∈ x :: a, lt y z := fun z hz => by
          rcases List.mem_cons.1 hz with e | e
          · rw [e]; exact hlt
          · exact lt_trans hlt (ha'.1 z e)
        refine ⟨List.pairwise_cons.2 ⟨fun z hz => ?_, s⟩, fun z => ?_⟩
        · rcases (m z).1 hz with e | e
          · exact hya z e
          · exact hb'.1 z e.1
        · rw [List.mem_cons, m z]
          constructor
          · rintro (e | e | e)
            · exact .inr ⟨by simp [e], fun u hu => by rw [e]; exact fun k => lt_not_eqv (hya u hu) (eqv_symm k)⟩
            · exact .inl e
            · exact .inr ⟨by simp [e.1], e.2⟩
          · rintro (e | e)
            · exact .inr (.inl e)
            · rcases List.mem_cons.1 e.1 with k | k
              · exact .inl k
              · exact .inr (.inr ⟨k, e.2⟩)
theorem two_sorted {a b : List Ent} (ha : a.Pairwise lt) (hb : b.Pairwise lt) : (two a b).Pairwise lt := (two_spec _ a b (Nat.le_refl _) ha hb).1
theorem mem_two {a b : List Ent} (ha : a.Pairwise lt) (hb : b.Pairwise lt) (x : Ent) : x ∈ two a b ↔ x ∈ a ∨ (x ∈ b ∧ ∀ y ∈ a, ¬ eqv y x) := (two_spec _ a b (Nat.le_refl _) ha hb).2 x
theorem two_len : ∀ (n : Nat) (a b : List Ent), a.length + b.length ≤ n → (two a b).length ≤ a.length + b.length
  | n, [], b, _ => by rw [two_nil]; omega
  | n, x :: a, [], _ => by rw [two_nil_right]; omega
  | 0, x :: a, y :: b, h => by simp at h
  | n + 1, x :: a, y :: b, h => by
    simp only [List.length_cons] at h
    rw [two_cons]
    split
    · have := two_len n a (y :: b) (by simp only [List.length_cons]; omega)
      simp only [List.length_cons] at this ⊢; omega
    · split
      · have := two_len n a b (by omega)
        simp only [List.length_cons]; omega
      · have := two_len n (x :: a) b (by simp only [List.length_cons]; omega)
        simp only [List.length_cons] at this ⊢; omega
/-- Lists as one. -/
def mergeL (ls : List (List Ent)) : List Ent := ls.foldl two []
/-- An entry is of lists: none of the same is in an earlier one. -/
def InL : List (List Ent) → Ent → Prop
  | [], _ => False
  | l :: ls, x => x ∈ l ∨ (InL ls x ∧ ∀ y ∈ l, ¬ eqv y x)
theorem foldl_two : ∀ (ls : List (List Ent)) (acc : List Ent), acc.Pairwise lt → (∀ l ∈ ls, l.Pairwise lt) → (ls.foldl two acc).Pairwise lt ∧ ∀ x, x ∈ ls.foldl two acc ↔ x ∈ acc ∨ (InL ls x ∧ ∀ y ∈ acc, ¬ eqv y x)
  | [], acc, ha, _ => ⟨ha, fun x => by simp [InL]⟩
  | l :: ls, acc, ha, hl => by
    have hl1 := hl l (by simp)
    obtain ⟨s, m⟩ := foldl_two ls (two acc l) (two_sorted ha hl1) (fun k hk => hl k (by simp [hk]))
    refine ⟨s, fun x => ?_⟩
    rw [List.foldl_cons, m x, mem_two ha hl1]
    have hall : (∀ y ∈ two acc l, ¬ eqv y x) ↔ (∀ y ∈ acc, ¬ eqv y x) ∧ (∀ y ∈ l, ¬ eqv y x) := by
      constructor
      · intro h
        refine ⟨fun y hy => h y ((mem_two ha hl1 y).2 (.inl hy)), fun y hy he => ?_⟩
        by_cases hc : ∃ u ∈ acc, eqv u y
        · obtain ⟨u, hu, hue⟩ := hc
          exact h u ((mem_two ha hl1 u).2 (.inl hu)) (eqv_trans hue he)
        · exact h y ((mem_two ha hl1 y).2 (.inr ⟨hy, fun u hu hue => hc ⟨u, hu, hue⟩⟩)) he
      · rintro ⟨h1, h2⟩ y hy
        rcases (mem_two ha hl1 y).1 hy with h | h
        · exact h1 y h
        · exact h2 y h.1
    rw [hall]
    simp only [InL]
    constructor
    · rintro ((h | h) | h)
      · exact .inl h
      · exact .inr ⟨.inl h.1, h.2⟩
      · exact .inr ⟨.inr ⟨h.1, h.2.2⟩, h.2.1⟩
    · rintro (h | ⟨h | h, h2⟩)
      · exact .inl (.inl h)
      · exact .inl (.inr ⟨h, h2⟩)
      · exact .inr ⟨h.1, h2, h.2⟩
theorem merge_sorted {ls : List (List Ent)} (h : ∀ l ∈ ls, l.Pairwise lt) : (mergeL ls).Pairwise lt := (foldl_two ls [] List.Pairwise.nil h).1
theorem mem_merge {ls : List (List Ent)} (h : ∀ l ∈ ls, l.Pairwise lt) (x : Ent) : x ∈ mergeL ls ↔ InL ls x := by
  rw [show mergeL ls = ls.foldl two [] from rfl, (foldl_two ls [] List.Pairwise.nil h).2 x]
  simp
theorem InL_mem : ∀ {ls : List (List Ent)} {x : Ent}, InL ls x → ∃ l ∈ ls, x ∈ l
  | [], _, h => h.elim
  | l :: ls, x, h => by
    rcases h with h | h
    · exact ⟨l, by simp, h⟩
    · obtain ⟨k, hk, hx⟩ := InL_mem h.1
      exact ⟨k, by simp [hk], hx⟩
theorem merge_right {ls : List (List Ent)} (h : ∀ l ∈ ls, Right l) : Right (mergeL ls) := by
  have hs : ∀ l ∈ ls, l.Pairwise lt := fun l hl => (h l hl).2
  refine ⟨fun e he => ?_, merge_sorted hs⟩
  obtain ⟨l, hl, hx⟩ := InL_mem ((mem_merge hs e).1 he)
  exact (h l hl).1 e hx
/-- What is left behind the same ones. -/
def dropEq (e : Ent) (l : List Ent) : List Ent := l.dropWhile (fun x => decide (eqv x e))
theorem dropEq_nil (e : Ent) : dropEq e [] = [] := rfl
theorem dropEq_cons (e x : Ent) (l : List Ent) : dropEq e (x :: l) = if eqv x e then dropEq e l else x :: l := by
  unfold dropEq
  rw [List.dropWhile_cons]
  by_cases h : eqv x e <;> simp [h]
/-- All of a list comes behind e, or is the same. -/
def Behind (e : Ent) (l : List Ent) : Prop := ∀ x ∈ l, lt e x ∨ eqv e x
theorem dropEq_mem {e : Ent} : ∀ {l : List Ent}, l.Pairwise lt → Behind e l → ∀ z, z ∈ dropEq e l ↔ z ∈ l ∧ ¬ eqv e z
  | [], _, _, z => by simp [dropEq_nil]
  | x :: l, h, hb, z => by
    rw [dropEq_cons]
    have h' := List.pairwise_cons.1 h
    by_cases hx : eqv x e
    · rw [if_pos hx, dropEq_mem h'.2 (fun y hy => hb y (by simp [hy]))]
      constructor
      · rintro ⟨h1, h2⟩; exact ⟨by simp [h1], h2⟩
      · rintro ⟨h1, h2⟩
        rcases List.mem_cons.1 h1 with k | k
        · exact absurd (by rw [k]; exact eqv_symm hx) h2
        · exact ⟨k, h2⟩
    · rw [if_neg hx]
      have hlt : lt e x := by
        rcases hb x (by simp) with k | k
        · exact k
        · exact absurd (eqv_symm k) hx
      constructor
      · intro hz
        refine ⟨hz, ?_⟩
        rcases List.mem_cons.1 hz with k | k
        · rw [k]; exact lt_not_eqv hlt
        · exact lt_not_eqv (lt_trans hlt (h'.1 z k))
      · exact fun hz => hz.1
theorem dropEq_sorted {e : Ent} {l : List Ent} (h : l.Pairwise lt) : (dropEq e l).Pairwise lt := h.sublist (List.dropWhile_sublist _)
theorem InL_map {e : Ent} : ∀ {ls : List (List Ent)}, (∀ l ∈ ls, l.Pairwise lt) → (∀ l ∈ ls, Behind e l) → ∀ z, InL (ls.map (dropEq e)) z ↔ InL ls z ∧ ¬ eqv e z
  | [], _, _, z => by simp [InL]
  | l :: ls, hs, hb, z => by
    have ih := InL_map (ls := ls) (fun k hk => hs k (by simp [hk])) (fun k hk => hb k (by simp [hk])) z
    have hm := dropEq_mem (hs l (by simp)) (hb l (by simp))
    simp only [List.map_cons, InL]
    rw [ih, hm z]
    constructor
    · rintro (⟨h1, h2⟩ | ⟨⟨h1, h2⟩, h3⟩)
      · exact ⟨.inl h1, h2⟩
      · exact ⟨.inr ⟨h1, fun y hy he => h3 y ((hm y).2 ⟨hy, fun k => h2 (eqv_trans k he)⟩) he⟩, h2⟩
    · rintro ⟨h1 | h1, h2⟩
      · exact .inl ⟨h1, h2⟩
      · exact .inr ⟨⟨h1.1, h2⟩, fun y hy => h1.2 y ((hm y).1 hy).1⟩
theorem InL_append : ∀ {p q : List (List Ent)} {z : Ent}, InL (p ++ q) z ↔ InL p z ∨ (InL q z ∧ ∀ l ∈ p, ∀ y ∈ l, ¬ eqv y z)
  | [], q, z => by simp [InL]
  | l :: p, q, z => by
    simp only [List.cons_append, InL]
    rw [InL_append]
    constructor
    · rintro (h | ⟨h | h, h2⟩)
      · exact .inl (.inl h)
      · exact .inl (.inr ⟨h, h2⟩)
      · refine .inr ⟨h.1, fun k hk => ?_⟩
        rcases List.mem_cons.1 hk with e | e
        · rw [e]; exact h2
        · exact h.2 k e
    · rintro ((h | h) | h)
      · exact .inl h
      · exact .inr ⟨.inl h.1, h.2⟩
      · exact .inr ⟨.inr ⟨h.1, fun k hk => h.2 k (by simp [hk])⟩, h.2 l (by simp)⟩
/-- The least head is taken; of the same the first list's. -/
theorem merge_take {p q : List (List Ent)} {e : Ent} {r : List Ent} (hs : ∀ l ∈ p ++ (e :: r) :: q, l.Pairwise lt) (hp : ∀ l ∈ p, ∀ x ∈ l, lt e x) (hq : ∀ l ∈ q, Behind e l) :
    mergeL (p ++ (e :: r) :: q) = e :: mergeL ((p ++ (e :: r) :: q).map (dropEq e)) := by
  have her := hs (e :: r) (by simp)
  have her' := List.pairwise_cons.1 her
  have hb : ∀ l ∈ p ++ (e :: r) :: q, Behind e l := fun l hl => by
    rcases List.mem_append.1 hl with h | h
    · exact fun x hx => .inl (hp l h x hx)
    · rcases List.mem_cons.1 h with h | h
      · rw [h]
        intro x hx
        rcases List.mem_cons.1 hx with k | k
        · rw [k]; exact .inr ⟨rfl, rfl⟩
        · exact .inl (her'.1 x k)
      · exact hq l h
  have hs' : ∀ l ∈ (p ++ (e :: r) :: q).map (dropEq e), l.Pairwise lt := fun l hl => by
    obtain ⟨k, hk, rfl⟩ := List.mem_map.1 hl
    exact dropEq_sorted (hs k hk)
  refine sorted_ext (merge_sorted hs) (List.pairwise_cons.2 ⟨fun z hz => ?_, merge_sorted hs'⟩) fun z => ?_
  · have h1 := (InL_map hs hb z).1 ((mem_merge hs' z).1 hz)
    obtain ⟨l, hl, hx⟩ := InL_mem h1.1
    rcases hb l hl z hx with k | k
    · exact k
    · exact absurd k h1.2
  · rw [mem_merge hs, List.mem_cons, mem_merge hs', InL_map hs hb]
    constructor
    · intro h
      by_cases hez : eqv e z
      · left
        rcases InL_append.1 h with k | ⟨k, _⟩
        · obtain ⟨l, hl, hx⟩ := InL_mem k
          exact absurd hez (lt_not_eqv (hp l hl z hx))
        · rcases k with k | ⟨_, k⟩
          · rcases List.mem_cons.1 k with j | j
            · exact j
            · exact absurd hez (lt_not_eqv (her'.1 z j))
          · exact absurd hez (k e (by simp))
      · exact .inr ⟨h, hez⟩
    · rintro (h | h)
      · subst h
        exact InL_append.2 (.inr ⟨.inl (by simp), fun l hl y hy k => lt_not_eqv (hp l hl y hy) (eqv_symm k)⟩)
      · exact h.1
theorem merge_none {ls : List (List Ent)} (h : ∀ l ∈ ls, l = []) : mergeL ls = [] := by
  cases hm : mergeL ls with
  | nil => rfl
  | cons x m =>
    have hs : ∀ l ∈ ls, l.Pairwise lt := fun l hl => by rw [h l hl]; exact List.Pairwise.nil
    obtain ⟨l, hl, hx⟩ := InL_mem ((mem_merge hs x).1 (by rw [hm]; simp))
    rw [h l hl] at hx
    cases hx
end Ent
end Go.Proofs.Ytlipgaefflecaaa
end

section
set_option maxRecDepth 100000
set_option linter.unusedSimpArgs false
namespace Go.Proofs.Ytlipgaefflecaaa
open Go.RowKit
set_option linter.unusedVariables false

theorem choose_cells {n : Nat} {R : Nat → Value → Prop} (h : ∀ i, i < n → ∃ v, R i v) : ∃ cs : List Value, cs.length = n ∧ ∀ i, i < n → ∃ v, cs[i]? = some v ∧ R i v := by
  induction n with
  | zero => exact ⟨[], rfl, fun i hi => by omega⟩
  | succ n ih =>
    obtain ⟨l, hl, hR⟩ := ih (fun i hi => h i (by omega))
    obtain ⟨x, hx⟩ := h n (by omega)
    refine ⟨l ++ [x], by simp [hl], fun i hi => ?_⟩
    by_cases e : i = n
    · subst e; exact ⟨x, by rw [← hl]; simp, hx⟩
    · obtain ⟨v, h1, h2⟩ := hR i (by omega)
      exact ⟨v, by rw [List.getElem?_append_left (by omega)]; exact h1, h2⟩
/-- Slices of entries that are read. -/
def Ess (w : World) (a : Option Addr) (n c : Nat) (ls : List (List Ent)) : Prop :=
  ls.length = n ∧ n ≤ c ∧ c ≤ maxLen ∧ ∀ i, i < n → ∃ b off ai ni ci, a = some ⟨b, off, none⟩ ∧ w.cell? ⟨b, off + i, none⟩ = some (.slice ai ni ci) ∧ Es w ai ni ci (nth ls i)
theorem Ess.below {w w' : World} {a : Option Addr} {n c : Nat} {ls : List (List Ent)} (h : Ess w a n c ls) (k : Below w.heap.size w w') : Ess w' a n c ls :=
  ⟨h.1, h.2.1, h.2.2.1, fun i hi => by obtain ⟨b, off, ai, ni, ci, h1, h2, h3⟩ := h.2.2.2 i hi; exact ⟨b, off, ai, ni, ci, h1, cell_later k h2, h3.below k⟩⟩
theorem Ess.le {w : World} {a : Option Addr} {n c : Nat} {ls : List (List Ent)} (h : Ess w a n c ls) : n ≤ 9223372036854775807 ∧ c ≤ 9223372036854775807 := by
  have := h.2.1; have := h.2.2.1; simp only [maxLen] at *; omega
theorem Ess.get {w : World} {a : Option Addr} {n c : Nat} {ls : List (List Ent)} (h : Ess w a n c ls) {i : Nat} (hi : i < n) :
    ∃ b off ai ni ci, a = some ⟨b, off, none⟩ ∧ w.cell? ⟨b, off + i, none⟩ = some (.slice ai ni ci) ∧ Es w ai ni ci (nth ls i) := h.2.2.2 i hi
theorem Ess.nil (w : World) : Ess w none 0 0 [] := ⟨rfl, Nat.le_refl _, by simp [maxLen], fun i hi => by omega⟩
theorem infoEs : (Try.prog.info? 33).map (fun i => (i.zero, i.size, i.bytes)) = some (some (.slice none 0 0), 1, 24) := by kernel_rfl
/-- A row of slices of the call's own; what they read lies in an elder world. -/
structure LR (w0 w : World) (a : Option Addr) (n c : Nat) (ls : List (List Ent)) : Prop where
  len : ls.length = n
  row : ∃ cs, w.ownsRow w0.heap.size 33 1 (.slice a n c) n cs ∧ ∀ i, i < n → ∃ ai ni ci, cs[i]? = some (.slice ai ni ci) ∧ Es w0 ai ni ci (nth ls i)
theorem LR.below {w0 w w' : World} {a : Option Addr} {n c : Nat} {ls : List (List Ent)} (h : LR w0 w a n c ls) (hb : Below w.heap.size w w') : LR w0 w' a n c ls := by
  obtain ⟨cs, h1, h2⟩ := h.row
  exact ⟨h.len, cs, own_below h1 hb, h2⟩
theorem LR.get {w0 w : World} {a : Option Addr} {n c : Nat} {ls : List (List Ent)} (h : LR w0 w a n c ls) {i : Nat} (hi : i < n) :
    ∃ g ai ni ci, a = some ⟨g, 0, none⟩ ∧ w.cell? ⟨g, i, none⟩ = some (.slice ai ni ci) ∧ w.frozen? ⟨g, i, none⟩ = false ∧ w0.heap.size ≤ g ∧ g < w.heap.size ∧ Es w0 ai ni ci (nth ls i) := by
  obtain ⟨cs, h1, h2⟩ := h.row
  obtain ⟨ai, ni, ci, g1, g2⟩ := h2 i hi
  rcases h1.2 with ⟨e, e0⟩ | ⟨g, cap, cur, e, hg, hgb, _⟩
  · omega
  · cases e
    have hc := h1.cells (g := g) rfl i _ g1
    rw [Addr.add_lit, Nat.zero_add] at hc
    exact ⟨g, ai, ni, ci, rfl, hc, by simp [World.frozen?, hgb], hg, (Array.getElem?_eq_some_iff.1 hgb).1, g2⟩
theorem LR.cap {w0 w : World} {a : Option Addr} {n c : Nat} {ls : List (List Ent)} (h : LR w0 w a n c ls) : n ≤ c ∧ c ≤ maxLen := by
  obtain ⟨cs, h1, _⟩ := h.row
  exact (own_cap h1).2
/-- One slice of the row is written. -/
theorem LR.set {w0 w : World} {g n c i : Nat} {ls : List (List Ent)} (h : LR w0 w (some ⟨g, 0, none⟩) n c ls) (hi : i < n) {ai : Option Addr} {ni ci : Nat} {l : List Ent} (hl : Es w0 ai ni ci l) :
    LR w0 (w.setCell ⟨g, i, none⟩ (.slice ai ni ci)) (some ⟨g, 0, none⟩) n c (ls.set i l) := by
  obtain ⟨cs, h1, h2⟩ := h.row
  have hcl : cs.length = n := by simpa using h1.1
  have hll := h.len
  refine ⟨by simp [hll], cs.set i (.slice ai ni ci), ?_, fun j hj => ?_⟩
  · refine ⟨by simpa using h1.1, ?_⟩
    rcases h1.2 with ⟨e, _⟩ | ⟨g', cap, cur, e, hg, hgb, hnc, hcm, hcs, htake⟩
    · cases e
    · cases e
      refine .inr ⟨g, c, cur.setIfInBounds i (.slice ai ni ci), rfl, hg, ?_, hnc, hcm, by simpa using hcs, ?_⟩
      · show (w.heap.modify g _)[g]? = _
        obtain ⟨hlt, hk⟩ := Array.getElem?_eq_some_iff.1 hgb
        rw [Array.getElem?_eq_getElem (by rw [Array.size_modify]; exact hlt), Array.getElem_modify_self, hk]
        rfl
      · rw [← htake]
        simp [List.take_set]
  · by_cases e : j = i
    · subst e
      refine ⟨ai, ni, ci, by simp [hcl, hj], ?_⟩
      rw [nth_eq _ (by simp; omega)]
      simpa using hl
    · obtain ⟨aj, nj, cj, g1, g2⟩ := h2 j hj
      refine ⟨aj, nj, cj, by rw [List.getElem?_set_ne (Ne.symm e)]; exact g1, ?_⟩
      rw [nth_eq _ (by simp; omega), List.getElem_set_ne (Ne.symm e), ← nth_eq]
      exact g2
/-- Rows of unlike types lie apart. -/
theorem own_apart {w : World} {B B' e e' s s' n n' : Nat} {v v' : Value} {cs cs' : List Value} (h : w.ownsRow B e s v n cs) (h' : w.ownsRow B' e' s' v' n' cs') (hne : e ≠ e') : v.ownBlock = none ∨ v.ownBlock ≠ v'.ownBlock := by
  rcases h.2 with ⟨rfl, _⟩ | ⟨g, cap, cur, rfl, _, hgb, _⟩
  · exact .inl rfl
  · right
    rcases h'.2 with ⟨rfl, _⟩ | ⟨g', cap', cur', rfl, _, hgb', _⟩
    · simp [Value.ownBlock]
    · intro k
      obtain rfl : g = g' := by simpa [Value.ownBlock] using k
      rw [hgb] at hgb'
      simp at hgb'
      exact hne hgb'.2
theorem LR.evol {w0 w w' : World} {a ao ao' : Option Addr} {n c B k co : Nat} {ls : List (List Ent)} {lo : List Ent} (h : LR w0 w a n c ls) (ho : AccE w B ao k co lo) (hev : Evol w ao w' ao') : LR w0 w' a n c ls := by
  obtain ⟨cs, h1, h2⟩ := h.row
  obtain ⟨cs', h1', _⟩ := ho.row
  refine ⟨h.len, cs, h1.kept hev.1 ?_, h2⟩
  have := own_apart h1 h1' (by decide)
  rw [own_block h1', own_block h1] at this
  rw [own_block h1]
  rcases this with h | h
  · cases a with
    | none =>
      rcases h1.2 with ⟨e, _⟩ | ⟨g, cap, cur, e, _⟩
      · exact .inl rfl
      · cases e
    | some x => cases h
  · exact .inr h
theorem Row.setAt {w : World} {a : Option Addr} {cs : List Value} {p : Addr} {u v : Value} (h : Row w a cs) (hp : w.cell? p = some u) (hu : ∀ x ∈ cs, x ≠ u) : Row (w.setCell p v) a cs := by
  intro j x hx
  obtain ⟨b, off, rfl, hc⟩ := h j x hx
  refine ⟨b, off, rfl, ?_⟩
  by_cases e : (⟨b, off + j, none⟩ : Addr) = p
  · rw [e, hp] at hc
    exact absurd (by simpa using hc.symm) (hu x (List.mem_of_getElem? hx))
  · exact (World.cell?_setCell_other _ _ _ _ (fun k => e k.symm)).trans hc
theorem Bs.setAt {w : World} {a : Option Addr} {n c : Nat} {l : List UInt8} {p : Addr} {q : Option Addr} {m k : Nat} {v : Value} (h : Bs w a n c l) (hp : w.cell? p = some (.slice q m k)) : Bs (w.setCell p v) a n c l :=
  ⟨h.1, h.2.1, h.2.2.1, h.2.2.2.setAt hp (fun x hx e => by
    unfold vs at hx
    obtain ⟨b, _, rfl⟩ := List.mem_map.1 hx
    cases e)⟩
theorem AccE.setAt {w0 w : World} {B k co g n c i : Nat} {ao : Option Addr} {lo : List Ent} {ls : List (List Ent)} {q : Option Addr} {m j : Nat} {v : Value} (h : AccE w B ao k co lo) (hl : LR w0 w (some ⟨g, 0, none⟩) n c ls) (hp : w.cell? ⟨g, i, none⟩ = some (.slice q m j)) :
    AccE (w.setCell ⟨g, i, none⟩ v) B ao k co lo := by
  obtain ⟨cs, h1, h2⟩ := h.row
  obtain ⟨cs', h1', _⟩ := hl.row
  have hgr : w.grownBy (w.setCell ⟨g, i, none⟩ v) (some g) := ⟨rfl, rfl, rfl, by simp, fun k _ hk => Below.heap_setCell _ _ _ k (fun e => hk (by rw [e]))⟩
  refine ⟨h.len, cs, h1.kept hgr ?_, fun i hi => ?_⟩
  · rcases own_apart h1' h1 (by decide) with e | e
    · cases e
    · exact .inr (Ne.symm e)
  · obtain ⟨ai, ci, g1, g2, g3⟩ := h2 i hi
    exact ⟨ai, ci, g1, g2.setAt hp, g3⟩
theorem EntAt.setAt {w : World} {b o g i : Nat} {e : Ent} {a : Option Addr} {c : Nat} {v : Value} (h : EntAt w b o e a c) (hne : b ≠ g) : EntAt (w.setCell ⟨g, i, none⟩ v) b o e a c :=
  have hk : ∀ o, (⟨g, i, none⟩ : Addr) ≠ ⟨b, o, none⟩ := fun o k => hne (by cases k; rfl)
  ⟨(World.cell?_setCell_other _ _ _ _ (hk _)).trans h.key, (World.cell?_setCell_other _ _ _ _ (hk _)).trans h.seq, (World.cell?_setCell_other _ _ _ _ (hk _)).trans h.gone, (World.cell?_setCell_other _ _ _ _ (hk _)).trans h.val⟩
/-- The rest of a slice of entries behind its first. -/
theorem Es.tail {w : World} {a : Option Addr} {n c : Nat} {l : List Ent} (h : Es w a n c l) (hn : 0 < n) : Es w (subAn a c 1 4) (n - 1) (c - 1) (l.drop 1) := by
  have := h.part (lo := 1) (hi := n) (mx := c) hn (Nat.le_refl _) h.2.1 (Nat.le_refl _)
  rwa [List.take_of_length_le (by rw [h.1]; exact Nat.le_refl _)] at this

set_option maxHeartbeats 1000000 in
theorem clonels_any (a : Option Addr) (n c : Nat) (ls : List (List Ent)) (w : World) (h : Ess w a n c ls) (hn : n ≤ 1000000) :
    Calls Try.prog 35 #[.slice a n c] w fun e w' => ∃ a' c', e = .returned (.slice a' n c') ∧ LR w w' a' n c' ls ∧ Below w.heap.size w w' := by
  have hq := fun (w : World) => Lib.run_eql_slice_nil (P := Try.prog) w 22 33 a n c 0 0 Try.underlying22
  have hle := h.le
  cases a with
  | none =>
    go_enter Try.func35, Try.ntmps35
    go_wp2
    go_ret
    have hn0 : n = 0 := by
      rcases Nat.eq_zero_or_pos n with h' | h'
      · exact h'
      · obtain ⟨_, _, _, _, _, h1, _⟩ := h.get h'; cases h1
    subst hn0
    exact ⟨none, 0, rfl, ⟨h.1, [], World.ownsRow_nil w _ _ _, fun i hi => by omega⟩, Below.refl _ _⟩
  | some ad =>
    obtain ⟨i0, hi0, hz0, hz1, hz2⟩ := info_parts infoEs
    obtain ⟨cs, hcl, hcs⟩ := choose_cells (n := n) (R := fun i v => ∃ b off ai ni ci, (some ad : Option Addr) = some ⟨b, off, none⟩ ∧ v = .slice ai ni ci ∧ w.cell? ⟨b, off + i, none⟩ = some v ∧ Es w ai ni ci (nth ls i)) (fun i hi => by
      obtain ⟨b, off, ai, ni, ci, h1, h2, h3⟩ := h.get hi
      exact ⟨_, b, off, ai, ni, ci, h1, rfl, h2, h3⟩)
    have hrow : Row (w.alloc (.cells #[] 33)) (some ad) cs := fun j v hj => by
      have hjn : j < n := by rw [← hcl]; exact (List.getElem?_eq_some_iff.1 hj).1
      obtain ⟨v', hv', b, off, ai, ni, ci, h1, h2, h3, _⟩ := hcs j hjn
      rw [hv'] at hj
      cases hj
      exact ⟨b, off, h1, cell_later (below_alloc1 w _) h3⟩
    have hone : ∀ u ∈ cs, u.oneCell' = true := fun u hu => by
      obtain ⟨j, hj, rfl⟩ := List.getElem_of_mem hu
      obtain ⟨v', hv', b, off, ai, ni, ci, h1, h2, _⟩ := hcs j (by omega)
      rw [List.getElem?_eq_getElem hj] at hv'
      cases hv'
      rw [h2]; rfl
    have hlit : (w.alloc (.cells #[] 33)).ownsRow w.heap.size 33 1 (.slice (some ⟨w.heap.size, 0, none⟩) 0 0) 0 [] :=
      ⟨rfl, .inr ⟨w.heap.size, 0, #[], rfl, Nat.le_refl _, heap_alloc_new w _, Nat.le_refl _, by simp [maxLen], rfl, rfl⟩⟩
    have HROW := Lib.hid hrow
    have HONE := Lib.hid hone
    have HLIT := Lib.hid hlit
    have HCL := Lib.hid hcl
    have HI := Lib.hid (And.intro hi0 (And.intro hz0 (And.intro hz1 hz2)))
    clear hrow hone hlit hcl hi0 hz0 hz1 hz2
    go_enter Try.func35, Try.ntmps35
    go_wp2_with (at_builtin; refine wpList_app_own rfl _ _ 22 rfl w.heap.size 33 i0 (.slice none 0 0) 1 24 Try.underlying22 HI.out.1 HI.out.2.1 HI.out.2.2.1 HI.out.2.2.2 rfl (by decide) (some ⟨w.heap.size, 0, none⟩) 0 0 [] rfl HLIT.out (some ad) n c cs rfl HROW.out (by rw [HCL.out]; simp) HONE.out (by omega) (by simp only [maxLen]; omega) (le_alloc (Nat.le_refl _)) ?_; intro a5 c5 w5 h5 hev5)
    go_ret
    simp only [Nat.zero_add, List.nil_append] at h5
    refine ⟨a5, c5, by simp, ⟨h.1, cs, h5, fun i hi => ?_⟩, (below_alloc1 w _).trans ((hev5.below (B := w.heap.size) (le_alloc (Nat.le_refl _)) (fun x hx => by cases hx; exact Nat.le_refl _)))⟩
    obtain ⟨v', hv', b, off, ai, ni, ci, h1, h2, h3, h4⟩ := hcs i hi
    exact ⟨ai, ni, ci, by rw [hv', h2], h4⟩
end Go.Proofs.Ytlipgaefflecaaa
end
