/- The walk of MergeSteps. -/
import Derived.Test.YtmmlgcfhcdpolaaMgX
import Derived.Test.YtmmlgcfhcdpolaaMgR
namespace Go.Proofs.Ytmmlgcfhcdpolaa
open Go.RowKit
set_option linter.unusedVariables false

theorem two_assoc {a b c : List Ent} (ha : a.Pairwise Ent.lt) (hb : b.Pairwise Ent.lt) (hc : c.Pairwise Ent.lt) : Ent.two (Ent.two a b) c = Ent.two a (Ent.two b c) := by
  have hab := Ent.two_sorted ha hb
  have hbc := Ent.two_sorted hb hc
  refine Ent.sorted_ext (Ent.two_sorted hab hc) (Ent.two_sorted ha hbc) fun x => ?_
  rw [Ent.mem_two hab hc, Ent.mem_two ha hbc, Ent.mem_two ha hb, Ent.mem_two hb hc]
  constructor
  · rintro ((h | h) | ⟨h1, h2⟩)
    · exact .inl h
    · exact .inr ⟨.inl h.1, h.2⟩
    · refine .inr ⟨.inr ⟨h1, fun y hy he => ?_⟩, fun y hy => h2 y ((Ent.mem_two ha hb y).2 (.inl hy))⟩
      by_cases hk : ∃ u ∈ a, Ent.eqv u y
      · obtain ⟨u, hu, hue⟩ := hk
        exact h2 u ((Ent.mem_two ha hb u).2 (.inl hu)) (Ent.eqv_trans hue he)
      · exact h2 y ((Ent.mem_two ha hb y).2 (.inr ⟨hy, fun u hu hue => hk ⟨u, hu, hue⟩⟩)) he
  · rintro (h | ⟨h | ⟨h1, h2⟩, h3⟩)
    · exact .inl (.inl h)
    · exact .inl (.inr ⟨h, h3⟩)
    · refine .inr ⟨h1, fun y hy => ?_⟩
      rcases (Ent.mem_two ha hb y).1 hy with k | k
      · exact h3 y k
      · exact h2 y k.1
theorem ess2 (w : World) {a1 a2 : Option Addr} {n1 c1 n2 c2 : Nat} {l1 l2 : List Ent} (h1 : Es w a1 n1 c1 l1) (h2 : Es w a2 n2 c2 l2) :
    Ess (w.alloc (.cells #[.slice a1 n1 c1, .slice a2 n2 c2] 26)) (some ⟨w.heap.size, 0, none⟩) 2 2 [l1, l2] := by
  have hn := heap_alloc_new w (.cells #[.slice a1 n1 c1, .slice a2 n2 c2] 26)
  have hb := below_alloc1 w (.cells #[.slice a1 n1 c1, .slice a2 n2 c2] 26)
  have hc := fun j => cell_of_row _ _ j _ _ _ hn
  refine ⟨rfl, Nat.le_refl _, by simp [maxLen], fun i hi => ?_⟩
  match i, hi with
  | 0, _ => exact ⟨w.heap.size, 0, _, _, _, rfl, hc 0, h1.below hb⟩
  | 1, _ => exact ⟨w.heap.size, 0, _, _, _, rfl, hc 1, h2.below hb⟩
  | i + 2, hi => omega
theorem ess3 (w : World) {a1 a2 a3 : Option Addr} {n1 c1 n2 c2 n3 c3 : Nat} {l1 l2 l3 : List Ent} (h1 : Es w a1 n1 c1 l1) (h2 : Es w a2 n2 c2 l2) (h3 : Es w a3 n3 c3 l3) :
    Ess (w.alloc (.cells #[.slice a1 n1 c1, .slice a2 n2 c2, .slice a3 n3 c3] 26)) (some ⟨w.heap.size, 0, none⟩) 3 3 [l1, l2, l3] := by
  have hn := heap_alloc_new w (.cells #[.slice a1 n1 c1, .slice a2 n2 c2, .slice a3 n3 c3] 26)
  have hb := below_alloc1 w (.cells #[.slice a1 n1 c1, .slice a2 n2 c2, .slice a3 n3 c3] 26)
  have hc := fun j => cell_of_row _ _ j _ _ _ hn
  refine ⟨rfl, Nat.le_refl _, by simp [maxLen], fun i hi => ?_⟩
  match i, hi with
  | 0, _ => exact ⟨w.heap.size, 0, _, _, _, rfl, hc 0, h1.below hb⟩
  | 1, _ => exact ⟨w.heap.size, 0, _, _, _, rfl, hc 1, h2.below hb⟩
  | 2, _ => exact ⟨w.heap.size, 0, _, _, _, rfl, hc 2, h3.below hb⟩
  | i + 3, hi => omega
/-- A list that is right, its values and its length within bounds. -/
structure Fine (l : List Ent) (m : Nat) : Prop where
  right : Ent.rightB l = true
  val : ∀ e ∈ l, e.val.length ≤ 1000000000
  len : l.length ≤ m
theorem Fine.two {a b : List Ent} {m k : Nat} (ha : Fine a m) (hb : Fine b k) : Fine (Ent.two a b) (m + k) := by
  have hra := Ent.rightB_iff.1 ha.right
  have hrb := Ent.rightB_iff.1 hb.right
  have hm : ∀ e ∈ Ent.two a b, e ∈ a ∨ e ∈ b := fun e he => by
    rcases (Ent.mem_two hra.2 hrb.2 e).1 he with h | h
    · exact .inl h
    · exact .inr h.1
  refine ⟨Ent.rightB_iff.2 ⟨fun e he => ?_, Ent.two_sorted hra.2 hrb.2⟩, fun e he => ?_, ?_⟩
  · rcases hm e he with h | h
    · exact hra.1 e h
    · exact hrb.1 e h
  · rcases hm e he with h | h
    · exact ha.val e h
    · exact hb.val e h
  · have := Ent.two_len _ a b (Nat.le_refl _)
    have := ha.len
    have := hb.len
    omega
theorem merge2_any {a : Option Addr} {l1 l2 : List Ent} {m k : Nat} {w : World} (h : Ess w a 2 2 [l1, l2]) (h1 : Fine l1 m) (h2 : Fine l2 k) (hm : m + k ≤ 900000000) :
    Calls Try.prog 22 #[.slice a 2 2] w (RetEs (Ent.two l1 l2) 0 w) := by
  have hr : Ent.allR [l1, l2] = true := by unfold Ent.allR; simp [h1.right, h2.right]
  have := merge_any a 2 2 [l1, l2] w h (by omega) (fun l hl => by
    simp only [List.mem_cons, List.not_mem_nil, or_false] at hl
    rcases hl with rfl | rfl
    · exact h1.val
    · exact h2.val) (by unfold Ent.sumL; have := h1.len; have := h2.len; simp; omega)
  rw [(allR_yes hr).1, (allR_yes hr).2] at this
  have e : Ent.mergeL [l1, l2] = Ent.two l1 l2 := by unfold Ent.mergeL; simp [Ent.two_nil]
  rw [e] at this
  exact this
theorem merge3_any {a : Option Addr} {l1 l2 l3 : List Ent} {m k j : Nat} {w : World} (h : Ess w a 3 3 [l1, l2, l3]) (h1 : Fine l1 m) (h2 : Fine l2 k) (h3 : Fine l3 j) (hm : m + k + j ≤ 900000000) :
    Calls Try.prog 22 #[.slice a 3 3] w (RetEs (Ent.two (Ent.two l1 l2) l3) 0 w) := by
  have hr : Ent.allR [l1, l2, l3] = true := by unfold Ent.allR; simp [h1.right, h2.right, h3.right]
  have := merge_any a 3 3 [l1, l2, l3] w h (by omega) (fun l hl => by
    simp only [List.mem_cons, List.not_mem_nil, or_false] at hl
    rcases hl with rfl | rfl | rfl
    · exact h1.val
    · exact h2.val
    · exact h3.val) (by unfold Ent.sumL; have := h1.len; have := h2.len; have := h3.len; simp; omega)
  rw [(allR_yes hr).1, (allR_yes hr).2] at this
  have e : Ent.mergeL [l1, l2, l3] = Ent.two (Ent.two l1 l2) l3 := by unfold Ent.mergeL; simp [Ent.two_nil]
  rw [e] at this
  exact this
set_option maxHeartbeats 8000000 in
theorem mergeSteps_walk (a1 a2 a3 : Option Addr) (n1 c1 n2 c2 n3 c3 : Nat) (l1 l2 l3 : List Ent) (w : World) (h1 : Es w a1 n1 c1 l1) (h2 : Es w a2 n2 c2 l2) (h3 : Es w a3 n3 c3 l3) (hf : Ent.totL [l1, l2, l3] + 3 ≤ 1000000000) :
    Calls Try.prog 9 #[.slice a1 n1 c1, .slice a2 n2 c2, .slice a3 n3 c3] w fun e w' => e = .returned (.bool true) ∧ Below w.heap.size w w' := by
  have HE : Hid (∀ W, Below w.heap.size w W → Es W a1 n1 c1 l1 ∧ Es W a2 n2 c2 l2 ∧ Es W a3 n3 c3 l3) := Lib.hid fun W h => ⟨h1.below h, h2.below h, h3.below h⟩
  have HF := Lib.hid hf
  have hle1 := h1.le.1
  have hle2 := h2.le.1
  have hle3 := h3.le.1
  clear h1 h2 h3 hf
  go_enter Try.func9, Try.ntmps9
  go_wp2_with fail
  refine (known_any _).mono ?_
  rintro e w1 ⟨rfl, hb1⟩
  have HB1 := Lib.hid hb1
  clear hb1
  go_wp2_with fail
  refine (few6_any _ 3 3 [l1, l2, l3] _ (ess3 w1 (HE.out _ HB1.out).1 (HE.out _ HB1.out).2.1 (HE.out _ HB1.out).2.2) HF.out).mono ?_
  rintro e w2 ⟨rfl, q, rfl⟩
  have HB2 := Lib.hid (below_drewN (HB1.out.alloc HB1.out.size (.cells #[.slice a1 n1 c1, .slice a2 n2 c2, .slice a3 n3 c3] 26)) q)
  generalize ((w1.alloc (.cells #[.slice a1 n1 c1, .slice a2 n2 c2, .slice a3 n3 c3] 26)).drewN q) = W at *
  cases hfw : Ent.few6 [l1, l2, l3] with
  | false =>
    clear hfw
    go_wp2
    go_ret
    exact ⟨rfl, HB2.out⟩
  | true =>
    have HFW := Lib.hid (few6_yes hfw)
    clear hfw
    go_wp2_with fail
    refine (refright_any _ _ _ l1 _ (HE.out _ HB2.out).1).mono ?_
    rintro e w3 ⟨rfl, hb3⟩
    have HB3 := Lib.hid (HB2.out.trans (hb3.mono HB2.out.size))
    clear hb3
    cases hR1 : Ent.rightB l1 with
    | false =>
      clear hR1
      go_wp2
      go_ret
      exact ⟨rfl, HB3.out⟩
    | true =>
    have F1 : Hid (Fine l1 1000) := Lib.hid ⟨hR1, (HFW.out.2.1 l1 (by simp)).2, (HFW.out.2.1 l1 (by simp)).1⟩
    clear hR1
    go_wp2_with fail
    refine (refright_any _ _ _ l2 _ (HE.out _ HB3.out).2.1).mono ?_
    rintro e w4 ⟨rfl, hb4⟩
    have HB4 := Lib.hid (HB3.out.trans (hb4.mono HB3.out.size))
    clear hb4
    cases hR2 : Ent.rightB l2 with
    | false =>
      clear hR2
      go_wp2
      go_ret
      exact ⟨rfl, HB4.out⟩
    | true =>
    have F2 : Hid (Fine l2 1000) := Lib.hid ⟨hR2, (HFW.out.2.1 l2 (by simp)).2, (HFW.out.2.1 l2 (by simp)).1⟩
    clear hR2
    go_wp2_with fail
    refine (refright_any _ _ _ l3 _ (HE.out _ HB4.out).2.2).mono ?_
    rintro e w5 ⟨rfl, hb5⟩
    have HB5 := Lib.hid (HB4.out.trans (hb5.mono HB4.out.size))
    clear hb5
    cases hR3 : Ent.rightB l3 with
    | false =>
      clear hR3
      go_wp2
      go_ret
      exact ⟨rfl, HB5.out⟩
    | true =>
    have F3 : Hid (Fine l3 1000) := Lib.hid ⟨hR3, (HFW.out.2.1 l3 (by simp)).2, (HFW.out.2.1 l3 (by simp)).1⟩
    clear hR3
    have HAS := Lib.hid (two_assoc (right_pairwise F1.out.right) (right_pairwise F2.out.right) (right_pairwise F3.out.right))
    go_wp2_with fail
    refine (merge3_any (ess3 w5 (HE.out _ HB5.out).1 (HE.out _ HB5.out).2.1 (HE.out _ HB5.out).2.2) F1.out F2.out F3.out (by omega)).mono ?_
    rintro e w6 ⟨a6, n6, c6, rfl, ha6, hb6⟩
    have HB6 := Lib.hid (HB5.out.trans (((below_alloc1 w5 _).trans (hb6.mono (le_alloc (Nat.le_refl _)))).mono HB5.out.size))
    have HA6 := Lib.hid ha6.es
    clear ha6 hb6
    go_wp2_with fail
    refine (merge2_any (ess2 w6 (HE.out _ HB6.out).1 (HE.out _ HB6.out).2.1) F1.out F2.out (by omega)).mono ?_
    rintro e w7 ⟨a7, n7, c7, rfl, ha7, hb7⟩
    have hb67 := (below_alloc1 w6 (.cells #[.slice a1 n1 c1, .slice a2 n2 c2] 26)).trans (hb7.mono (le_alloc (Nat.le_refl _)))
    have HB7 := Lib.hid (HB6.out.trans (hb67.mono HB6.out.size))
    have HA67 := Lib.hid (HA6.out.below hb67)
    have HA7 := Lib.hid ha7.es
    clear ha7 hb7 hb67 HA6
    go_wp2_with fail
    refine (merge2_any (ess2 w7 HA7.out (HE.out _ HB7.out).2.2) (F1.out.two F2.out) F3.out (by omega)).mono ?_
    rintro e w8 ⟨a8, n8', c8, rfl, ha8, hb8⟩
    have hb78 := (below_alloc1 w7 (.cells #[.slice a7 n7 c7, .slice a3 n3 c3] 26)).trans (hb8.mono (le_alloc (Nat.le_refl _)))
    have HB8 := Lib.hid (HB7.out.trans (hb78.mono HB7.out.size))
    have HA68 := Lib.hid (HA67.out.below hb78)
    have HA8 := Lib.hid ha8.es
    clear ha8 hb8 hb78 HA67 HA7
    go_wp2_with fail
    refine (merge2_any (ess2 w8 (HE.out _ HB8.out).2.1 (HE.out _ HB8.out).2.2) F2.out F3.out (by omega)).mono ?_
    rintro e w9 ⟨a9, n9, c9, rfl, ha9, hb9⟩
    have hb89 := (below_alloc1 w8 (.cells #[.slice a2 n2 c2, .slice a3 n3 c3] 26)).trans (hb9.mono (le_alloc (Nat.le_refl _)))
    have HB9 := Lib.hid (HB8.out.trans (hb89.mono HB8.out.size))
    have HA69 := Lib.hid (HA68.out.below hb89)
    have HA89 := Lib.hid (HA8.out.below hb89)
    have HA9 := Lib.hid ha9.es
    clear ha9 hb9 hb89 HA68 HA8
    go_wp2_with fail
    refine (merge2_any (ess2 w9 (HE.out _ HB9.out).1 HA9.out) F1.out (F2.out.two F3.out) (by omega)).mono ?_
    rintro e w10 ⟨a10, n10, c10, rfl, ha10, hb10⟩
    have hb910 := (below_alloc1 w9 (.cells #[.slice a1 n1 c1, .slice a9 n9 c9] 26)).trans (hb10.mono (le_alloc (Nat.le_refl _)))
    have HB10 := Lib.hid (HB9.out.trans (hb910.mono HB9.out.size))
    have HA6a := Lib.hid (HA69.out.below hb910)
    have HA8a := Lib.hid (HA89.out.below hb910)
    have HA10 := Lib.hid ha10.es
    clear ha10 hb10 hb910 HA69 HA89 HA9
    go_wp2_with fail
    refine (srows_same _ _ _ _ _ _ _ _ HA6a.out HA8a.out).mono ?_
    rintro e w11 ⟨rfl, hb11⟩
    have HB11 := Lib.hid (HB10.out.trans (hb11.mono HB10.out.size))
    have HA6b := Lib.hid (HA6a.out.below hb11)
    have HA10b : Hid (Es w11 a10 n10 c10 (Ent.two (Ent.two l1 l2) l3)) := Lib.hid (by rw [HAS.out]; exact HA10.out.below hb11)
    clear hb11
    go_wp2_with fail
    refine (srows_same _ _ _ _ _ _ _ _ HA6b.out HA10b.out).mono ?_
    rintro e w12 ⟨rfl, hb12⟩
    have HB12 := Lib.hid (HB11.out.trans (hb12.mono HB11.out.size))
    clear hb12
    go_wp2
    go_ret
    exact ⟨rfl, HB12.out⟩
end Go.Proofs.Ytmmlgcfhcdpolaa
