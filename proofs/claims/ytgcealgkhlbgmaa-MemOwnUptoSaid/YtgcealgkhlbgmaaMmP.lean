/- A node put into a skip list: the chains, plain. -/
import Derived.Test.YtgcealgkhlbgmaaMmN
namespace Go.Proofs.Ytgcealgkhlbgmaa
open Go.RowKit
set_option linter.unusedVariables false

theorem nxt_append (k : Nat) : ∀ (l r : List Nd), nxt k (l ++ r) = if ∃ x ∈ l, k < x.h then nxt k l else nxt k r
  | [], r => by simp
  | x :: l, r => by
    rw [List.cons_append]
    by_cases h : k < x.h
    · rw [if_pos ⟨x, by simp, h⟩]
      simp [nxt, h]
    · have := nxt_append k l r
      simp only [nxt, h, if_false] at this ⊢
      rw [this]
      by_cases e : ∃ y ∈ l, k < y.h
      · rw [if_pos e, if_pos (by obtain ⟨y, hy, hk⟩ := e; exact ⟨y, by simp [hy], hk⟩)]
      · rw [if_neg e, if_neg (by
          rintro ⟨y, hy, hk⟩
          rcases List.mem_cons.1 hy with e1 | e1
          · rw [e1] at hk; exact h hk
          · exact e ⟨y, e1, hk⟩)]
/-- The list with a node put in at place p. -/
def ins (ns : List Nd) (p : Nat) (x : Nd) : List Nd := ns.take p ++ x :: ns.drop p
theorem ins_drop {ns : List Nd} {p i : Nat} (x : Nd) (hp : p ≤ ns.length) (hi : i ≤ p) : (ins ns p x).drop i = (ns.take p).drop i ++ x :: ns.drop p := by
  unfold ins
  rw [List.drop_append_of_le_length (by rw [List.length_take]; omega)]
theorem drop_split {ns : List Nd} {p i : Nat} (hi : i ≤ p) (hp : p ≤ ns.length) : ns.drop i = (ns.take p).drop i ++ ns.drop p := by
  conv => lhs; rw [← List.take_append_drop p ns]
  rw [List.drop_append_of_le_length (by rw [List.length_take]; omega)]
theorem mem_mid {ns : List Nd} {p i : Nat} (hp : p ≤ ns.length) {y : Nd} : y ∈ (ns.take p).drop i ↔ ∃ j, i ≤ j ∧ j < p ∧ y = nth ns j := by
  rw [List.mem_iff_getElem]
  constructor
  · rintro ⟨m, hm, rfl⟩
    simp only [List.length_drop, List.length_take] at hm
    refine ⟨i + m, by omega, by omega, ?_⟩
    rw [List.getElem_drop, List.getElem_take, nth_eq _ (by omega)]
  · rintro ⟨j, h1, h2, rfl⟩
    refine ⟨j - i, by simp only [List.length_drop, List.length_take]; omega, ?_⟩
    rw [List.getElem_drop, List.getElem_take, nth_eq _ (by omega)]
    congr 1
    omega
/-- From the last place on, level k leads behind p. -/
theorem nxt_last {ns : List Nd} {p k i : Nat} (hp : p ≤ ns.length) (h : Last ns p k i) : nxt k (ns.drop i) = nxt k (ns.drop p) := by
  rw [drop_split h.1 hp, nxt_append, if_neg]
  rintro ⟨y, hy, hk⟩
  obtain ⟨j, h1, h2, rfl⟩ := (mem_mid hp).1 hy
  have := h.2.2 j h1 h2
  omega
theorem nxt_ins_last {ns : List Nd} {p k i : Nat} {x : Nd} (hp : p ≤ ns.length) (h : Last ns p k i) (hk : k < x.h) : nxt k ((ins ns p x).drop i) = some x.b := by
  rw [ins_drop x hp h.1, nxt_append, if_neg]
  · simp [nxt, hk]
  · rintro ⟨y, hy, hk⟩
    obtain ⟨j, h1, h2, rfl⟩ := (mem_mid hp).1 hy
    have := h.2.2 j h1 h2
    omega
theorem nxt_ins_other {ns : List Nd} {p k i j : Nat} {x : Nd} (hp : p ≤ ns.length) (h : Last ns p k i) (hj : j ≤ p) (hk : k < ht ns j) (hne : j ≠ i) : nxt k ((ins ns p x).drop j) = nxt k (ns.drop j) := by
  rw [ins_drop x hp hj, drop_split hj hp, nxt_append, nxt_append]
  have hlt : j < i := by
    rcases Nat.lt_or_ge j i with h1 | h1
    · exact h1
    · have h0 : 0 < j := by omega
      have := h.2.2 (j - 1) (by omega) (by omega)
      unfold ht at hk
      rw [if_neg (by omega)] at hk
      omega
  have hex : ∃ y ∈ (ns.take p).drop j, k < y.h := by
    refine ⟨nth ns (i - 1), (mem_mid hp).2 ⟨i - 1, by omega, by have := h.1; omega, rfl⟩, ?_⟩
    have := h.2.1
    unfold ht at this
    rwa [if_neg (by omega)] at this
  rw [if_pos hex, if_pos hex]
theorem nxt_ins_low {ns : List Nd} {p k j : Nat} {x : Nd} (hp : p ≤ ns.length) (hj : j ≤ p) (hk : ¬ k < x.h) : nxt k ((ins ns p x).drop j) = nxt k (ns.drop j) := by
  rw [ins_drop x hp hj, drop_split hj hp, nxt_append, nxt_append]
  simp [nxt, hk]
end Go.Proofs.Ytgcealgkhlbgmaa
