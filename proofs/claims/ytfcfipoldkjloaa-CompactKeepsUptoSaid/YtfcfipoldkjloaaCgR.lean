/- Pruned lists: what may be seen; right lists. Plain. -/
import Derived.Test.YtfcfipoldkjloaaMgP
import Derived.Test.YtfcfipoldkjloaaCgJ
set_option maxRecDepth 100000
set_option linter.unusedSimpArgs false
namespace Go.Proofs.Ytfcfipoldkjloaa
open Go.RowKit
set_option linter.unusedVariables false
namespace Ent

theorem rightB_iff {l : List Ent} : rightB l = true ↔ Right l := by
  constructor
  · intro h
    refine ⟨fun e he => ?_, right_pairwise h⟩
    obtain ⟨i, hi, rfl⟩ := List.getElem_of_mem he
    have := (rightB_spec.1 h).1 i hi
    rw [nth_eq _ hi] at this
    exact this
  · intro h
    refine rightB_spec.2 ⟨fun i hi => ?_, fun i h1 hi => ?_⟩
    · rw [nth_eq _ hi]; exact h.1 _ (List.getElem_mem _)
    · rw [cmp_lt, nth_eq _ (by omega), nth_eq _ hi]
      exact List.pairwise_iff_getElem.1 h.2 (i - 1) i (by omega) hi (by omega)
theorem Right.sub {l m : List Ent} (h : Right l) (hs : List.Sublist m l) : Right m := ⟨fun e he => h.1 e (hs.subset he), h.2.sublist hs⟩
theorem prune_right {l : List Ent} (h : Right l) (keep : Nat) (bottom : Bool) : Right (prune l keep bottom) := h.sub List.filter_sublist
theorem newest_sub {l m : List Ent} {up : Nat} {e : Ent} (h : newest l up e) (hs : ∀ x ∈ m, x ∈ l) : newest m up e := ⟨h.1, fun x hx => h.2 x (hs x hx)⟩
theorem prune_idem (l : List Ent) (keep : Nat) (bottom : Bool) : prune (prune l keep bottom) keep bottom = prune l keep bottom := by
  show (prune l keep bottom).filter (pruneB (prune l keep bottom) keep bottom) = prune l keep bottom
  rw [List.filter_eq_self]
  intro e he
  have h1 := (List.mem_filter.1 he).2
  unfold pruneB at h1 ⊢
  simp only [Bool.or_eq_true, Bool.and_eq_true, decide_eq_true_eq] at h1 ⊢
  rcases h1 with h1 | ⟨h1, h2⟩
  · exact .inl h1
  · exact .inr ⟨newest_sub h1 (fun x hx => (List.mem_filter.1 hx).1), h2⟩
theorem exists_newest {l : List Ent} {keep : Nat} : ∀ (d : Nat) (x : Ent), x ∈ l → x.seq ≤ keep → keep - x.seq ≤ d → ∃ m, m ∈ l ∧ m.key = x.key ∧ newest l keep m ∧ x.seq ≤ m.seq
  | d, x, hx, hk, hd => by
    by_cases hn : newest l keep x
    · exact ⟨x, hx, rfl, hn, Nat.le_refl _⟩
    · have : ∃ y ∈ l, y.key = x.key ∧ y.seq ≤ keep ∧ x.seq < y.seq := by
        apply Classical.byContradiction
        intro hc
        exact hn ⟨hk, fun y hy h1 h2 => by
          rcases Nat.lt_or_ge x.seq y.seq with h | h
          · exact absurd ⟨y, hy, h1, h2, h⟩ hc
          · exact h⟩
      obtain ⟨y, hy, h1, h2, h3⟩ := this
      cases d with
      | zero => omega
      | succ d =>
        obtain ⟨m, g1, g2, g3, g4⟩ := exists_newest d y hy h2 (by omega)
        exact ⟨m, g1, g2.trans h1, g3, by omega⟩
theorem prune_seen (l : List Ent) {keep up : Nat} (bottom : Bool) (h : keep ≤ up) : seen (prune l keep bottom) up = seen l up := by
  have hf : seen (prune l keep bottom) up = l.filter (fun e => seenB (prune l keep bottom) up e && pruneB l keep bottom e) := by
    unfold seen
    conv => lhs; rw [show prune l keep bottom = l.filter (pruneB l keep bottom) from rfl]
    rw [List.filter_filter]
    rfl
  rw [hf]
  unfold seen
  apply List.filter_congr
  intro e he
  rw [Bool.eq_iff_iff]
  have hsub : ∀ x ∈ prune l keep bottom, x ∈ l := fun x hx => (List.mem_filter.1 hx).1
  have hin : ∀ x ∈ l, pruneB l keep bottom x = true → x ∈ prune l keep bottom := fun x hx hp => List.mem_filter.2 ⟨hx, hp⟩
  constructor
  · intro hh
    rw [Bool.and_eq_true] at hh
    obtain ⟨hs, hp⟩ := hh
    unfold seenB at hs ⊢
    rw [Bool.and_eq_true, decide_eq_true_eq] at hs ⊢
    refine ⟨⟨hs.1.1, fun x hx hk hu => ?_⟩, hs.2⟩
    apply Classical.byContradiction
    intro hlt
    cases hpx : pruneB l keep bottom x with
    | true => exact hlt (hs.1.2 x (hin x hx hpx) hk hu)
    | false =>
      have hxk : x.seq ≤ keep := by
        unfold pruneB at hpx
        rw [Bool.or_eq_false_iff, decide_eq_false_iff_not] at hpx
        omega
      obtain ⟨m, g1, g2, g3, g4⟩ := exists_newest (keep - x.seq) x hx hxk (Nat.le_refl _)
      cases hpm : pruneB l keep bottom m with
      | true =>
        have := hs.1.2 m (hin m g1 hpm) (g2.trans hk) (by have := g3.1; omega)
        omega
      | false =>
        unfold pruneB at hp
        rw [Bool.or_eq_true, Bool.and_eq_true, decide_eq_true_eq, decide_eq_true_eq] at hp
        rcases hp with hp | ⟨hp, _⟩
        · omega
        · have := hp.2 m g1 (g2.trans hk) g3.1
          omega
  · intro hs
    unfold seenB at hs
    rw [Bool.and_eq_true, decide_eq_true_eq] at hs
    have hg : e.gone = false := by simpa using hs.2
    have hp : pruneB l keep bottom e = true := by
      unfold pruneB
      rw [Bool.or_eq_true, Bool.and_eq_true, decide_eq_true_eq, decide_eq_true_eq, hg]
      rcases Nat.lt_or_ge keep e.seq with h1 | h1
      · exact .inl h1
      · exact .inr ⟨⟨h1, fun x hx hk hu => hs.1.2 x hx hk (by omega)⟩, rfl⟩
    rw [Bool.and_eq_true]
    refine ⟨?_, hp⟩
    unfold seenB
    rw [Bool.and_eq_true, decide_eq_true_eq]
    exact ⟨newest_sub hs.1 hsub, hs.2⟩
end Ent
end Go.Proofs.Ytfcfipoldkjloaa
