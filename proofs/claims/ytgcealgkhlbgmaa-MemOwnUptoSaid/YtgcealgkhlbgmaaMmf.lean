/- What Get tells is what is seen: plain laws. -/
import Derived.Test.YtgcealgkhlbgmaaMmb
namespace Go.Proofs.Ytgcealgkhlbgmaa
open Go.RowKit
set_option linter.unusedVariables false

theorem idx_lt {L : List Ent} {v : Ent} {j : Nat} (h : j < Ent.idx' L v) : Ent.cmp (nth L j) v = -1 := by
  have hl : Ent.idx' L v ≤ L.length := List.findIdx_le_length
  have := List.not_of_lt_findIdx h
  rw [nth_eq _ (by omega)]
  simpa using this
theorem idx_at {L : List Ent} {v : Ent} (h : Ent.idx' L v < L.length) : ¬ Ent.cmp (nth L (Ent.idx' L v)) v = -1 := by
  have := List.findIdx_getElem (w := h)
  rw [nth_eq _ h]
  unfold Ent.idx'
  simpa using this
theorem getAt_iff {L : List Ent} (hs : L.Pairwise Ent.lt) (key : List UInt8) (up : Nat) (x : Ent) : Ent.getAt L key up = some x ↔ x ∈ L ∧ x.key = key ∧ Ent.newest L up x := by
  have hp := List.pairwise_iff_getElem.1 hs
  unfold Ent.getAt
  obtain ⟨p, hpe⟩ : ∃ p, p = Ent.idx' L (key0 key up) := ⟨_, rfl⟩
  have hlo : ∀ j, j < p → Ent.lt (nth L j) (key0 key up) := fun j hj => Ent.cmp_lt.1 (idx_lt (by rw [← hpe]; exact hj))
  have hat : p < L.length → ¬ Ent.lt (nth L p) (key0 key up) := fun h h' => by
    have := idx_at (L := L) (v := key0 key up) (by rw [← hpe]; exact h)
    rw [← hpe] at this
    exact this (Ent.cmp_lt.2 h')
  rw [← hpe]
  clear hpe
  constructor
  · intro h
    split at h
    · rename_i hc
      cases h
      refine ⟨by rw [nth_eq _ hc.1]; exact List.getElem_mem _, hc.2, ?_, fun y hy hk hu => ?_⟩
      · rcases Nat.lt_or_ge up (nth L p).seq with h1 | h1
        · exact absurd (.inr ⟨hc.2, h1⟩) (hat hc.1)
        · exact h1
      · obtain ⟨i, hi, rfl⟩ := List.mem_iff_getElem.1 hy
        rw [← nth_eq _ hi] at hk hu ⊢
        rcases Nat.lt_trichotomy i p with h1 | h1 | h1
        · rcases hlo i h1 with h2 | h2
          · rw [hk, hc.2] at h2
            have h3 : Ent.klt key key = true := h2
            rw [Ent.klt_irrefl] at h3
            cases h3
          · have : up < (nth L i).seq := h2.2
            omega
        · rw [h1]; exact Nat.le_refl _
        · have h2 := hp p i hc.1 hi h1
          rw [← nth_eq _ hc.1, ← nth_eq _ hi] at h2
          rcases h2 with h2 | h2
          · rw [hk, Ent.klt_irrefl] at h2
            cases h2
          · exact Nat.le_of_lt h2.2
    · cases h
  · rintro ⟨hx, hk, hu, hn⟩
    obtain ⟨i, hi, rfl⟩ := List.mem_iff_getElem.1 hx
    rw [← nth_eq _ hi] at hk hu hn ⊢
    have hpi : p ≤ i := by
      rcases Nat.lt_or_ge i p with h1 | h1
      · exfalso
        rcases hlo i h1 with h2 | h2
        · rw [hk] at h2
          have h3 : Ent.klt key key = true := h2
          rw [Ent.klt_irrefl] at h3
          cases h3
        · have : up < (nth L i).seq := h2.2
          omega
      · exact h1
    rcases Nat.eq_or_lt_of_le hpi with h1 | h1
    · subst h1
      rw [if_pos ⟨hi, hk⟩]
    · exfalso
      have hpl : p < L.length := by omega
      have h2 := hp p i hpl hi h1
      rw [← nth_eq _ hpl, ← nth_eq _ hi] at h2
      have h3 := hat hpl
      rcases h2 with h2 | h2
      · rw [hk] at h2
        exact h3 (.inl h2)
      · have hkp : (nth L p).key = key := h2.1.trans hk
        have h4 : (nth L p).seq ≤ up := by
          rcases Nat.lt_or_ge up (nth L p).seq with h5 | h5
          · exact absurd (.inr ⟨hkp, h5⟩) h3
          · exact h5
        have h5 := hn (nth L p) (by rw [nth_eq _ hpl]; exact List.getElem_mem _) (by rw [hkp, hk]) h4
        omega
theorem seen_get {L : List Ent} (hs : L.Pairwise Ent.lt) (up : Nat) (x : Ent) : x ∈ Ent.seen L up ↔ Ent.getAt L x.key up = some x ∧ x.gone = false := by
  unfold Ent.seen
  rw [List.mem_filter, getAt_iff hs]
  unfold Ent.seenB
  simp only [Bool.and_eq_true, decide_eq_true_eq, Bool.not_eq_true']
  constructor
  · rintro ⟨h1, h2, h3⟩; exact ⟨⟨h1, by trivial, h2⟩, h3⟩
  · rintro ⟨⟨h1, _, h2⟩, h3⟩; exact ⟨h1, h2, h3⟩
/-- What stands of a key in what is seen. -/
def Ent.stands (o : Option Ent) : Bool := match o with | some x => !x.gone | none => false
theorem seen_key {L : List Ent} (hs : L.Pairwise Ent.lt) (up : Nat) (key : List UInt8) {k : Nat} (hk : k ≤ (Ent.seen L up).length) (hlo : ∀ j, j < k → (nth (Ent.seen L up) j).key ≠ key) (hat : k < (Ent.seen L up).length → (nth (Ent.seen L up) k).key = key) :
    Ent.stands (Ent.getAt L key up) = decide (k < (Ent.seen L up).length) ∧ (k < (Ent.seen L up).length → Ent.getAt L key up = some (nth (Ent.seen L up) k)) := by
  by_cases h : k < (Ent.seen L up).length
  · have h1 := (seen_get hs up _).1 (by rw [nth_eq _ h]; exact List.getElem_mem _ : nth (Ent.seen L up) k ∈ Ent.seen L up)
    rw [hat h] at h1
    refine ⟨?_, fun _ => h1.1⟩
    rw [h1.1, decide_eq_true h]
    show (!(nth (Ent.seen L up) k).gone) = true
    rw [h1.2]; rfl
  · refine ⟨?_, fun h' => absurd h' h⟩
    rw [decide_eq_false h]
    cases hg : Ent.getAt L key up with
    | none => rfl
    | some x =>
      show (!x.gone) = false
      cases hgo : x.gone with
      | true => rfl
      | false =>
        exfalso
        have hxk := ((getAt_iff hs key up x).1 hg).2.1
        have hx : x ∈ Ent.seen L up := (seen_get hs up x).2 ⟨by rw [hxk]; exact hg, hgo⟩
        obtain ⟨i, hi, e⟩ := List.mem_iff_getElem.1 hx
        exact hlo i (by omega) (by rw [nth_eq _ hi, e]; exact hxk)
end Go.Proofs.Ytgcealgkhlbgmaa
