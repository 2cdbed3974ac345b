/- rs, the plain laws: shards that are gone; the data behind one another. -/
import Derived.Test.YtppgbapfmijboaaRsR
set_option maxRecDepth 100000
set_option linter.unusedVariables false
set_option linter.unusedSimpArgs false
namespace Go.Proofs.Ytppgbapfmijboaa
open Go.RowKit Go.Deep

def Rs.gone (K M : Nat) (d : List UInt8) (G : List Nat) : List (List UInt8) := (List.range (K + M)).map fun i => if i ∈ G then [] else nth (Rs.all K M d) i
theorem gone_len (K M : Nat) (d : List UInt8) (G : List Nat) : (Rs.gone K M d G).length = K + M := by simp [Rs.gone]
theorem gone_at {K M : Nat} {d : List UInt8} {G : List Nat} {i : Nat} (h : i < K + M) : nth (Rs.gone K M d G) i = if i ∈ G then [] else nth (Rs.all K M d) i := by
  unfold Rs.gone; rw [nth_map_range _ h]
theorem gone_none (K M : Nat) (d : List UInt8) : Rs.gone K M d [] = Rs.all K M d :=
  list_ext_n (by rw [gone_len, Rs.all, mat_len]) fun i hi => by rw [gone_len] at hi; rw [gone_at hi]; simp
theorem gone_set {K M : Nat} {d : List UInt8} {G : List Nat} {g : Nat} (hg : g < K + M) : (Rs.gone K M d G).set g [] = Rs.gone K M d (G ++ [g]) := by
  refine list_ext_n (by rw [List.length_set, gone_len, gone_len]) fun i hi => ?_
  rw [List.length_set, gone_len] at hi
  rw [gone_at hi, nth_eq _ (by rw [List.length_set, gone_len]; exact hi), List.getElem_set]
  by_cases e : g = i
  · subst e; simp
  · rw [if_neg e, ← nth_eq, gone_at hi]
    by_cases e2 : i ∈ G
    · simp [e2]
    · have : ¬ i ∈ G ++ [g] := by simp [e2]; omega
      rw [if_neg e2, if_neg this]
theorem gone_sub (K M : Nat) (d : List UInt8) (G : List Nat) : Sub K M d (Rs.gone K M d G) :=
  ⟨gone_len _ _ _ _, fun i hi => by
    rw [gone_at hi]
    by_cases e : i ∈ G
    · left; rw [if_pos e]
    · right; rw [if_neg e]⟩
theorem gone_thr {K M : Nat} {d : List UInt8} {G : List Nat} (hn : G.Nodup) (hb : ∀ g ∈ G, g < K + M) : (Rs.thr (Rs.gone K M d G) (K + M)).length + G.length = K + M := by
  have e1 : Rs.thr (Rs.gone K M d G) (K + M) = (List.range (K + M)).filter (fun j => !decide (j ∈ G)) := by
    unfold Rs.thr
    apply List.filter_congr
    intro j hj
    have hj := List.mem_range.1 hj
    rw [gone_at hj]
    by_cases e : j ∈ G
    · simp [e]
    · rw [if_neg e, all_len hj]
      have := wd_pos K d.length
      simp [e]; omega
  have e2 := Gf.filter_split (fun j => decide (j ∈ G)) (List.range (K + M))
  have e3 : ((List.range (K + M)).filter (fun j => decide (j ∈ G))).length = G.length := by
    refine Nat.le_antisymm (Gf.len_le_of_sub (List.Pairwise.filter _ List.nodup_range) fun j hj => ?_) (Gf.len_le_of_sub hn fun j hj => ?_)
    · simpa using (List.mem_filter.1 hj).2
    · exact List.mem_filter.2 ⟨List.mem_range.2 (hb j hj), by simpa using hj⟩
  rw [e1]
  rw [List.length_range] at e2
  omega
theorem gone_lost {K M : Nat} {d : List UInt8} {G : List Nat} (hn : G.Nodup) (hb : ∀ g ∈ G, g < K + M) : Rs.lostB K (Rs.gone K M d G) = decide (M < G.length) := by
  have := gone_thr (d := d) hn hb
  unfold Rs.lostB
  rw [gone_len]
  by_cases e : M < G.length
  · rw [decide_eq_true e, decide_eq_true (by omega)]
  · rw [decide_eq_false e, decide_eq_false (by omega)]

/-! The first shards behind one another. -/
def Rs.front (K M : Nat) (d : List UInt8) (i : Nat) : List UInt8 := ((Rs.all K M d).take (min i K)).flatten
theorem front_step {K M i : Nat} {d : List UInt8} (hi : i < K) : Rs.front K M d (i + 1) = Rs.front K M d i ++ nth (Rs.all K M d) i := by
  unfold Rs.front
  rw [show min (i + 1) K = i + 1 by omega, show min i K = i by omega, take_snoc _ (by rw [Rs.all, mat_len]; omega), List.flatten_append]
  simp
theorem front_stay {K M i : Nat} {d : List UInt8} (hi : ¬ i < K) : Rs.front K M d (i + 1) = Rs.front K M d i := by
  unfold Rs.front
  rw [show min (i + 1) K = min i K by omega]
theorem front_all {K M : Nat} {d : List UInt8} : Rs.front K M d (K + M) = (List.range (K * Rs.wd K d.length)).map (nth d) := by
  unfold Rs.front
  rw [show min (K + M) K = K by omega, Rs.all, mat_take (by omega), data_flat]
theorem front_len {K M : Nat} {d : List UInt8} : ∀ i, (Rs.front K M d i).length ≤ i * Rs.wd K d.length
  | 0 => by unfold Rs.front; simp
  | i + 1 => by
    have ih := front_len (K := K) (M := M) (d := d) i
    by_cases e : i < K
    · rw [front_step e, List.length_append, all_len (by omega), Nat.add_mul, Nat.one_mul]; omega
    · rw [front_stay e, Nat.add_mul, Nat.one_mul]; omega
theorem front_pad {K M : Nat} {d : List UInt8} (hK : 1 ≤ K) : (Rs.front K M d (K + M)).length = K * Rs.wd K d.length ∧ (Rs.front K M d (K + M)).take d.length = d ∧ ∀ j, d.length ≤ j → j < K * Rs.wd K d.length → nth (Rs.front K M d (K + M)) j = 0 := by
  rw [front_all]
  refine ⟨by simp, pad_take (wd_le hK), fun j h1 h2 => ?_⟩
  rw [nth_map_range _ h2]
  exact nth_none h1
/-- No longer than they must be. -/
theorem wd_least {K n : Nat} (hK : 1 ≤ K) (h : 1 < Rs.wd K n) : (Rs.wd K n - 1) * K < n := by
  unfold Rs.wd at *
  obtain ⟨D, hD⟩ : ∃ D, (n + K - 1) / K = D := ⟨_, rfl⟩
  rw [hD] at h ⊢
  have h1 := Nat.div_add_mod (n + K - 1) K
  rw [hD] at h1
  rw [show max 1 D = D by omega]
  obtain ⟨E, rfl⟩ : ∃ E, D = E + 1 := ⟨D - 1, by omega⟩
  rw [Nat.mul_add, Nat.mul_one, Nat.mul_comm] at h1
  rw [Nat.add_sub_cancel]
  omega
end Go.Proofs.Ytppgbapfmijboaa
