/- Stripes beside one another: plain. -/
import Derived.Test.YtincllchoflpmaaMsW
namespace Go.Proofs.Ytincllchoflpmaa
set_option linter.unusedVariables false

theorem rot_len {l : List Int} {s n : Nat} (hn : n ≤ l.length) : (Ms.rot l s n).length = n := by
  unfold Ms.rot
  rw [List.length_take, List.length_append, List.length_drop, List.length_take]
  rcases Nat.eq_zero_or_pos l.length with h | h
  · omega
  · have := Nat.mod_lt s h; omega
theorem rot_perm (l : List Int) (s : Nat) : (Ms.rot l s l.length).Perm l := by
  unfold Ms.rot
  rw [List.take_of_length_le (by rw [List.length_append, List.length_drop, List.length_take]; omega)]
  refine List.perm_append_comm.trans ?_
  rw [List.take_append_drop]
theorem rot_sub (l : List Int) (s n : Nat) : (Ms.rot l s n).Sublist (l.drop (s % l.length) ++ l.take (s % l.length)) := List.take_sublist _ _
theorem rot_mem {l : List Int} {s n : Nat} {x : Int} (h : x ∈ Ms.rot l s n) : x ∈ l := by
  have := (rot_sub l s n).subset h
  rcases List.mem_append.1 this with h | h
  · exact List.mem_of_mem_drop h
  · exact List.mem_of_mem_take h
theorem rot_nodup {l : List Int} (h : l.Nodup) (s n : Nat) : (Ms.rot l s n).Nodup := by
  refine List.Nodup.sublist (rot_sub l s n) ?_
  refine (List.Perm.nodup_iff (List.perm_append_comm.trans (by rw [List.take_append_drop]))).2 h
theorem cut_nth {l : List Int} {q k : Nat} (hq : q < l.length) (hk : k < l.length) : nth (l.drop q ++ l.take q) k = nth l ((q + k) % l.length) := by
  have hlen : (l.drop q ++ l.take q).length = l.length := by rw [List.length_append, List.length_drop, List.length_take]; omega
  rw [nth_eq _ (by omega)]
  by_cases h : k < l.length - q
  · rw [List.getElem_append_left (by rw [List.length_drop]; exact h), List.getElem_drop, Nat.mod_eq_of_lt (by omega), nth_eq _ (by omega)]
  · rw [List.getElem_append_right (by rw [List.length_drop]; omega)]
    have e : (q + k) % l.length = k - (l.length - q) := by
      rw [show q + k = (k - (l.length - q)) + l.length by omega, Nat.add_mod_right, Nat.mod_eq_of_lt (by omega)]
    rw [e, nth_eq _ (by omega), List.getElem_take]
    simp only [List.length_drop]
theorem rot_nth {l : List Int} {s n k : Nat} (hk : k < n) (hn : n ≤ l.length) : nth (Ms.rot l s n) k = nth l ((s + k) % l.length) := by
  have hm : 0 < l.length := by omega
  unfold Ms.rot
  have hq := Nat.mod_lt s hm
  rw [nth_take _ hk (by rw [List.length_append, List.length_drop, List.length_take]; omega), cut_nth hq (by omega), Nat.mod_add_mod]
/-- All that stripes side by side hold. -/
def Ms.seenL (l : List Int) (s n i : Nat) : List Int := (List.range i).flatMap (fun j => Ms.rot l (s + j) n)
theorem seenL_succ (l : List Int) (s n i : Nat) : Ms.seenL l s n (i + 1) = Ms.seenL l s n i ++ Ms.rot l (s + i) n := by
  unfold Ms.seenL
  rw [List.range_succ, List.flatMap_append]
  simp
theorem rot_succ {l : List Int} {s n : Nat} (hn : n + 1 ≤ l.length) : Ms.rot l s (n + 1) = Ms.rot l s n ++ [nth l ((s + n) % l.length)] := by
  have h1 : (Ms.rot l s (n + 1)).take n = Ms.rot l s n := by unfold Ms.rot; rw [List.take_take, Nat.min_eq_left (by omega)]
  have hlen := rot_len (s := s) hn
  have h2 := take_snoc (Ms.rot l s (n + 1)) (i := n) (by omega)
  rw [List.take_of_length_le (by omega), h1, rot_nth (by omega) hn] at h2
  exact h2
theorem seenL_count (l : List Int) (s : Nat) (v : Int) : ∀ n i, n + 1 ≤ l.length → (Ms.seenL l s (n + 1) i).count v = (Ms.seenL l s n i).count v + ((List.range i).map (fun j => nth l ((s + n + j) % l.length))).count v
  | n, 0, _ => by simp [Ms.seenL]
  | n, i + 1, h => by
    rw [seenL_succ, seenL_succ, List.count_append, List.count_append, seenL_count l s v n i h, rot_succ h, List.count_append, List.range_succ, List.map_append, List.count_append]
    have e : s + i + n = s + n + i := by omega
    simp only [List.map_cons, List.map_nil, e]
    omega
theorem seenL_all {l : List Int} (hnd : l.Nodup) {v : Int} (hv : v ∈ l) (s : Nat) : ∀ n, n ≤ l.length → (Ms.seenL l s n l.length).count v = n
  | 0, _ => by
    have : Ms.seenL l s 0 l.length = [] := by unfold Ms.seenL Ms.rot; simp
    rw [this]; rfl
  | n + 1, h => by
    rw [seenL_count l s v n l.length h, seenL_all hnd hv s n (by omega)]
    have e : (List.range l.length).map (fun j => nth l ((s + n + j) % l.length)) = Ms.rot l (s + n) l.length := by
      apply List.ext_getElem
      · rw [List.length_map, List.length_range, rot_len (Nat.le_refl _)]
      · intro k h1 h2
        rw [List.getElem_map, List.getElem_range, ← nth_eq _ h2, rot_nth (by simpa using h1) (Nat.le_refl _)]
    rw [e, (rot_perm l (s + n)).count_eq, hnd.count, if_pos hv]
end Go.Proofs.Ytincllchoflpmaa
