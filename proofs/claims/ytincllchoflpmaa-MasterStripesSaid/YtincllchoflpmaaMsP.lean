/- What a command makes may be; epochs, order. Plain. -/
import Derived.Test.YtincllchoflpmaaMsSpec
import Derived.Test.YtincllchoflpmaaMsA
namespace Go.Proofs.Ytincllchoflpmaa
set_option linter.unusedVariables false

/-- What is known where a command is taken. -/
theorem Cf.step_pre {c : Cf} {x : Cm} (h : (c.step x).2 = 0) : c.Ok ∧ 1 ≤ x.kind ∧ x.kind ≤ 5 ∧ Ms.node x.node = true ∧ Ms.born x.birth = true ∧ (x.kind ≠ 3 → c.epoch ≠ 1099511627776) := by
  unfold Cf.step at h
  by_cases h0 : c.ok = false
  · rw [if_pos h0] at h; cases h
  · rw [if_neg h0] at h
    by_cases h1 : x.kind < 1 ∨ 5 < x.kind ∨ Ms.node x.node = false ∨ Ms.born x.birth = false ∨ (c.epoch = 1099511627776 ∧ x.kind ≠ 3)
    · rw [if_pos h1] at h; cases h
    · refine ⟨(Cf.ok_iff c).1 (by simpa using h0), ?_, ?_, ?_, ?_, ?_⟩
      · apply Int.not_lt.1; intro h2; exact h1 (.inl h2)
      · apply Int.not_lt.1; intro h2; exact h1 (.inr (.inl h2))
      · cases h2 : Ms.node x.node with
        | true => rfl
        | false => exact absurd (.inr (.inr (.inl h2))) h1
      · cases h2 : Ms.born x.birth with
        | true => rfl
        | false => exact absurd (.inr (.inr (.inr (.inl h2)))) h1
      · intro h2 h3; exact h1 (.inr (.inr (.inr (.inr ⟨h3, h2⟩))))
/-- What a taken command makes, way by way. -/
inductive Taken (c : Cf) (x : Cm) : Cf → Prop where
  | add (hk : x.kind = 1) (hno : ∀ m ∈ c.chain, m.node ≠ x.node) (hl : c.chain.length ≠ 5) : Taken c x ⟨c.epoch + 1, c.chain ++ [⟨x.node, x.birth, c.chain.isEmpty⟩], c.stores⟩
  | drop (i : Nat) (hk : x.kind = 2) (hi : i < c.chain.length) (hw : Ms.whole (c.chain.eraseIdx i) = true) : Taken c x ⟨c.epoch + 1, c.chain.eraseIdx i, c.stores⟩
  | whole (i : Nat) (hk : x.kind = 3) (hi : i < c.chain.length) (hm : nth c.chain i = ⟨x.node, x.birth, false⟩) : Taken c x ⟨c.epoch, c.chain.set i ⟨x.node, x.birth, true⟩, c.stores⟩
  | store (hk : x.kind = 4) (hs : Ms.has c.stores x.node = false) : Taken c x ⟨c.epoch + 1, c.chain, c.stores.take (Ms.low c.stores x.node) ++ x.node :: c.stores.drop (Ms.low c.stores x.node)⟩
  | unplug (i : Nat) (hk : x.kind = 5) : Taken c x ⟨c.epoch + 1, c.chain, c.stores.eraseIdx i⟩
theorem Cf.step_taken {c : Cf} {x : Cm} (h : (c.step x).2 = 0) : Taken c x (c.step x).1 := by
  obtain ⟨_, hk1, hk5, _⟩ := Cf.step_pre h
  unfold Cf.step at h ⊢
  by_cases h0 : c.ok = false
  · rw [if_pos h0] at h; cases h
  rw [if_neg h0] at h ⊢
  by_cases h1 : x.kind < 1 ∨ 5 < x.kind ∨ Ms.node x.node = false ∨ Ms.born x.birth = false ∨ (c.epoch = 1099511627776 ∧ x.kind ≠ 3)
  · rw [if_pos h1] at h; cases h
  rw [if_neg h1] at h ⊢
  simp only at h ⊢
  by_cases k1 : x.kind = 1
  · rw [if_pos k1] at h ⊢
    by_cases g : Ms.at c.chain x.node < c.chain.length ∨ c.chain.length = 5
    · rw [if_pos g] at h; cases h
    · rw [if_neg g]
      exact .add k1 (Ms.at_none fun h => g (.inl h)) fun h => g (.inr h)
  rw [if_neg k1] at h ⊢
  by_cases k2 : x.kind = 2
  · rw [if_pos k2] at h ⊢
    by_cases g : Ms.at c.chain x.node < c.chain.length ∧ Ms.whole (c.chain.eraseIdx (Ms.at c.chain x.node)) = true
    · rw [if_pos g]; exact .drop _ k2 g.1 g.2
    · rw [if_neg g] at h; cases h
  rw [if_neg k2] at h ⊢
  by_cases k3 : x.kind = 3
  · rw [if_pos k3] at h ⊢
    by_cases g0 : x.epoch ≠ c.epoch
    · rw [if_pos g0] at h; cases h
    · rw [if_neg g0] at h ⊢
      by_cases g : Ms.at c.chain x.node < c.chain.length ∧ c.chain.getD (Ms.at c.chain x.node) default = ⟨x.node, x.birth, false⟩
      · rw [if_pos g]; exact .whole _ k3 g.1 g.2
      · rw [if_neg g] at h; cases h
  rw [if_neg k3] at h ⊢
  by_cases k4 : x.kind = 4
  · rw [if_pos k4] at h ⊢
    by_cases g : Ms.has c.stores x.node = true
    · rw [if_pos g] at h; cases h
    · rw [if_neg g]; exact .store k4 (by simpa using g)
  rw [if_neg k4] at h ⊢
  by_cases g : Ms.has c.stores x.node = true
  · rw [if_pos g]; exact .unplug _ (by omega)
  · rw [if_neg g] at h; cases h
theorem whole_set {l : List Mb} {i : Nat} (hi : i < l.length) (m : Mb) (hm : m.whole = true) : Ms.whole (l.set i m) = true := by
  unfold Ms.whole
  rw [List.any_eq_true]
  exact ⟨m, List.mem_iff_getElem.2 ⟨i, by simpa using hi, by simp⟩, hm⟩
theorem set_pair {l : List Mb} {i : Nat} {m : Mb} (hi : i < l.length) (hn : m.node = (nth l i).node) : (l.set i m).map (·.node) = l.map (·.node) := by
  apply List.ext_getElem
  · simp
  · intro k h1 h2
    rw [List.getElem_map, List.getElem_map, List.getElem_set]
    by_cases e : i = k
    · subst e
      rw [if_pos rfl, hn, nth_eq _ hi]
    · rw [if_neg e]
theorem pair_map {l : List Mb} : l.Pairwise (fun a b => a.node ≠ b.node) ↔ (l.map (·.node)).Pairwise (· ≠ ·) := by rw [List.pairwise_map]
theorem Cf.step_ok {c : Cf} {x : Cm} (h : (c.step x).2 = 0) : c.Ok ∧ (c.step x).1.Ok := by
  obtain ⟨hc, hk1, hk5, hn, hb, hep⟩ := Cf.step_pre h
  refine ⟨hc, ?_⟩
  have hep2 : x.kind ≠ 3 → c.epoch + 1 ≤ 1099511627776 := fun h3 => by have := hep h3; have := hc.hi; omega
  have hlo := hc.lo
  generalize (c.step x).1 = d, Cf.step_taken h = ht
  cases ht with
  | add hk hno hl =>
    refine ⟨by show 0 ≤ c.epoch + 1; omega, hep2 (by omega), by have := hc.len; simp; omega, .inr ?_, fun m hm => ?_, ?_, hc.st, hc.rise⟩
    · unfold Ms.whole
      rw [List.any_append]
      rcases hc.whole with e | e
      · rw [e]; rfl
      · unfold Ms.whole at e; rw [e]; rfl
    · rcases List.mem_append.1 hm with h1 | h1
      · exact hc.mem m h1
      · rw [List.mem_singleton.1 h1]; exact ⟨hn, hb⟩
    · rw [List.pairwise_append]
      exact ⟨hc.apart, List.pairwise_singleton _ _, fun a ha b hb => by rw [List.mem_singleton.1 hb]; exact hno a ha⟩
  | drop i hk hi hw =>
    have hsub : (c.chain.eraseIdx i).Sublist c.chain := List.eraseIdx_sublist _ _
    exact ⟨by show 0 ≤ c.epoch + 1; omega, hep2 (by omega), Nat.le_trans hsub.length_le hc.len, .inr hw, fun m hm => hc.mem m (hsub.subset hm), hc.apart.sublist hsub, hc.st, hc.rise⟩
  | whole i hk hi hm =>
    refine ⟨hc.lo, hc.hi, by rw [List.length_set]; exact hc.len, .inr (whole_set hi _ rfl), fun m hm => ?_, ?_, hc.st, hc.rise⟩
    · rcases List.mem_or_eq_of_mem_set hm with h1 | h1
      · exact hc.mem m h1
      · rw [h1]; exact ⟨hn, hb⟩
    · rw [pair_map, set_pair hi (by rw [hm]), ← pair_map]
      exact hc.apart
  | store hk hs =>
    refine ⟨by show 0 ≤ c.epoch + 1; omega, hep2 (by omega), hc.len, hc.whole, hc.mem, hc.apart, fun n hn' => ?_, Ms.split_rise hc.rise hs⟩
    rcases List.mem_append.1 hn' with h1 | h1
    · exact hc.st n (List.mem_of_mem_take h1)
    · rcases List.mem_cons.1 h1 with h2 | h2
      · rw [h2]; exact hn
      · exact hc.st n (List.mem_of_mem_drop h2)
  | unplug i hk =>
    have hsub : (c.stores.eraseIdx i).Sublist c.stores := List.eraseIdx_sublist _ _
    exact ⟨by show 0 ≤ c.epoch + 1; omega, hep2 (by omega), hc.len, hc.whole, hc.mem, hc.apart, fun n hn => hc.st n (hsub.subset hn), hc.rise.sublist hsub⟩
theorem Cf.next_ok {c : Cf} (h : c.Ok) (x : Cm) : (c.next x).Ok := by
  unfold Cf.next
  by_cases h0 : (c.step x).2 = 0
  · rw [if_pos h0]; exact (Cf.step_ok h0).2
  · rw [if_neg h0]; exact h
theorem Cf.run_snoc (c : Cf) (l : List Cm) (x : Cm) : c.run (l ++ [x]) = (c.run l).next x := by simp [Cf.run]
theorem Cf.run_ok {c : Cf} (h : c.Ok) : ∀ l : List Cm, (c.run l).Ok
  | [] => h
  | x :: l => Cf.run_ok (Cf.next_ok h x) l
/-- Either the configuration is as it was, or it may be. -/
theorem Cf.run_or (c : Cf) : ∀ l : List Cm, c.run l = c ∨ (c.run l).Ok
  | [] => .inl rfl
  | x :: l => by
    show Cf.run (c.next x) l = c ∨ (Cf.run (c.next x) l).Ok
    by_cases h0 : (c.step x).2 = 0
    · have h1 : (c.next x).Ok := by unfold Cf.next; rw [if_pos h0]; exact (Cf.step_ok h0).2
      exact .inr (Cf.run_ok h1 l)
    · have h1 : c.next x = c := by unfold Cf.next; rw [if_neg h0]
      rw [h1]
      exact Cf.run_or c l
/-- The place of a node in a configuration; behind all, if it has none. -/
def Cf.rank (c : Cf) (n : Int) : Nat := Ms.at c.chain n
theorem rank_mem {c : Cf} (h : c.Ok) : ∀ k, (hk : k < c.chain.length) → c.rank (c.chain[k]).node = k := fun k hk => by
  unfold Cf.rank Ms.at
  rw [List.findIdx_eq hk]
  refine ⟨by simp, fun j hj => ?_⟩
  have h1 := List.pairwise_iff_getElem.1 h.apart j k (by omega) hk hj
  simpa using h1
theorem rank_none {c : Cf} {n : Int} (h : ∀ m ∈ c.chain, m.node ≠ n) : c.rank n = c.chain.length := by
  unfold Cf.rank Ms.at
  rw [List.findIdx_eq_length]
  intro m hm
  simpa using h m hm
theorem rank_rise {c : Cf} (h : c.Ok) : (c.chain.map (·.node)).Pairwise (fun a b => c.rank a < c.rank b) := by
  rw [List.pairwise_map, List.pairwise_iff_getElem]
  intro i j hi hj hij
  rw [rank_mem h i hi, rank_mem h j hj]
  exact hij
/-- The order of members that stay is kept. -/
theorem Cf.step_order {c : Cf} {x : Cm} (h : (c.step x).2 = 0) : ((c.step x).1.chain.map (·.node)).Pairwise (fun a b => c.rank a < c.rank b) := by
  obtain ⟨hc, _⟩ := Cf.step_ok h
  have hr := rank_rise hc
  generalize (c.step x).1 = d, Cf.step_taken h = ht
  cases ht with
  | add hk hno hl =>
    show ((c.chain ++ [_]).map _).Pairwise _
    rw [List.map_append, List.pairwise_append]
    refine ⟨hr, List.pairwise_singleton _ _, fun a ha b hb => ?_⟩
    rw [List.map_singleton] at hb
    rw [List.mem_singleton.1 hb]
    obtain ⟨m, hm, rfl⟩ := List.mem_map.1 ha
    obtain ⟨k, hk, rfl⟩ := List.mem_iff_getElem.1 hm
    rw [rank_mem hc k hk, show c.rank x.node = c.chain.length from rank_none hno]
    exact hk
  | drop i hk hi hw => exact hr.sublist ((List.eraseIdx_sublist _ _).map _)
  | whole i hk hi hm =>
    show ((c.chain.set i _).map _).Pairwise _
    rw [set_pair hi (by rw [hm])]
    exact hr
  | store hk hs => exact hr
  | unplug i hk => exact hr
/-- Epochs. -/
theorem Cf.step_epoch {c : Cf} {x : Cm} (h : (c.step x).2 = 0) : (c.step x).1.epoch = if x.kind = 3 then c.epoch else c.epoch + 1 := by
  generalize (c.step x).1 = d, Cf.step_taken h = ht
  cases ht with
  | add hk hno hl => rw [if_neg (by omega)]
  | drop i hk hi hw => rw [if_neg (by omega)]
  | whole i hk hi hm => rw [if_pos hk]
  | store hk hs => rw [if_neg (by omega)]
  | unplug i hk => rw [if_neg (by omega)]
/-- Where there was a member there is one. -/
theorem Cf.step_some {c : Cf} {x : Cm} (h : (c.step x).2 = 0) (hc : 0 < c.chain.length) : 0 < (c.step x).1.chain.length := by
  generalize (c.step x).1 = d, Cf.step_taken h = ht
  cases ht with
  | add hk hno hl => simp
  | drop i hk hi hw =>
    show 0 < (c.chain.eraseIdx i).length
    unfold Ms.whole at hw
    obtain ⟨m, hm, _⟩ := List.any_eq_true.1 hw
    exact List.length_pos_of_mem hm
  | whole i hk hi hm => simpa using hc
  | store hk hs => exact hc
  | unplug i hk => exact hc
end Go.Proofs.Ytincllchoflpmaa
