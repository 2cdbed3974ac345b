/- Configurations: plain. -/
import Derived.Test.YtincllchoflpmaaNum
import Derived.Test.YtincllchoflpmaaInts
namespace Go.Proofs.Ytincllchoflpmaa
set_option linter.unusedVariables false

structure Mb where
  node : Int
  birth : Int
  whole : Bool
deriving DecidableEq, Inhabited
structure Cf where
  epoch : Int
  chain : List Mb
  stores : List Int
deriving DecidableEq, Inhabited
structure Cm where
  kind : Int
  node : Int
  birth : Int
  epoch : Int
deriving DecidableEq, Inhabited
def Ms.node (n : Int) : Bool := decide (0 ≤ n) && decide (n < 16)
def Ms.born (n : Int) : Bool := decide (0 ≤ n) && decide (n ≤ 1099511627776)
def Ms.whole (l : List Mb) : Bool := l.any (·.whole)
/-- Each member may be, and none before it is of its node. -/
def Ms.chainB : List Mb → List Mb → Bool
  | _, [] => true
  | pre, m :: l => Ms.node m.node && Ms.born m.birth && !(pre.any (fun o => decide (o.node = m.node))) && Ms.chainB (pre ++ [m]) l
def Ms.storesB : Option Int → List Int → Bool
  | _, [] => true
  | p, n :: l => Ms.node n && (match p with | none => true | some q => decide (q < n)) && Ms.storesB (some n) l
def Cf.ok (c : Cf) : Bool := decide (0 ≤ c.epoch) && decide (c.epoch ≤ 1099511627776) && decide (c.chain.length ≤ 5) && (c.chain.isEmpty || Ms.whole c.chain) && Ms.chainB [] c.chain && Ms.storesB none c.stores
/-- Where a node stands; the chain's length: nowhere. -/
def Ms.at (l : List Mb) (n : Int) : Nat := l.findIdx (fun m => decide (m.node = n))
/-- How many stores are below a node. -/
def Ms.low (l : List Int) (n : Int) : Nat := l.findIdx (fun x => !decide (x < n))
def Ms.has (l : List Int) (n : Int) : Bool := decide (Ms.low l n < l.length) && decide (l.getD (Ms.low l n) 0 = n)
def Ms.zero : Cf := ⟨0, [], []⟩
/-- What a command makes of a configuration; an error. -/
def Cf.step (c : Cf) (x : Cm) : Cf × Int :=
  if c.ok = false then (Ms.zero, 1)
  else if x.kind < 1 ∨ 5 < x.kind ∨ Ms.node x.node = false ∨ Ms.born x.birth = false ∨ (c.epoch = 1099511627776 ∧ x.kind ≠ 3) then (Ms.zero, 1)
  else
    let i := Ms.at c.chain x.node
    if x.kind = 1 then
      if i < c.chain.length ∨ c.chain.length = 5 then (Ms.zero, 23) else (⟨c.epoch + 1, c.chain ++ [⟨x.node, x.birth, c.chain.isEmpty⟩], c.stores⟩, 0)
    else if x.kind = 2 then
      if i < c.chain.length ∧ Ms.whole (c.chain.eraseIdx i) = true then (⟨c.epoch + 1, c.chain.eraseIdx i, c.stores⟩, 0) else (Ms.zero, 23)
    else if x.kind = 3 then
      if x.epoch ≠ c.epoch then (Ms.zero, 21)
      else if i < c.chain.length ∧ c.chain.getD i default = ⟨x.node, x.birth, false⟩ then (⟨c.epoch, c.chain.set i ⟨x.node, x.birth, true⟩, c.stores⟩, 0) else (Ms.zero, 23)
    else if x.kind = 4 then
      if Ms.has c.stores x.node = true then (Ms.zero, 23) else (⟨c.epoch + 1, c.chain, c.stores.take (Ms.low c.stores x.node) ++ x.node :: c.stores.drop (Ms.low c.stores x.node)⟩, 0)
    else
      if Ms.has c.stores x.node = true then (⟨c.epoch + 1, c.chain, c.stores.eraseIdx (Ms.low c.stores x.node)⟩, 0) else (Ms.zero, 23)
def Cf.next (c : Cf) (x : Cm) : Cf := if (c.step x).2 = 0 then (c.step x).1 else c
def Cf.run (c : Cf) (l : List Cm) : Cf := l.foldl Cf.next c
/-! The chain's law as a statement. -/
theorem Ms.chain_iff : ∀ (pre l : List Mb), Ms.chainB pre l = true ↔ (∀ m ∈ l, Ms.node m.node = true ∧ Ms.born m.birth = true) ∧ (∀ m ∈ l, ∀ o ∈ pre, o.node ≠ m.node) ∧ l.Pairwise (fun a b => a.node ≠ b.node)
  | pre, [] => by simp [Ms.chainB]
  | pre, m :: l => by
    rw [Ms.chainB, Bool.and_eq_true, Bool.and_eq_true, Bool.and_eq_true, Ms.chain_iff (pre ++ [m]) l, List.pairwise_cons]
    simp only [Bool.not_eq_true', List.any_eq_false, decide_eq_true_eq, List.mem_append, List.mem_cons, forall_eq_or_imp]
    constructor
    · rintro ⟨⟨⟨h1, h2⟩, h3⟩, h4, h5, h6⟩
      exact ⟨⟨⟨h1, h2⟩, h4⟩, ⟨h3, fun x hx o ho => h5 x hx o (.inl ho)⟩, fun x hx => h5 x hx m (.inr (.inl rfl)), h6⟩
    · rintro ⟨⟨⟨h1, h2⟩, h4⟩, ⟨h3, h5⟩, h7, h6⟩
      refine ⟨⟨⟨h1, h2⟩, h3⟩, h4, fun x hx o ho => ?_, h6⟩
      rcases ho with h | h | h
      · exact h5 x hx o h
      · rw [h]; exact h7 x hx
      · cases h
theorem Ms.stores_iff : ∀ (p : Option Int) (l : List Int), Ms.storesB p l = true ↔ (∀ n ∈ l, Ms.node n = true) ∧ (∀ q, p = some q → ∀ n ∈ l, q < n) ∧ l.Pairwise (· < ·)
  | p, [] => by simp [Ms.storesB]
  | p, n :: l => by
    rw [show Ms.storesB p (n :: l) = (Ms.node n && (match p with | none => true | some q => decide (q < n)) && Ms.storesB (some n) l) by cases p <;> rfl, Bool.and_eq_true, Bool.and_eq_true, Ms.stores_iff (some n) l, List.pairwise_cons]
    constructor
    · rintro ⟨⟨h1, h2⟩, h3, h4, h5⟩
      refine ⟨fun x hx => ?_, fun q hq x hx => ?_, fun x hx => h4 n rfl x hx, h5⟩
      · rcases List.mem_cons.1 hx with h | h
        · rw [h]; exact h1
        · exact h3 x h
      · subst hq
        have h6 : q < n := of_decide_eq_true h2
        rcases List.mem_cons.1 hx with h | h
        · rw [h]; exact h6
        · have := h4 n rfl x h; omega
    · rintro ⟨h1, h2, h3, h4⟩
      refine ⟨⟨h1 n List.mem_cons_self, ?_⟩, fun x hx => h1 x (List.mem_cons_of_mem _ hx), fun q hq x hx => ?_, h4⟩
      · cases p with
        | none => rfl
        | some q => exact decide_eq_true (h2 q rfl n List.mem_cons_self)
      · cases hq; exact h3 x hx
/-- What may be, as a statement. -/
structure Cf.Ok (c : Cf) : Prop where
  lo : 0 ≤ c.epoch
  hi : c.epoch ≤ 1099511627776
  len : c.chain.length ≤ 5
  whole : c.chain = [] ∨ Ms.whole c.chain = true
  mem : ∀ m ∈ c.chain, Ms.node m.node = true ∧ Ms.born m.birth = true
  apart : c.chain.Pairwise (fun a b => a.node ≠ b.node)
  st : ∀ n ∈ c.stores, Ms.node n = true
  rise : c.stores.Pairwise (· < ·)
theorem Cf.ok_iff (c : Cf) : c.ok = true ↔ c.Ok := by
  unfold Cf.ok
  rw [Bool.and_eq_true, Bool.and_eq_true, Bool.and_eq_true, Bool.and_eq_true, Bool.and_eq_true, Bool.or_eq_true, Ms.chain_iff, Ms.stores_iff]
  simp only [decide_eq_true_eq, List.isEmpty_iff]
  constructor
  · rintro ⟨⟨⟨⟨⟨h1, h2⟩, h3⟩, h4⟩, h5, _, h6⟩, h7, _, h8⟩
    exact ⟨h1, h2, h3, h4, h5, h6, h7, h8⟩
  · rintro ⟨h1, h2, h3, h4, h5, h6, h7, h8⟩
    exact ⟨⟨⟨⟨⟨h1, h2⟩, h3⟩, h4⟩, h5, fun _ _ _ h => (by cases h), h6⟩, h7, fun q h => (by cases h), h8⟩
theorem Ms.zero_ok : Ms.zero.Ok := ⟨by decide, by decide, by decide, .inl rfl, fun _ h => (by cases h), .nil, fun _ h => (by cases h), .nil⟩
theorem Ms.at_le (l : List Mb) (n : Int) : Ms.at l n ≤ l.length := List.findIdx_le_length
theorem Ms.at_node {l : List Mb} {n : Int} (h : Ms.at l n < l.length) : (l[Ms.at l n]).node = n := by
  have h1 := List.findIdx_getElem (w := h)
  exact of_decide_eq_true h1
theorem Ms.at_none {l : List Mb} {n : Int} (h : ¬ Ms.at l n < l.length) : ∀ m ∈ l, m.node ≠ n := by
  intro m hm e
  apply h
  exact List.findIdx_lt_length_of_exists ⟨m, hm, by simpa using e⟩
theorem Ms.low_le (l : List Int) (n : Int) : Ms.low l n ≤ l.length := List.findIdx_le_length
theorem Ms.low_lt {l : List Int} {n : Int} {i : Nat} (hi : i < Ms.low l n) : l[i]'(Nat.lt_of_lt_of_le hi (Ms.low_le l n)) < n := by
  have := List.not_of_lt_findIdx hi
  simpa using this
theorem Ms.low_at {l : List Int} {n : Int} (h : Ms.low l n < l.length) : n ≤ l[Ms.low l n] := by
  have h1 := List.findIdx_getElem (w := h)
  have h2 : (!decide (l[Ms.low l n] < n)) = true := h1
  simpa using h2
theorem Ms.split_rise {l : List Int} {n : Int} (h : l.Pairwise (· < ·)) (hn : Ms.has l n = false) : (l.take (Ms.low l n) ++ n :: l.drop (Ms.low l n)).Pairwise (· < ·) := by
  have hp := List.pairwise_iff_getElem.1 h
  have hk : ∀ (hl : Ms.low l n < l.length), n < l[Ms.low l n] := fun hl => by
    have h1 := Ms.low_at hl
    rcases Int.lt_or_eq_of_le h1 with h2 | h2
    · exact h2
    · exfalso
      unfold Ms.has at hn
      rw [decide_eq_true hl, Bool.true_and, decide_eq_false_iff_not, List.getD_eq_getElem?_getD, List.getElem?_eq_getElem hl] at hn
      exact hn h2.symm
  have hdrop : ∀ x ∈ l.drop (Ms.low l n), n < x := fun x hx => by
    obtain ⟨i, hi, rfl⟩ := List.mem_iff_getElem.1 hx
    rw [List.length_drop] at hi
    rw [List.getElem_drop]
    have h1 := hk (by omega)
    rcases Nat.eq_zero_or_pos i with h0 | h0
    · subst h0; exact h1
    · have := hp (Ms.low l n) (Ms.low l n + i) (by omega) (by omega) (by omega)
      omega
  have htake : ∀ x ∈ l.take (Ms.low l n), x < n := fun x hx => by
    obtain ⟨i, hi, rfl⟩ := List.mem_iff_getElem.1 hx
    rw [List.length_take] at hi
    rw [List.getElem_take]
    exact Ms.low_lt (by omega)
  rw [List.pairwise_append, List.pairwise_cons]
  refine ⟨h.sublist (List.take_sublist _ _), ⟨hdrop, h.sublist (List.drop_sublist _ _)⟩, fun a ha b hb => ?_⟩
  have h1 := htake a ha
  rcases List.mem_cons.1 hb with h2 | h2
  · rw [h2]; exact h1
  · have := hdrop b h2; omega
end Go.Proofs.Ytincllchoflpmaa
