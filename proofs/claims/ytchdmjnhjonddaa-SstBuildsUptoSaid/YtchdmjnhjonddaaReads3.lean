/- A region that draws, step by step: heads pulled, and where two may come next both are walked. No program in sight. -/
import Derived.Test.YtchdmjnhjonddaaReads2
set_option linter.unusedVariables false
set_option linter.unusedSimpArgs false
namespace Go.Proofs.Ytchdmjnhjonddaa
open Go.RowKit

section
variable {P : Program} {md : Region.Mode} {Q : Exit → Act → World → Prop} {S : World → Prop} {l : List Oper} {ts : List Nat}

/-- Behind the heads the tail follows in its order. -/
def tailL (P : Program) (l : List Oper) (Q : Exit → Act → World → Prop) (ts : List Nat) (listed : Array Bool) (a : Act) (w : World) : Prop :=
  seqL .any l.toArray ts listed = true ∧ wpList P l.toArray Q (opsAt l ts) a w
def stepsB (ops : Array Oper) (ts : List Nat) (t0 : Nat) : Bool :=
  Region.noSelect ops && sink2 .any ops (Array.replicate ops.size false) ts t0 && chain2 .any ops ts t0 && ts.all (fun k => decide (k < ops.size))
/-- The heads, n of them, S holding behind each; then the tail ts (t0 first). -/
theorem wp_region_steps {id : Nat} {a : Act} {w : World} (ts : List Nat) (t0 n : Nat) (hm : P.follows .mixedOrders = true) (hB : stepsB l.toArray ts t0 = true) (hn : n + ts.length = l.toArray.size)
    (S : World → Prop) (h : anyT P .any l.toArray Q S ts (tailL P l Q ts) n (Array.replicate l.toArray.size false) a w.drew) : (Code.region id l.toArray true).wp P Q a w := by
  simp only [stepsB, Bool.and_eq_true] at hB
  obtain ⟨⟨⟨hsel, hs⟩, hc⟩, hlt⟩ := hB
  have hlt' : ∀ k ∈ ts, k < l.length := fun k hk => by simpa using List.all_eq_true.1 hlt k hk
  have key := anyT_head (g := ts.length) (L := tailL P l Q ts) (fun listed a w hL => wpAny_seqL l ts listed a w hL.1 hlt' hL.2) _ _ _ _ h
  rw [hn] at key
  exact wp_region_any hm key
def hinvB (ops : Array Oper) (ts : List Nat) (listed : Array Bool) : Bool := decide (listed.size = ops.size) && closedB .any ops listed && ts.all (fun t => !listed.getD t true)
theorem hinv_of {ops : Array Oper} {listed : Array Bool} (h : hinvB ops ts listed = true) : HInv .any ops (Array.replicate ops.size false) ts listed := by
  simp only [hinvB, Bool.and_eq_true, decide_eq_true_eq] at h
  obtain ⟨⟨h1, h2⟩, h3⟩ := h
  refine ⟨h1, fun j oj hj hl e he hb => ?_, fun t ht hts => ?_, fun j hj => ?_⟩
  · have h4 := List.all_eq_true.1 h2 j (List.mem_range.2 (Array.getElem?_eq_some_iff.1 hj).1)
    rw [hl, hj] at h4
    simp only [Bool.not_true, Bool.false_or] at h4
    have h5 := Array.all_eq_true'.1 h4 e he
    rw [hb] at h5
    simpa using h5
  · have := List.all_eq_true.1 h3 t (by unfold inTail at ht; simpa using ht)
    simpa using this
  · rw [getD_replicate_false] at hj; cases hj
def pullB (ops : Array Oper) (ts : List Nat) (t0 : Nat) (rs : List Nat) (listed : Array Bool) : Bool :=
  stepsB ops ts t0 && hinvB ops ts listed && takeL .any ops rs listed && rs.all (fun k => decide (k < ops.size) && !inTail ts k)
/-- Heads that tell the same in every world of S are pulled ahead. -/
theorem anyT_pull (rs : List Nat) (t0 n : Nat) {listed : Array Bool} {a : Act} {w : World} (hQ : ∀ c a d v w, Q (.panic c) (Act.put a d v) w → Q (.panic c) a w) (hB : pullB l.toArray ts t0 rs listed = true) (hS : S w)
    (h : heldL P l.toArray S (fun a' => anyT P .any l.toArray Q S ts (tailL P l Q ts) n (setL listed rs) a' w) (opsAt l rs) a) : anyT P .any l.toArray Q S ts (tailL P l Q ts) (rs.length + n) listed a w := by
  simp only [pullB, stepsB, Bool.and_eq_true] at hB
  obtain ⟨⟨⟨⟨⟨⟨hsel, hs⟩, hc⟩, _⟩, hi⟩, hT⟩, hk⟩ := hB
  have inv := hinv_of hi
  clear hi
  induction rs generalizing listed a with
  | nil => rw [List.length_nil, Nat.zero_add]; exact h
  | cons k rs ih =>
    simp only [takeL, Bool.and_eq_true] at hT
    obtain ⟨⟨hr, hf⟩, hT'⟩ := hT
    simp only [List.all_cons, Bool.and_eq_true, decide_eq_true_eq, Bool.not_eq_true'] at hk
    obtain ⟨⟨hk1, hk2⟩, hk3⟩ := hk
    have hkl : k < l.length := by simpa using hk1
    have h0 : l.toArray[k]? = some (l[k]'hkl) := by simp [hkl]
    have h' : heldL P l.toArray S (fun a' => anyT P .any l.toArray Q S ts (tailL P l Q ts) n (setL (listed.setIfInBounds k true) rs) a' w) (l[k]'hkl :: opsAt l rs) a := by
      unfold opsAt at h
      rw [List.filterMap_cons, List.getElem?_eq_getElem hkl] at h
      exact h
    obtain ⟨v, hy, hK⟩ := h'
    rw [List.length_cons, show rs.length + 1 + n = (rs.length + n) + 1 by omega]
    exact anyT_first h0 (Region.noSelect_spec hsel) (fun c a w => hQ c a _ _ w) hs hc hk2 (fun listed' a' w' hL => seqL_ready hL.1) (rs.length + n) listed a w inv (Region.free_spec h0 hf) (by simpa using hr) hy hS
      (ih hK (List.all_eq_true.2 (by simpa using hk3)) hT' (inv.set (by simpa using hr) hk2))
theorem step_op {L : Array Bool → Act → World → Prop} {k f : Nat} {listed : Array Bool} {a : Act} {w : World} {o : Oper} (h0 : l[k]? = some o) (hw : Region.wanted o (yielded l.toArray a.tmps) = true)
    (h : ∀ K : Act → World → Prop, (∀ a w, S w → anyT P .any l.toArray Q S ts L f (listed.setIfInBounds k true) a w → K a w) → o.wp P a w K Q) :
    wpOp P l.toArray Q k (fun a' w' => S w' ∧ anyT P .any l.toArray Q S ts L f (listed.setIfInBounds k true) a' w') a w := by
  unfold wpOp
  simp only [List.getElem?_toArray, h0]
  rw [if_pos hw]
  exact .inl (h _ fun a w h1 h2 => ⟨h1, h2⟩)
/-- One comes next. -/
theorem anyT_one {L : Array Bool → Act → World → Prop} (k : Nat) {f : Nat} {listed : Array Bool} {a : Act} {w : World} {o : Oper} (h0 : l[k]? = some o) (hr : (Region.ready .any l.toArray listed == [k] && !inTail ts k) = true) (hw : Region.wanted o (yielded l.toArray a.tmps) = true)
    (h : ∀ K : Act → World → Prop, (∀ a w, S w → anyT P .any l.toArray Q S ts L f (listed.setIfInBounds k true) a w → K a w) → o.wp P a w K Q) : anyT P .any l.toArray Q S ts L (f + 1) listed a w := by
  simp only [Bool.and_eq_true, beq_iff_eq, Bool.not_eq_true'] at hr
  refine ⟨fun e => (by rw [hr.1] at e; cases e), fun i hi => ?_⟩
  rw [hr.1] at hi
  have : i = k := by simpa using hi
  subst this
  exact ⟨hr.2, step_op h0 hw h⟩
/-- Either of two may come next. -/
theorem anyT_two {L : Array Bool → Act → World → Prop} (k j : Nat) {f : Nat} {listed : Array Bool} {a : Act} {w : World} {o o' : Oper} (h0 : l[k]? = some o) (h0' : l[j]? = some o') (hr : (Region.ready .any l.toArray listed == [k, j] && !inTail ts k && !inTail ts j) = true)
    (hw : Region.wanted o (yielded l.toArray a.tmps) = true) (hw' : Region.wanted o' (yielded l.toArray a.tmps) = true)
    (h : ∀ K : Act → World → Prop, (∀ a w, S w → anyT P .any l.toArray Q S ts L f (listed.setIfInBounds k true) a w → K a w) → o.wp P a w K Q)
    (h' : ∀ K : Act → World → Prop, (∀ a w, S w → anyT P .any l.toArray Q S ts L f (listed.setIfInBounds j true) a w → K a w) → o'.wp P a w K Q) : anyT P .any l.toArray Q S ts L (f + 1) listed a w := by
  simp only [Bool.and_eq_true, beq_iff_eq, Bool.not_eq_true'] at hr
  refine ⟨fun e => (by rw [hr.1.1] at e; cases e), fun i hi => ?_⟩
  rw [hr.1.1] at hi
  have : i = k ∨ i = j := by simpa using hi
  rcases this with rfl | rfl
  · exact ⟨hr.1.2, step_op h0 hw h⟩
  · exact ⟨hr.2, step_op h0' hw' h'⟩
/-- The heads are done. -/
theorem anyT_done {listed : Array Bool} {a : Act} {w : World} (hB : seqL .any l.toArray ts listed = true) (h : wpList P l.toArray Q (opsAt l ts) a w) : anyT P .any l.toArray Q S ts (tailL P l Q ts) 0 listed a w := ⟨hB, h⟩
end
end Go.Proofs.Ytchdmjnhjonddaa
