/- A region that draws: loads that may come beside calls that make memory, then an append and a store. No program in sight. -/
import Derived.Test.YtchdmjnhjonddaaQuiet
import Derived.Test.YtchdmjnhjonddaaRound
import Derived.OrdersHeld
set_option linter.unusedVariables false
set_option linter.unusedSimpArgs false
namespace Go.Proofs.Ytchdmjnhjonddaa
open Go.RowKit

section
variable {P : Program} {md : Region.Mode} {ops : Array Oper} {Q : Exit → Act → World → Prop} {S : World → Prop} {n g : Nat}

/-- The heads in whatever order, S holding behind each. -/
def anyM (P : Program) (md : Region.Mode) (ops : Array Oper) (Q : Exit → Act → World → Prop) (S : World → Prop) (n : Nat) (L : Array Bool → Act → World → Prop) : Nat → Array Bool → Act → World → Prop
  | 0, listed, a, w => L listed a w
  | f + 1, listed, a, w => Region.ready md ops listed ≠ [] ∧ ∀ i ∈ Region.ready md ops listed, i < n ∧ wpOp P ops Q i (fun a' w' => S w' ∧ anyM P md ops Q S n L f (listed.setIfInBounds i true) a' w') a w
theorem anyM_head {L : Array Bool → Act → World → Prop} (hL : ∀ listed a w, L listed a w → wpAny P md ops Q g listed a w) :
    ∀ (f : Nat) (listed : Array Bool) (a : Act) (w : World), anyM P md ops Q S n L f listed a w → wpAny P md ops Q (f + g) listed a w
  | 0, listed, a, w, h => by rw [Nat.zero_add]; exact hL _ _ _ h
  | f + 1, listed, a, w, h => by
    rw [show f + 1 + g = (f + g) + 1 by omega]
    exact ⟨fun h0 => absurd h0 h.1, fun i hi => wpOp_mono (fun a' w' h' => anyM_head hL f _ a' w' h'.2) (h.2 i hi).2⟩
theorem anyM_first {i : Nat} {oi : Oper} {v : Value} {L : Array Bool → Act → World → Prop} (hi : ops[i]? = some oi) (hsel : ∀ (j : Nat) (o : Oper) cs b, ops[j]? = some o → o.op ≠ .select cs b)
    (hQ : ∀ c a w, Q (.panic c) (a.put oi.dst v) w → Q (.panic c) a w)
    (hs : Region.sinkB md ops n = true) (hc : Region.chainB md ops n = true) (hn : n < ops.size) (hin : i < n)
    (hdone : ∀ listed a w, L listed a w → ∀ j ∈ Region.ready md ops listed, n ≤ j) :
    ∀ (f : Nat) (listed : Array Bool) (a : Act) (w : World), HeadInv md ops n listed →
      (∀ j oj, ops[j]? = some oj → j ≠ i → listed.getD j true = false → (∀ e ∈ oj.after, Region.binds md e = true → e.on ≠ i) → oi.apart ops oj = true) →
      i ∈ Region.ready md ops listed → YieldsIf P ops S oi v a → S w →
      anyM P md ops Q S n L f (listed.setIfInBounds i true) (a.put oi.dst v) w → anyM P md ops Q S n L (f + 1) listed a w := by
  intro f
  induction f with
  | zero =>
    intro listed a w inv _ hr hy hS H
    have hun := (mem_ready.1 hr).1
    refine ⟨fun h => (by rw [h] at hr; cases hr), fun j hj => ?_⟩
    have hjn : j < n := by
      rcases Nat.lt_or_ge j n with h | h
      · exact h
      · exact absurd hj (tail_waits hs hc hn inv _ i rfl hin hun j h)
    refine ⟨hjn, ?_⟩
    by_cases hji : j = i
    · subst hji; exact hy.wpOp hi hS ⟨hS, H⟩
    · have := hdone _ _ _ H j (ready_mono hj hji)
      omega
  | succ f ih =>
    intro listed a w inv hfree hr hy hS H
    have hun := (mem_ready.1 hr).1
    refine ⟨fun h => (by rw [h] at hr; cases hr), fun j hj => ?_⟩
    have hjn : j < n := by
      rcases Nat.lt_or_ge j n with h | h
      · exact h
      · exact absurd hj (tail_waits hs hc hn inv _ i rfl hin hun j h)
    refine ⟨hjn, ?_⟩
    by_cases hji : j = i
    · subst hji; exact hy.wpOp hi hS ⟨hS, H⟩
    · have h1 := (H.2 j (ready_mono hj hji)).2
      obtain ⟨hjun, oj, hoj, hall⟩ := mem_ready.1 hj
      have hnot : ∀ e ∈ oj.after, Region.binds md e = true → e.on ≠ i := fun e he hb heq => by
        have h1 := hall e he hb
        rw [heq, getD_both hun] at h1
        cases h1
      have h2 := wpOp_putIf hoj (hfree j oj hoj hji hjun hnot) (fun cs b => hsel i oi cs b hi) (fun cs b => hsel j oj cs b hoj) hQ hy h1
      have hfree' : ∀ k ok, ops[k]? = some ok → k ≠ i → (listed.setIfInBounds j true).getD k true = false →
          (∀ e ∈ ok.after, Region.binds md e = true → e.on ≠ i) → oi.apart ops ok = true := fun k ok hk hki hun hno => by
        refine hfree k ok hk hki ?_ hno
        by_cases hjk : j = k
        · subst hjk; exact hjun
        · rw [getD_set_ne true hjk] at hun; exact hun
      refine wpOp_mono (fun a' w' h3 => ⟨h3.2.1, ih (listed.setIfInBounds j true) a' w' (inv.set hj hjn) hfree' (ready_mono hr (Ne.symm hji)) h3.1 h3.2.1 ?_⟩) h2
      rw [Array.setIfInBounds_comm _ _ hji]
      exact h3.2.2

/-- Loads, each told in every world of S. -/
def heldL (P : Program) (ops : Array Oper) (S : World → Prop) (R : Act → Prop) : List Oper → Act → Prop
  | [], a => R a
  | o :: rest, a => ∃ v, YieldsIf P ops S o v a ∧ heldL P ops S R rest (a.put o.dst v)
theorem held_nil {R : Act → Prop} {a : Act} (h : R a) : heldL P ops S R [] a := h
theorem held_step {R : Act → Prop} {a : Act} {o : Oper} {rest : List Oper} {v : Value} (hw : Region.wanted o (yielded ops a.tmps) = true) (hv : ∀ w, S w → (execOp a.eval o).run P w = .ok (.value v) w) (h : heldL P ops S R rest (a.put o.dst v)) :
    heldL P ops S R (o :: rest) a := ⟨v, .inl ⟨hw, hv⟩, h⟩
theorem held_skip {R : Act → Prop} {a : Act} {o : Oper} {rest : List Oper} (hw : Region.wanted o (yielded ops a.tmps) = false) (h : heldL P ops S R rest (a.put o.dst undef)) : heldL P ops S R (o :: rest) a := ⟨undef, .inr ⟨hw, rfl⟩, h⟩
/-- Steps one behind the other, S holding behind each. -/
def walkS (P : Program) (ops : Array Oper) (Q : Exit → Act → World → Prop) (S : World → Prop) (R : Act → World → Prop) : List Oper → Act → World → Prop
  | [], a, w => R a w
  | o :: rest, a, w => Region.wanted o (yielded ops a.tmps) = true ∧ o.wp P a w (fun a' w' => S w' ∧ walkS P ops Q S R rest a' w') Q
theorem walkS_nil {R : Act → World → Prop} {a : Act} {w : World} (h : R a w) : walkS P ops Q S R [] a w := h
theorem walkS_step {R : Act → World → Prop} {a : Act} {w : World} {o : Oper} {rest : List Oper} (hw : Region.wanted o (yielded ops a.tmps) = true)
    (h : ∀ K : Act → World → Prop, (∀ a w, S w → walkS P ops Q S R rest a w → K a w) → o.wp P a w K Q) : walkS P ops Q S R (o :: rest) a w :=
  ⟨hw, h _ fun _ _ h1 h2 => ⟨h1, h2⟩⟩
theorem anyM_seq : ∀ (l : List Oper) (k : Nat) (listed : Array Bool) (a : Act) (w : World) {R : Act → World → Prop}, (∀ j, j < l.length → l[j]? = ops[k + j]?) → k + l.length = n →
    Region.seqB md ops (l.length + g) k listed = true → walkS P ops Q S R l a w → anyM P md ops Q S n (fun listed a w => Region.seqB md ops g n listed = true ∧ R a w) l.length listed a w
  | [], k, listed, a, w, R, _, hk, hB, h => by
    have : k = n := by simpa using hk
    subst this
    exact ⟨by simpa using hB, h⟩
  | o :: l, k, listed, a, w, R, hl, hk, hB, h => by
    have h0 : ops[k]? = some o := by simpa using (hl 0 (by simp)).symm
    rw [List.length_cons, show l.length + 1 + g = (l.length + g) + 1 by omega] at hB
    simp only [Region.seqB, Bool.and_eq_true, decide_eq_true_eq] at hB
    simp only [List.length_cons] at hk
    refine ⟨fun h1 => (by rw [hB.1] at h1; cases h1), fun i hi => ?_⟩
    rw [hB.1] at hi
    have hik : i = k := by simpa using hi
    subst hik
    refine ⟨by omega, ?_⟩
    unfold wpOp
    simp only [h0]
    rw [if_pos h.1]
    exact .inl (Oper.wp_mono (fun a' w' h' => ⟨h'.1, anyM_seq l (i + 1) _ a' w' (fun j hj => by have := hl (j + 1) (by simp; omega); simpa [Nat.add_assoc, Nat.add_comm 1 j] using this) (by omega) hB.2 h'.2⟩) h.2)
def readsHead (md : Region.Mode) (ops : Array Oper) (g : Nat) : Nat → Nat → Array Bool → Bool
  | 0, k, listed => Region.seqB md ops g k listed
  | f + 1, k, listed => (Region.ready md ops listed).contains k && Region.free md ops listed k && readsHead md ops g f (k + 1) (listed.setIfInBounds k true)
theorem anyM_lex (hsel : Region.noSelect ops = true) (hQ : ∀ c a d v w, Q (.panic c) (Act.put a d v) w → Q (.panic c) a w) (hs : Region.sinkB md ops n = true) (hc : Region.chainB md ops n = true) (hn : n < ops.size)
    {m : List Oper} {w : World} {R : Act → World → Prop} (hS : S w) :
    ∀ (l : List Oper) (k : Nat) (listed : Array Bool) (a : Act), (∀ j, j < l.length → l[j]? = ops[k + j]?) → (∀ j, j < m.length → m[j]? = ops[k + l.length + j]?) → k + l.length + m.length = n → HeadInv md ops n listed →
    readsHead md ops (m.length + g) l.length k listed = true → heldL P ops S (fun a' => walkS P ops Q S R m a' w) l a →
    anyM P md ops Q S n (fun listed a w => Region.seqB md ops g n listed = true ∧ R a w) (l.length + m.length) listed a w
  | [], k, listed, a, _, hm, hk, _, hB, h => by
    simp only [List.length_nil, Nat.zero_add, Nat.add_zero] at hm hk ⊢
    exact anyM_seq m k listed a w hm hk hB h
  | o :: l, k, listed, a, hl, hm, hk, inv, hB, h => by
    have h0 : ops[k]? = some o := by simpa using (hl 0 (by simp)).symm
    simp only [List.length_cons, readsHead, Bool.and_eq_true] at hB
    obtain ⟨⟨hr, hf⟩, hB'⟩ := hB
    simp only [List.length_cons] at hk hm
    have hkn : k < n := by omega
    have hr' : k ∈ Region.ready md ops listed := by simpa using hr
    obtain ⟨v, hy, hK⟩ := h
    rw [List.length_cons, show l.length + 1 + m.length = (l.length + m.length) + 1 by omega]
    exact anyM_first h0 (Region.noSelect_spec hsel) (fun c a w => hQ c a _ _ w) hs hc hn hkn (fun listed' a' w' hL => seqB_ready hL.1) (l.length + m.length) listed a w inv (Region.free_spec h0 hf) hr' hy hS
      (anyM_lex hsel hQ hs hc hn hS l (k + 1) _ _ (fun j hj => by have := hl (j + 1) (by simp; omega); simpa [Nat.add_assoc, Nat.add_comm 1 j] using this)
        (fun j hj => by rw [hm j hj, show k + 1 + l.length + j = k + (l.length + 1) + j by omega]) (by omega) (inv.set hr' hkn) hB' hK)
/-- The first r operations are loads, then m that follow one another; behind n nothing waits any more. -/
def readsB (md : Region.Mode) (ops : Array Oper) (r n : Nat) : Bool :=
  Region.noSelect ops && decide (n < ops.size) && decide (r ≤ n) && Region.sinkB md ops n && Region.chainB md ops n && readsHead md ops (n - r + (ops.size - n)) r 0 (Array.replicate ops.size false)
theorem any_reads {l : List Oper} {a : Act} {w : World} (r n : Nat) (hQ : ∀ c a d v w, Q (.panic c) (Act.put a d v) w → Q (.panic c) a w) (hB : readsB .any l.toArray r n = true) (S : World → Prop) (hS : S w)
    (h : heldL P l.toArray S (fun a' => walkS P l.toArray Q S (fun a w => wpList P l.toArray Q (l.drop n) a w) ((l.take n).drop r) a' w) (l.take r) a) : wpAny P .any l.toArray Q l.toArray.size (Array.replicate l.toArray.size false) a w := by
  simp only [readsB, Bool.and_eq_true, decide_eq_true_eq] at hB
  obtain ⟨⟨⟨⟨⟨hsel, hn⟩, hrn⟩, hs⟩, hc⟩, hlex⟩ := hB
  have hn' : n < l.length := by simpa using hn
  have htl : (l.take r).length = r := by simp; omega
  have hml : ((l.take n).drop r).length = n - r := by simp; omega
  have hdl : (l.drop n).length = l.toArray.size - n := by simp
  have inv0 : HeadInv .any l.toArray n (Array.replicate l.toArray.size false) :=
    ⟨by simp, fun j oj _ hl => (by rw [getD_replicate_false] at hl; cases hl), fun t _ ht => getD_in (by simpa using ht) (getD_replicate_false _ _)⟩
  have H := anyM_lex (P := P) (md := .any) (g := l.toArray.size - n) hsel hQ hs hc hn hS (l.take r) 0 _ a (fun j hj => by
    have hj' : j < r := by rw [htl] at hj; exact hj
    simp [hj']) (fun j hj => by
    rw [hml] at hj
    rw [htl, Nat.zero_add, List.getElem?_drop, List.getElem?_take, if_pos (by omega)]; simp) (by rw [htl, hml]; omega) inv0 (by rw [htl, hml]; exact hlex) h
  have := anyM_head (g := l.toArray.size - n) (fun listed a' w' hL => by
    have := wpAny_of_seq (md := .any) (Q' := Q) (l.drop n) n listed a' w' (fun j => by simp [List.getElem?_drop]) (by rw [hdl]; exact hL.1) hL.2
    rwa [hdl] at this) _ _ _ _ H
  rw [htl, hml, show r + (n - r) + (l.toArray.size - n) = l.toArray.size by omega] at this
  exact this
theorem wp_region_reads {id : Nat} {l : List Oper} {a : Act} {w : World} (r n : Nat) (hQ : ∀ c a d v w, Q (.panic c) (Act.put a d v) w → Q (.panic c) a w) (hm : P.follows .mixedOrders = true) (hB : readsB .any l.toArray r n = true) (S : World → Prop) (hS : S w.drew)
    (h : heldL P l.toArray S (fun a' => walkS P l.toArray Q S (fun a w => wpList P l.toArray Q (l.drop n) a w) ((l.take n).drop r) a' w.drew) (l.take r) a) : (Code.region id l.toArray true).wp P Q a w :=
  wp_region_any hm (any_reads r n hQ hB S hS h)
theorem round_reads {id lr k : Nat} {l : List Oper} {a : Act} {w : World} (r n : Nat) (hL : ¬ LetsOut Q) (hQ : ∀ c a d v w, Q (.panic c) (Act.put a d v) w → Q (.panic c) a w) (hm : P.follows .mixedOrders = true) (hB : readsB .any l.toArray r n = true) (hnd : l.toArray.all noDefer = true) (S : World → Prop) (hS : S w.drew)
    (h : heldL P l.toArray S (fun a' => walkS P l.toArray Q S (fun a w => wpList P l.toArray Q (l.drop n) a w) ((l.take n).drop r) a' w.drew) (l.take r) a) : (Code.region id l.toArray true).wpIn (inR lr) k P Q a w :=
  wpIn_region_any hm (any_in hL hnd _ _ _ _ (any_reads r n hQ hB S hS h))
end
end Go.Proofs.Ytchdmjnhjonddaa
