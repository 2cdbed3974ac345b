/- A region that draws, taken in a given order: pure operations, loads, steps, and a tail for which all of these but the pure ones must have come. No program in sight. -/
import Derived.Test.YtchdmjnhjonddaaReads
set_option linter.unusedVariables false
set_option linter.unusedSimpArgs false
namespace Go.Proofs.Ytchdmjnhjonddaa
open Go.RowKit

section
variable {P : Program} {md : Region.Mode} {ops : Array Oper} {Q : Exit → Act → World → Prop} {S : World → Prop}

def inTail (ts : List Nat) (j : Nat) : Bool := ts.contains j
/-- What is listed is closed; nothing of the tail is listed. -/
structure HInv (md : Region.Mode) (ops : Array Oper) (l0 : Array Bool) (ts : List Nat) (listed : Array Bool) : Prop where
  size : listed.size = ops.size
  closed : ∀ j oj, ops[j]? = some oj → listed.getD j false = true → ∀ e ∈ oj.after, Region.binds md e = true → listed.getD e.on false = true
  tail : ∀ t, inTail ts t = true → t < ops.size → listed.getD t true = false
  base : ∀ j, l0.getD j false = true → listed.getD j false = true
theorem HInv.set {l0 : Array Bool} {ts : List Nat} {i : Nat} {listed : Array Bool} (inv : HInv md ops l0 ts listed) (hi : i ∈ Region.ready md ops listed) (hin : inTail ts i = false) : HInv md ops l0 ts (listed.setIfInBounds i true) := by
  obtain ⟨_, oi, hoi, hall⟩ := mem_ready.1 hi
  refine ⟨by simp [inv.size], fun j oj hj hl e he hb => ?_, fun t ht ht' => by rw [getD_set_ne true (fun e => by rw [e, ht] at hin; cases hin)]; exact inv.tail t ht ht', fun j hj => getD_set_true (inv.base j hj)⟩
  by_cases hij : i = j
  · subst hij
    have : oj = oi := Option.some.inj (hj.symm.trans hoi)
    subst this
    exact getD_set_true (hall e he hb)
  · rw [getD_set_ne false hij] at hl
    exact getD_set_true (inv.closed j oj hj hl e he hb)
/-- Each head (what is neither listed at the start nor of the tail) is waited for by a later head or by the tail's first. -/
def sink2 (md : Region.Mode) (ops : Array Oper) (l0 : Array Bool) (ts : List Nat) (t0 : Nat) : Bool :=
  (List.range ops.size).all fun i => l0.getD i false || inTail ts i || (List.range ops.size).any fun j => decide (i < j) && !l0.getD j false && (!inTail ts j || decide (j = t0)) && Region.waitsFor md ops j i
/-- Each of the tail but its first waits for another one of the tail. -/
def chain2 (md : Region.Mode) (ops : Array Oper) (ts : List Nat) (t0 : Nat) : Bool :=
  ts.all fun t => decide (t = t0) || ts.any fun u => decide (u < ops.size) && Region.waitsFor md ops t u
theorem tail_waits2 {l0 : Array Bool} {ts : List Nat} {t0 : Nat} {listed : Array Bool} (hs : sink2 md ops l0 ts t0 = true) (hc : chain2 md ops ts t0 = true) (inv : HInv md ops l0 ts listed) :
    ∀ (d i : Nat), ops.size - i = d → i < ops.size → inTail ts i = false → listed.getD i true = false → ∀ t, inTail ts t = true → t ∉ Region.ready md ops listed := by
  intro d
  induction d using Nat.strongRecOn with
  | _ d ih =>
    intro i hd hi hnt hun t ht hr
    obtain ⟨_, ot, hot, hall⟩ := mem_ready.1 hr
    have hi0 : l0.getD i false = false := by
      cases e : l0.getD i false with
      | false => rfl
      | true => have := inv.base i e; rw [getD_both hun] at this; cases this
    by_cases htn : t = t0
    · subst htn
      have h1 := List.all_eq_true.1 hs i (List.mem_range.2 hi)
      rw [hi0, hnt, Bool.false_or, Bool.false_or] at h1
      obtain ⟨j, hj, hj2⟩ := List.any_eq_true.1 h1
      simp only [Bool.and_eq_true, Bool.or_eq_true, decide_eq_true_eq, Bool.not_eq_true'] at hj2
      obtain ⟨⟨⟨hij, hj0⟩, hjt⟩, hw⟩ := hj2
      obtain ⟨oj, hoj, e, he, hb, hon⟩ := Region.waitsFor_spec hw
      have hjs : j < ops.size := List.mem_range.1 hj
      by_cases hjt2 : j = t
      · subst hjt2
        have : oj = ot := Option.some.inj (hoj.symm.trans hot)
        subst this
        have h2 := hall e he hb
        rw [hon, getD_both hun] at h2
        cases h2
      · have hjn : inTail ts j = false := by
          rcases hjt with h | h
          · exact h
          · exact absurd h hjt2
        cases hl : listed.getD j false with
        | true =>
          have h2 := inv.closed j oj hoj hl e he hb
          rw [hon, getD_both hun] at h2
          cases h2
        | false => exact ih (ops.size - j) (by omega) j rfl hjs hjn (getD_in (by rw [inv.size]; exact hjs) hl) t ht hr
    · have h1 := List.all_eq_true.1 hc t (by unfold inTail at ht; simpa using ht)
      rw [Bool.or_eq_true, decide_eq_true_eq] at h1
      rcases h1 with h1 | h1
      · exact htn h1
      · obtain ⟨u, hu, hu2⟩ := List.any_eq_true.1 h1
        simp only [Bool.and_eq_true, decide_eq_true_eq] at hu2
        obtain ⟨o', ho', e, he, hb, hon⟩ := Region.waitsFor_spec hu2.2
        have : o' = ot := Option.some.inj (ho'.symm.trans hot)
        subst this
        have h2 := hall e he hb
        rw [hon, getD_both (inv.tail u (by unfold inTail; simpa using hu) hu2.1)] at h2
        cases h2
/-- The heads in whatever order, S holding behind each. -/
def anyT (P : Program) (md : Region.Mode) (ops : Array Oper) (Q : Exit → Act → World → Prop) (S : World → Prop) (ts : List Nat) (L : Array Bool → Act → World → Prop) : Nat → Array Bool → Act → World → Prop
  | 0, listed, a, w => L listed a w
  | f + 1, listed, a, w => Region.ready md ops listed ≠ [] ∧ ∀ i ∈ Region.ready md ops listed, inTail ts i = false ∧ wpOp P ops Q i (fun a' w' => S w' ∧ anyT P md ops Q S ts L f (listed.setIfInBounds i true) a' w') a w
theorem anyT_head {g : Nat} {ts : List Nat} {L : Array Bool → Act → World → Prop} (hL : ∀ listed a w, L listed a w → wpAny P md ops Q g listed a w) :
    ∀ (f : Nat) (listed : Array Bool) (a : Act) (w : World), anyT P md ops Q S ts L f listed a w → wpAny P md ops Q (f + g) listed a w
  | 0, listed, a, w, h => by rw [Nat.zero_add]; exact hL _ _ _ h
  | f + 1, listed, a, w, h => by
    rw [show f + 1 + g = (f + g) + 1 by omega]
    exact ⟨fun h0 => absurd h0 h.1, fun i hi => wpOp_mono (fun a' w' h' => anyT_head hL f _ a' w' h'.2) (h.2 i hi).2⟩
theorem anyT_first {l0 : Array Bool} {ts : List Nat} {t0 i : Nat} {oi : Oper} {v : Value} {L : Array Bool → Act → World → Prop} (hi : ops[i]? = some oi) (hsel : ∀ (j : Nat) (o : Oper) cs b, ops[j]? = some o → o.op ≠ .select cs b)
    (hQ : ∀ c a w, Q (.panic c) (a.put oi.dst v) w → Q (.panic c) a w)
    (hs : sink2 md ops l0 ts t0 = true) (hc : chain2 md ops ts t0 = true) (hin : inTail ts i = false)
    (hdone : ∀ listed a w, L listed a w → ∀ j ∈ Region.ready md ops listed, inTail ts j = true) :
    ∀ (f : Nat) (listed : Array Bool) (a : Act) (w : World), HInv md ops l0 ts listed →
      (∀ j oj, ops[j]? = some oj → j ≠ i → listed.getD j true = false → (∀ e ∈ oj.after, Region.binds md e = true → e.on ≠ i) → oi.apart ops oj = true) →
      i ∈ Region.ready md ops listed → YieldsIf P ops S oi v a → S w →
      anyT P md ops Q S ts L f (listed.setIfInBounds i true) (a.put oi.dst v) w → anyT P md ops Q S ts L (f + 1) listed a w := by
  have his : i < ops.size := (Array.getElem?_eq_some_iff.1 hi).1
  have hjn : ∀ (listed : Array Bool), HInv md ops l0 ts listed → i ∈ Region.ready md ops listed → ∀ j, j ∈ Region.ready md ops listed → inTail ts j = false := by
    intro listed inv hr j hj
    cases e : inTail ts j with
    | false => rfl
    | true => exact absurd hj (tail_waits2 hs hc inv _ i rfl his hin (mem_ready.1 hr).1 j e)
  intro f
  induction f with
  | zero =>
    intro listed a w inv _ hr hy hS H
    refine ⟨fun h => (by rw [h] at hr; cases hr), fun j hj => ⟨hjn listed inv hr j hj, ?_⟩⟩
    by_cases hji : j = i
    · subst hji; exact hy.wpOp hi hS ⟨hS, H⟩
    · have h1 := hdone _ _ _ H j (ready_mono hj hji)
      rw [hjn listed inv hr j hj] at h1
      cases h1
  | succ f ih =>
    intro listed a w inv hfree hr hy hS H
    have hun := (mem_ready.1 hr).1
    refine ⟨fun h => (by rw [h] at hr; cases hr), fun j hj => ⟨hjn listed inv hr j hj, ?_⟩⟩
    by_cases hji : j = i
    · subst hji; exact hy.wpOp hi hS ⟨hS, H⟩
    · have h1 := (H.2 j (ready_mono hj hji)).2
      obtain ⟨hjun, oj, hoj, hall⟩ := mem_ready.1 hj
      have hnot : ∀ e ∈ oj.after, Region.binds md e = true → e.on ≠ i := fun e he hb heq => by
        have h1 := hall e he hb
        rw [heq, getD_both hun] at h1
        cases h1
      have h2 := wpOp_putIf hoj (hfree j oj hoj hji hjun hnot) (fun cs b => hsel i oi cs b hi) (fun cs b => hsel j oj cs b hoj) hQ hy h1
      have hfree' : ∀ k ok, ops[k]? = some ok → k ≠ i → (listed.setIfInBounds j true).getD k true = false →
          (∀ e ∈ ok.after, Region.binds md e = true → e.on ≠ i) → oi.apart ops ok = true := fun k ok hk hki hun hno => by
        refine hfree k ok hk hki ?_ hno
        by_cases hjk : j = k
        · subst hjk; exact hjun
        · rw [getD_set_ne true hjk] at hun; exact hun
      refine wpOp_mono (fun a' w' h3 => ⟨h3.2.1, ih (listed.setIfInBounds j true) a' w' (inv.set hj (hjn listed inv hr j hj)) hfree' (ready_mono hr (Ne.symm hji)) h3.1 h3.2.1 ?_⟩) h2
      rw [Array.setIfInBounds_comm _ _ hji]
      exact h3.2.2
/-- One behind the other. -/
def seqL (md : Region.Mode) (ops : Array Oper) : List Nat → Array Bool → Bool
  | [], listed => (Region.ready md ops listed).isEmpty
  | k :: ks, listed => decide (Region.ready md ops listed = [k]) && seqL md ops ks (listed.setIfInBounds k true)
/-- The operations with these numbers. -/
def opsAt (l : List Oper) (ks : List Nat) : List Oper := ks.filterMap (fun k => l[k]?)
theorem wpAny_seqL : ∀ (l : List Oper) (ks : List Nat) (listed : Array Bool) (a : Act) (w : World), seqL md l.toArray ks listed = true → (∀ k ∈ ks, k < l.length) → wpList P l.toArray Q (opsAt l ks) a w → wpAny P md l.toArray Q ks.length listed a w
  | l, [], _, _, _, hB, _, h => ⟨by simpa [seqL] using hB, h⟩
  | l, k :: ks, listed, a, w, hB, hk, h => by
    simp only [seqL, Bool.and_eq_true, decide_eq_true_eq] at hB
    have hkl := hk k (by simp)
    refine ⟨fun h1 => (by rw [hB.1] at h1; cases h1), fun i hi => ?_⟩
    rw [hB.1] at hi
    have hik : i = k := by simpa using hi
    subst hik
    have h' : wpList P l.toArray Q (l[i] :: opsAt l ks) a w := by
      unfold opsAt at h
      rw [List.filterMap_cons, List.getElem?_eq_getElem hkl] at h
      exact h
    have hw : wpOp P l.toArray Q i (wpList P l.toArray Q (opsAt l ks)) a w := by
      unfold wpOp
      simp only [List.getElem?_toArray, List.getElem?_eq_getElem hkl]
      exact h'
    exact wpOp_mono (fun a' w' h2 => wpAny_seqL l ks _ a' w' hB.2 (fun j hj => hk j (by simp [hj])) h2) hw
theorem anyT_seq {l : List Oper} {ts : List Nat} {R : Act → World → Prop} : ∀ (ms : List Nat) (listed : Array Bool) (a : Act) (w : World), seqL md l.toArray (ms ++ ts) listed = true → (∀ k ∈ ms, k < l.length ∧ inTail ts k = false) → walkS P l.toArray Q S R (opsAt l ms) a w →
    anyT P md l.toArray Q S ts (fun listed a w => seqL md l.toArray ts listed = true ∧ R a w) ms.length listed a w
  | [], _, _, _, hB, _, h => ⟨hB, h⟩
  | k :: ms, listed, a, w, hB, hk, h => by
    simp only [List.cons_append, seqL, Bool.and_eq_true, decide_eq_true_eq] at hB
    have hkl := hk k (by simp)
    refine ⟨fun h1 => (by rw [hB.1] at h1; cases h1), fun i hi => ?_⟩
    rw [hB.1] at hi
    have hik : i = k := by simpa using hi
    subst hik
    refine ⟨hkl.2, ?_⟩
    have h' : walkS P l.toArray Q S R (l[i]'hkl.1 :: opsAt l ms) a w := by
      unfold opsAt at h
      rw [List.filterMap_cons, List.getElem?_eq_getElem hkl.1] at h
      exact h
    unfold wpOp
    simp only [List.getElem?_toArray, List.getElem?_eq_getElem hkl.1]
    rw [if_pos h'.1]
    exact .inl (Oper.wp_mono (fun a' w' h2 => ⟨h2.1, anyT_seq ms _ a' w' hB.2 (fun j hj => hk j (by simp [hj])) h2.2⟩) h'.2)
theorem seqL_ready {l : List Oper} {ts : List Nat} {listed : Array Bool} (h : seqL md l.toArray ts listed = true) : ∀ j ∈ Region.ready md l.toArray listed, inTail ts j = true := by
  cases ts with
  | nil => intro j hj; simp only [seqL, List.isEmpty_iff] at h; rw [h] at hj; cases hj
  | cons t ts =>
    intro j hj
    simp only [seqL, Bool.and_eq_true, decide_eq_true_eq] at h
    rw [h.1] at hj
    have : j = t := by simpa using hj
    subst this
    simp [inTail]
/-- Taken in turn: each may come, and nobody who could come before it touches its temporaries. -/
def takeL (md : Region.Mode) (ops : Array Oper) : List Nat → Array Bool → Bool
  | [], _ => true
  | k :: ks, listed => (Region.ready md ops listed).contains k && Region.free md ops listed k && takeL md ops ks (listed.setIfInBounds k true)
def setL (listed : Array Bool) (ks : List Nat) : Array Bool := ks.foldl (fun l k => l.setIfInBounds k true) listed
theorem anyT_lex {l : List Oper} {l0 : Array Bool} {ts ms : List Nat} {t0 : Nat} {w : World} {R : Act → World → Prop} (hsel : Region.noSelect l.toArray = true) (hQ : ∀ c a d v w, Q (.panic c) (Act.put a d v) w → Q (.panic c) a w)
    (hs : sink2 md l.toArray l0 ts t0 = true) (hc : chain2 md l.toArray ts t0 = true) (hS : S w) (hms : ∀ k ∈ ms, k < l.length ∧ inTail ts k = false) :
    ∀ (rs : List Nat) (listed : Array Bool) (a : Act), (∀ k ∈ rs, k < l.length ∧ inTail ts k = false) → HInv md l.toArray l0 ts listed → takeL md l.toArray rs listed = true → seqL md l.toArray (ms ++ ts) (setL listed rs) = true →
    heldL P l.toArray S (fun a' => walkS P l.toArray Q S R (opsAt l ms) a' w) (opsAt l rs) a → anyT P md l.toArray Q S ts (fun listed a w => seqL md l.toArray ts listed = true ∧ R a w) (rs.length + ms.length) listed a w
  | [], listed, a, _, _, _, hB, h => by
    rw [List.length_nil, Nat.zero_add]
    exact anyT_seq ms listed a w hB hms h
  | k :: rs, listed, a, hk, inv, hT, hB, h => by
    simp only [takeL, Bool.and_eq_true] at hT
    obtain ⟨⟨hr, hf⟩, hT'⟩ := hT
    have hkl := hk k (by simp)
    have h0 : l.toArray[k]? = some (l[k]'hkl.1) := by simp [hkl.1]
    have h' : heldL P l.toArray S (fun a' => walkS P l.toArray Q S R (opsAt l ms) a' w) (l[k]'hkl.1 :: opsAt l rs) a := by
      unfold opsAt at h
      rw [List.filterMap_cons, List.getElem?_eq_getElem hkl.1] at h
      exact h
    obtain ⟨v, hy, hK⟩ := h'
    rw [List.length_cons, show rs.length + 1 + ms.length = (rs.length + ms.length) + 1 by omega]
    exact anyT_first h0 (Region.noSelect_spec hsel) (fun c a w => hQ c a _ _ w) hs hc hkl.2 (fun listed' a' w' hL => seqL_ready hL.1) (rs.length + ms.length) listed a w inv (Region.free_spec h0 hf) (by simpa using hr) hy hS
      (anyT_lex hsel hQ hs hc hS hms rs _ _ (fun j hj => hk j (by simp [hj])) (inv.set (by simpa using hr) hkl.2) hT' hB hK)
theorem any_pure {l : List Oper} {R : Act → Prop} {w : World} {f : Nat} (hsel : Region.noSelect l.toArray = true) (hQ : ∀ c a d v w, Q (.panic c) (Act.put a d v) w → Q (.panic c) a w) :
    ∀ (ps : List Nat) (listed : Array Bool) (a : Act), (∀ k ∈ ps, k < l.length) → takeL md l.toArray ps listed = true → (∀ a', R a' → wpAny P md l.toArray Q f (setL listed ps) a' w) → heldL P l.toArray (fun _ => True) R (opsAt l ps) a →
    wpAny P md l.toArray Q (ps.length + f) listed a w
  | [], listed, a, _, _, hR, h => by rw [List.length_nil, Nat.zero_add]; exact hR a h
  | k :: ps, listed, a, hk, hT, hR, h => by
    simp only [takeL, Bool.and_eq_true] at hT
    obtain ⟨⟨hr, hf⟩, hT'⟩ := hT
    have hkl := hk k (by simp)
    have h0 : l.toArray[k]? = some (l[k]'hkl) := by simp [hkl]
    have h' : heldL P l.toArray (fun _ => True) R (l[k]'hkl :: opsAt l ps) a := by
      unfold opsAt at h
      rw [List.filterMap_cons, List.getElem?_eq_getElem hkl] at h
      exact h
    obtain ⟨v, hy, hK⟩ := h'
    rw [List.length_cons, show ps.length + 1 + f = (ps.length + f) + 1 by omega]
    exact wpAny_take h0 hsel hf hr (fun c a w => hQ c a _ _ w) (hy.imp (fun ⟨h1, h2⟩ => ⟨h1, fun w => h2 w trivial⟩) id) (any_pure hsel hQ ps _ _ (fun j hj => hk j (by simp [hj])) hT' hR hK)
def closedB (md : Region.Mode) (ops : Array Oper) (listed : Array Bool) : Bool := (List.range ops.size).all fun j => !listed.getD j false || match ops[j]? with
  | some oj => oj.after.all fun e => !Region.binds md e || listed.getD e.on false
  | none => true
def orderB (md : Region.Mode) (ops : Array Oper) (ps rs ms ts : List Nat) (t0 : Nat) : Bool :=
  Region.noSelect ops && takeL md ops ps (Array.replicate ops.size false) && closedB md ops (setL (Array.replicate ops.size false) ps) && ts.all (fun t => !(setL (Array.replicate ops.size false) ps).getD t true) &&
  sink2 md ops (setL (Array.replicate ops.size false) ps) ts t0 && chain2 md ops ts t0 && takeL md ops rs (setL (Array.replicate ops.size false) ps) && seqL md ops (ms ++ ts) (setL (setL (Array.replicate ops.size false) ps) rs) &&
  (ps ++ rs ++ ms ++ ts).all (fun k => decide (k < ops.size)) && (rs ++ ms).all (fun k => !inTail ts k) && decide (ps.length + (rs.length + ms.length + ts.length) = ops.size)
theorem setL_size (ks : List Nat) : ∀ listed : Array Bool, (setL listed ks).size = listed.size := by
  induction ks with
  | nil => intro l; rfl
  | cons k ks ih => intro l; simp only [setL, List.foldl_cons]; exact (ih _).trans (by simp)
/-- A region that draws, in the order ps (pure), rs (loads), ms (steps), ts (the tail, t0 first). -/
theorem any_order {l : List Oper} {a : Act} {w : World} (ps rs ms ts : List Nat) (t0 : Nat) (hQ : ∀ c a d v w, Q (.panic c) (Act.put a d v) w → Q (.panic c) a w) (hB : orderB .any l.toArray ps rs ms ts t0 = true) (S : World → Prop) (hS : S w)
    (h : heldL P l.toArray (fun _ => True) (fun a => heldL P l.toArray S (fun a' => walkS P l.toArray Q S (fun a w => wpList P l.toArray Q (opsAt l ts) a w) (opsAt l ms) a' w) (opsAt l rs) a) (opsAt l ps) a) :
    wpAny P .any l.toArray Q l.toArray.size (Array.replicate l.toArray.size false) a w := by
  simp only [orderB, Bool.and_eq_true, decide_eq_true_eq] at hB
  obtain ⟨⟨⟨⟨⟨⟨⟨⟨⟨⟨hsel, hT⟩, hcl⟩, htl⟩, hs⟩, hc⟩, hT2⟩, hsq⟩, hlt⟩, hnt⟩, hlen⟩ := hB
  have hlt' : ∀ k ∈ ps ++ rs ++ ms ++ ts, k < l.length := fun k hk => by simpa using List.all_eq_true.1 hlt k hk
  have hnt' : ∀ k ∈ rs ++ ms, inTail ts k = false := fun k hk => by simpa using List.all_eq_true.1 hnt k hk
  have key : wpAny P .any l.toArray Q (ps.length + (rs.length + ms.length + ts.length)) (Array.replicate l.toArray.size false) a w := by
   refine any_pure hsel hQ ps _ a (fun k hk => hlt' k (by simp [hk])) hT (fun a' ha' => ?_) h
   have inv : HInv .any l.toArray (setL (Array.replicate l.toArray.size false) ps) ts (setL (Array.replicate l.toArray.size false) ps) := by
     refine ⟨by rw [setL_size]; simp, fun j oj hj hl e he hb => ?_, fun t ht hts => ?_, fun _ h => h⟩
     · have h1 := List.all_eq_true.1 hcl j (List.mem_range.2 (Array.getElem?_eq_some_iff.1 hj).1)
       rw [hl, hj] at h1
       simp only [Bool.not_true, Bool.false_or] at h1
       have h2 := Array.all_eq_true'.1 h1 e he
       rw [hb] at h2
       simpa using h2
     · have := List.all_eq_true.1 htl t (by unfold inTail at ht; simpa using ht)
       simpa using this
   have H := anyT_lex (P := P) (md := .any) hsel hQ hs hc hS (fun k hk => ⟨hlt' k (by simp [hk]), hnt' k (by simp [hk])⟩) rs _ a' (fun k hk => ⟨hlt' k (by simp [hk]), hnt' k (by simp [hk])⟩) inv hT2 hsq ha'
   refine anyT_head (g := ts.length) (L := fun listed a w => seqL .any l.toArray ts listed = true ∧ wpList P l.toArray Q (opsAt l ts) a w) (fun listed a w hL => wpAny_seqL l ts listed a w hL.1 (fun k hk => hlt' k (by simp [hk])) hL.2) _ _ _ _ H
  rwa [hlen] at key
theorem wp_region_order {id : Nat} {l : List Oper} {a : Act} {w : World} (ps rs ms ts : List Nat) (t0 : Nat) (hQ : ∀ c a d v w, Q (.panic c) (Act.put a d v) w → Q (.panic c) a w) (hm : P.follows .mixedOrders = true) (hB : orderB .any l.toArray ps rs ms ts t0 = true) (S : World → Prop) (hS : S w.drew)
    (h : heldL P l.toArray (fun _ => True) (fun a => heldL P l.toArray S (fun a' => walkS P l.toArray Q S (fun a w => wpList P l.toArray Q (opsAt l ts) a w) (opsAt l ms) a' w.drew) (opsAt l rs) a) (opsAt l ps) a) : (Code.region id l.toArray true).wp P Q a w :=
  wp_region_any hm (any_order ps rs ms ts t0 hQ hB S hS h)
theorem round_order {id lr k : Nat} {l : List Oper} {a : Act} {w : World} (ps rs ms ts : List Nat) (t0 : Nat) (hL : ¬ LetsOut Q) (hQ : ∀ c a d v w, Q (.panic c) (Act.put a d v) w → Q (.panic c) a w) (hm : P.follows .mixedOrders = true) (hB : orderB .any l.toArray ps rs ms ts t0 = true) (hnd : l.toArray.all noDefer = true) (S : World → Prop) (hS : S w.drew)
    (h : heldL P l.toArray (fun _ => True) (fun a => heldL P l.toArray S (fun a' => walkS P l.toArray Q S (fun a w => wpList P l.toArray Q (opsAt l ts) a w) (opsAt l ms) a' w.drew) (opsAt l rs) a) (opsAt l ps) a) : (Code.region id l.toArray true).wpIn (inR lr) k P Q a w :=
  wpIn_region_any hm (any_in hL hnd _ _ _ _ (any_order ps rs ms ts t0 hQ hB S hS h))
end
end Go.Proofs.Ytchdmjnhjonddaa
