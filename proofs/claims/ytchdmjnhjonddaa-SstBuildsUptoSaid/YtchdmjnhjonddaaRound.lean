/- A range over a function: what is walked outside a round is walked inside one. No program in sight. -/
import Derived.Test.YtchdmjnhjonddaaQuiet
import Derived.RangeFuncNested
import Derived.RangeFuncBound
import Derived.RangeFuncBox
import Derived.RangeFuncCalls
import Derived.RangeFuncLeaves
import Derived.Shelf.Abstract
import Derived.WalkKit
import Derived.OwnWalkIn
import Derived.TacticsInMore
import Derived.LoopNIn
import Derived.LoopIn
set_option linter.unusedVariables false
set_option linter.unusedSimpArgs false
namespace Go.Proofs.Ytchdmjnhjonddaa
open Go.RowKit

section
variable {P : Program} {l n : Nat} {Q : Exit → Act → World → Prop} {a : Act} {w : World}
/-- In a round, with no fence. -/
abbrev inR (l : Nat) : Fence := Fence.wide.inRound l
theorem rows_in {row : String} {args : Array Value} {R : Value → World → Prop} (h : Rows P row args w R) : RowsIn (inR l) n P row args w R := by
  intro c cs _
  obtain ⟨v, w', r, s⟩ := h c cs
  exact ⟨v, w', r, by rw [fenced_inRound]; exact stepsIn_wide.2 s⟩
theorem calls_in {f : FuncId} {args : Array Value} {R : Ending → World → Prop} (h : Calls P f args w R) : CallsIn (inR l) n P f args w R := CallsIn.inRound l (callsIn_wide.2 h)
theorem oper_in {o : Oper} {K K' : Act → World → Prop} (hnd : ∀ c, o.op ≠ .defer c) (hK : ∀ a w, K a w → K' a w) (h : o.wp P a w K Q) : o.wpIn (inR l) n P a w K' Q := by
  unfold Oper.wpIn
  refine ⟨fun _ _ => trivial, ?_⟩
  rw [Oper.semAt_eq _ _ _ hnd]
  unfold Oper.wp at h
  generalize (execOp a.eval o).run P w = r at *
  have hd : ¬ ((inR l).depth.isSome = true) := by simp [Fence.wide]
  cases r with
  | ok x w' =>
    cases x <;> simp only [Oper.upon, Oper.uponIn] at h ⊢ <;>
      first
        | exact hK _ _ h
        | exact ⟨fun e => absurd e hd, (calls_in h).mono (fun e w'' he => by cases e <;> first | exact hK _ _ he | exact he)⟩
        | exact ⟨fun e => absurd e hd, (rows_in h).mono (fun _ _ he => hK _ _ he)⟩
  | halt x w' => cases x <;> simp only [Oper.upon, Oper.uponIn] at h ⊢ <;> exact h
def noDefer (o : Oper) : Bool := match o.op with | .defer _ => false | _ => true
theorem noDefer_spec {o : Oper} (h : noDefer o = true) : ∀ c, o.op ≠ .defer c := by
  intro c e
  unfold noDefer at h
  rw [e] at h
  cases h
theorem any_in {md : Region.Mode} {ops : Array Oper} (hQ : ¬ LetsOut Q) (hnd : ops.all noDefer = true) : ∀ (fuel : Nat) (listed : Array Bool) (a : Act) (w : World), wpAny P md ops Q fuel listed a w → wpAnyIn (inR l) n P md ops Q fuel listed a w
  | 0, _, _, _, h => h
  | fuel + 1, listed, a, w, h => by
    refine ⟨h.1, fun i hi => ?_⟩
    have := h.2 i hi
    unfold wpOp at this
    unfold wpOpIn
    cases ho : ops[i]? with
    | none => simp only [ho] at this ⊢; exact any_in hQ hnd fuel _ _ _ this
    | some o =>
      simp only [ho] at this ⊢
      have hd : noDefer o = true := by
        obtain ⟨h1, h2⟩ := Array.getElem?_eq_some_iff.1 ho
        rw [← h2]; exact Array.all_eq_true.1 hnd i h1
      split
      · rename_i hw
        rw [if_pos hw] at this
        rcases this with this | this
        · exact oper_in (noDefer_spec hd) (fun a w => any_in hQ hnd fuel _ a w) this
        · exact absurd this.2 hQ
      · rename_i hw
        rw [if_neg hw] at this
        exact ⟨fun _ _ => trivial, any_in hQ hnd fuel _ _ _ this⟩
theorem list_in {ops : Array Oper} (hQ : ¬ LetsOut Q) : ∀ (rest : List Oper) (a : Act) (w : World), rest.all noDefer = true → wpList P ops Q rest a w → wpListIn (inR l) n P ops Q rest a w
  | [], _, _, _, h => h
  | o :: rest, a, w, hnd, h => by
    rw [List.all_cons, Bool.and_eq_true] at hnd
    unfold wpList at h
    unfold wpListIn
    split
    · rename_i hw
      rw [if_pos hw] at h
      rcases h with h | h
      · exact oper_in (noDefer_spec hnd.1) (fun a w => list_in hQ rest a w hnd.2) h
      · exact absurd h.2 hQ
    · rename_i hw
      rw [if_neg hw] at h
      exact ⟨fun _ _ => trivial, list_in hQ rest _ _ hnd.2 h⟩
/-- A region that does not draw. -/
theorem round_lit {id : Nat} {ops : List Oper} (hQ : ¬ LetsOut Q) (hnd : ops.all noDefer = true) (h : wpList P ops.toArray Q ops a w) : (Code.region id ops.toArray false).wpIn (inR l) n P Q a w :=
  wpIn_region_lit (list_in hQ ops a w hnd h)
/-- A region that draws: its loads and calls keep all there was. -/
theorem round_class {w0 : World} {id : Nat} {ops : List Oper} (hQ : ¬ LetsOut Q) (hm : P.follows .mixedOrders = true) (hB : Region.lexB .any ops.toArray = true) (hnd : ops.toArray.all noDefer = true) (h0 : Below w0.heap.size w0 w)
    (h : wpQuiet P ops.toArray (fun w' => ∃ W : BW w0, w' = W.w) (fun a' => ∀ w', (∃ W : BW w0, w' = W.w) → Q .normal a' w') ops a) : (Code.region id ops.toArray true).wpIn (inR l) n P Q a w := by
  simp only [Region.lexB, Bool.and_eq_true] at hB
  refine wpIn_region_any hm (any_in hQ hnd _ _ _ _ (wpAny_of_quiet (Q := fun a' => ∀ w', (∃ W : BW w0, w' = W.w) → Q .normal a' w') (fun _ w' hw' h => h w' hw') _ _ _ _ (⟨⟨w.drew, h0.drew⟩, rfl⟩ : ∃ W : BW w0, w.drew = W.w) ?_))
  have := wpAnyQ_lex (C := fun w' => ∃ W : BW w0, w' = W.w) (md := .any) hB.1 ops 0 (Array.replicate ops.toArray.size false) a (by simp) (by simpa using hB.2) h
  simpa using this
/-- A region that draws, a store at its end. -/
theorem round_tail {id : Nat} {ops : List Oper} (N : Nat) (hQ : ¬ LetsOut Q) (hm : P.follows .mixedOrders = true) (hB : Region.lexTailB .any ops.toArray N = true) (hnd : ops.toArray.all noDefer = true)
    (h : wpStill P ops.toArray w.drew (fun a' => wpList P ops.toArray Q (ops.drop N) a' w.drew) (ops.take N) a) : (Code.region id ops.toArray true).wpIn (inR l) n P Q a w := by
  simp only [Region.lexTailB, Bool.and_eq_true, decide_eq_true_eq] at hB
  obtain ⟨⟨⟨⟨hsel, hn⟩, hs⟩, hc⟩, hlex⟩ := hB
  have hn' : N < ops.length := by simpa using hn
  have htl : (ops.take N).length = N := by simp; omega
  have hdl : (ops.drop N).length = ops.toArray.size - N := by simp
  have H := wpAnyL_lex (md := .any) (g := ops.toArray.size - N) hsel hs hc hn (ops.take N) 0 (Array.replicate ops.toArray.size false) a (fun j hj => by
    have hj' : j < N := by rw [htl] at hj; exact hj
    simp [hj']) (by simpa using htl)
    ⟨by simp, fun j oj _ hl => (by rw [getD_replicate_false] at hl; cases hl), fun t _ ht => getD_in (by simpa using ht) (getD_replicate_false _ _)⟩ (by rw [htl]; exact hlex) h
  refine wpIn_region_any hm (any_in hQ hnd _ _ _ _ ?_)
  have := wpAny_of_head (Q' := Q) (g := ops.toArray.size - N) (fun listed a' hL => by
    have := wpAny_of_seq (md := .any) (Q' := Q) (ops.drop N) N listed a' w.drew (fun j => by simp [List.getElem?_drop]) (by rw [hdl]; exact hL.1) hL.2
    rwa [hdl] at this) _ _ _ H
  rw [htl, show N + (ops.toArray.size - N) = ops.toArray.size by omega] at this
  exact this
end
end Go.Proofs.Ytchdmjnhjonddaa
