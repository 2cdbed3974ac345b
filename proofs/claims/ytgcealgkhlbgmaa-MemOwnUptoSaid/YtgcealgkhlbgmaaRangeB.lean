/- A range over a function whose variable is boxed. No program in sight. -/
import Derived.Test.YtgcealgkhlbgmaaRange
namespace Go.Proofs.Ytgcealgkhlbgmaa
open Go.RowKit

section
variable {P : Program} {Q : Exit → Act → World → Prop} {a : Act} {w : World}
theorem wp_then_only {c : Code} {K : Act → World → Prop} {a : Act} {w : World} (h : c.wp P (Exit.then K (fun _ _ _ => False)) a w) : c.wp P (Exit.then K Q) a w := by
  refine wp_mono h ?_
  intro e a' w' h'
  cases e with
  | normal => exact h'
  | exit id => exact h'.elim
  | goto l => exact h'.elim
  | ret => exact h'.elim
  | panic ch => exact h'.elim
  | outgrown => exact h'.elim
theorem range_box {α : Type} {g : Operand} {ps : Array Tmp} {assign body : Code} {gf : Nat} {lb : Array Value} (hg : a.eval g = .func (.func gf) #[] lb) (eg : ∀ args w, (callFunc gf args).run P w = .ok (.enter gf args) w)
    {encs : α → Array Value} {Kp : World → World → Prop} {S Sp : List α → Prop} {N : Nat} {w0 : World} (hseq : SeqStopsK Fence.wide 4 P gf lb encs Kp S Sp N w0)
    (hKt : ∀ {A B C : World}, Kp A B → Kp B C → Kp A C) (hKb : ∀ (W : World) (l : Nat) (o o' : Obj), w.heap.size ≤ l → W.heap[l]? = some o → o.isCells = false → o.isWalk = false → Kp W (W.putObj l o')) (hb0 : Below w0.heap.size w0 w) (hps : ∀ x, (encs x).size = ps.size)
    (hKa : ∀ (W : World) (o : Obj), w.heap.size ≤ W.heap.size → Kp W (W.alloc o))
    (I : List α → World → Prop) (Ix : Code → List α → World → Prop) (hI : OwnFrom w.heap.size I) (hIx : ∀ c, OwnFrom w.heap.size (Ix c)) (h0 : I [] w) (hIs : ∀ pre W, I pre W → w.heap.size ≤ W.heap.size)
    (cs : α → Array Value) (t : TypeId) (h : ∃ a₁ : α → Nat → Act,
    (∀ (l : Nat) (x : α) (W : World) (K : Act → World → Prop) (b : Nat), W.heap.size = b → K (a₁ x b) (W.alloc (.cells (cs x) t)) →
        assign.wpIn (inR l) 3 P (Exit.then K (fun _ _ _ => False)) { tmps := (ps.zip (encs x)).foldl (fun t (p, v) => t.setIfInBounds p v) a.tmps, defers := [] } W) ∧
    (∀ (l : Nat) (pre : List α) (x : α) (b : Nat) (W : World), w.heap.size ≤ l → (∃ r, W.heap[l]? = some (.loop r)) → I pre W → w.heap.size ≤ b → W.heap[b]? = some (.cells (cs x) t) → pre.length < N → body.wpIn (inR l) 3 P (ownPostG w.heap.size Kp I Ix (pre ++ [x]) W) (a₁ x b) W))
    (hdone : ∀ (D : Nat) (xs : List α) (W : World), w.heap.size ≤ D → S xs → I xs W → W.heap[D]? = some (.deferred (some [])) → Q .normal { a with defers := { target := .collected D, args := #[] } :: a.defers } W)
    (hstop : ∀ (D : Nat) (c : Code) (pre : List α) (W : World), w.heap.size ≤ D → Sp pre → Ix c pre W → W.heap[D]? = some (.deferred (some [])) → c.wp P Q { a with defers := { target := .collected D, args := #[] } :: a.defers } W) :
    (Code.rangeFunc g ps assign body).wp P Q a w := by
  obtain ⟨a₁, h1, h2⟩ := h
  refine wpIn_wide.1 (wpIn_rangeFunc_ownH (F := Fence.wide) (n := 5) rfl (by omega) hg trivial eg hseq hKt hKb hb0 hps I Ix hI hIx h0
    (fun x a' W => ∃ b, a' = a₁ x b ∧ w.heap.size ≤ b ∧ W.heap[b]? = some (.cells (cs x) t)) ?_ ?_ ?_ hdone (fun D c pre W h1 h2 h3 h4 => wpIn_wide.2 (hstop D c pre W h1 h2 h3 h4)))
  · rintro x a' _ W W' row ⟨b, e, hb, hc⟩ hg hr
    refine ⟨b, e, hb, (hg.block b (Array.getElem?_eq_some_iff.1 hc).1 (fun e' => ?_)).trans hc⟩
    obtain ⟨_, o, ho, hoc⟩ := hr b e'.symm
    rw [hc] at ho
    cases ho
    cases hoc
  · intro l pre x W K hi hK
    refine h1 l x W K _ rfl (hK _ _ ((KeepsOthers.alloc W _).from _) (hKa W _ (hIs pre W hi)) (hI.alloc _ hi) ⟨W.heap.size, rfl, hIs pre W hi, ?_⟩)
    exact World.alloc_heap_new W _
  · rintro l pre x a' W hl hr hi ⟨b, rfl, hb, hc⟩ hlen
    exact h2 l pre x b W hl hr hi hb hc hlen
end
end Go.Proofs.Ytgcealgkhlbgmaa
