/- A range over a function whose variable is boxed, where the sequence tells of each value what holds of it in the world in which it is handed out. No program in sight. -/
import Derived.Test.YtgcealgkhlbgmaaRangeB
namespace Go.Proofs.Ytgcealgkhlbgmaa
open Go.RowKit

section
variable {P : Program} {Q : Exit → Act → World → Prop} {a : Act} {w : World} {α : Type}
/-- The contract of a sequence: of x it tells X. -/
def SeqX (m : Nat) (P : Program) (g : Nat) (lb : Array Value) (encs : α → Array Value) (X : α → World → Prop) (Kp : World → World → Prop) (S Sp : List α → Prop) (N : Nat) (w0 : World) : Prop :=
  ∀ (l : Nat) (J Jx : List α → World → Prop) (W : World), Below w0.heap.size w0 W → AbidesFrom W.heap.size J →
    (∀ pre x V, J pre V → X x V → pre.length < N → YieldAt Fence.wide m P l (encs x) V fun e V' => (e = .returned (.bool true) ∧ J (pre ++ [x]) V' ∧ Kp V V') ∨ (e = .returned (.bool false) ∧ Jx (pre ++ [x]) V')) →
    J [] W → CallsIn Fence.wide (m + 1) P g (#[.func (.yield l) #[] #[]] ++ lb) W fun e W' => (∃ v, e = .returned v) ∧ ((∃ xs, S xs ∧ J xs W') ∨ (∃ pre, Sp pre ∧ Jx pre W'))
theorem below_put {n : Nat} {W : World} {l : Nat} {o o' : Obj} (hl : n ≤ l) (h : W.heap[l]? = some o) : Below n W (W.putObj l o') :=
  (Below.refl n W).grown (grownBy_putObj' W l o') (by have := (Array.getElem?_eq_some_iff.1 h).1; omega) (fun k e => by cases e; exact hl)
theorem range_x {g : Operand} {ps : Array Tmp} {assign body : Code} {gf : Nat} {lb : Array Value} (hg : a.eval g = .func (.func gf) #[] lb) (eg : ∀ args w, (callFunc gf args).run P w = .ok (.enter gf args) w)
    {encs : α → Array Value} {X : α → World → Prop} {Kp : World → World → Prop} {S Sp : List α → Prop} {N : Nat} {w0 : World} (hseq : SeqX 3 P gf lb encs X Kp S Sp N w0) (hKt : ∀ {A B C : World}, Kp A B → Kp B C → Kp A C) (hKb : ∀ (W : World) (l : Nat) (o o' : Obj), w.heap.size ≤ l → W.heap[l]? = some o → o.isCells = false → o.isWalk = false → Kp W (W.putObj l o')) (hKa : ∀ (W : World) (o : Obj), w.heap.size ≤ W.heap.size → Kp W (W.alloc o)) (hb0 : Below w0.heap.size w0 w) (hps : ∀ x, (encs x).size = ps.size)
    (I : List α → World → Prop) (Ix : Code → List α → World → Prop) (hI : OwnFrom w.heap.size I) (hIx : ∀ c, OwnFrom w.heap.size (Ix c)) (hX : OwnFrom w.heap.size X) (h0 : I [] w) (hIs : ∀ pre W, I pre W → w.heap.size ≤ W.heap.size)
    (cs : α → Array Value) (t : TypeId) (h : ∃ a₁ : α → Nat → Act,
    (∀ (l : Nat) (x : α) (W : World) (K : Act → World → Prop) (b : Nat), W.heap.size = b → K (a₁ x b) (W.alloc (.cells (cs x) t)) →
        assign.wpIn (inR l) 3 P (Exit.then K (fun _ _ _ => False)) { tmps := (ps.zip (encs x)).foldl (fun t (p, v) => t.setIfInBounds p v) a.tmps, defers := [] } W) ∧
    (∀ (l : Nat) (pre : List α) (x : α) (b : Nat) (W : World), I pre W → X x W → w.heap.size ≤ b → W.heap[b]? = some (.cells (cs x) t) → pre.length < N → body.wpIn (inR l) 3 P (ownPostG w.heap.size Kp I Ix (pre ++ [x]) W) (a₁ x b) W))
    (hdone : ∀ (D : Nat) (xs : List α) (W : World), w.heap.size ≤ D → S xs → I xs W → W.heap[D]? = some (.deferred (some [])) → Q .normal { a with defers := { target := .collected D, args := #[] } :: a.defers } W)
    (hstop : ∀ (D : Nat) (c : Code) (pre : List α) (W : World), w.heap.size ≤ D → Sp pre → Ix c pre W → W.heap[D]? = some (.deferred (some [])) → c.wp P Q { a with defers := { target := .collected D, args := #[] } :: a.defers } W) :
    (Code.rangeFunc g ps assign body).wp P Q a w := by
  obtain ⟨a₁, h1, h2⟩ := h
  refine wpIn_wide.1 (wpIn_rangeFunc (F := Fence.wide) (n := 5) fun fn hfn => ?_)
  let rc : LoopState → Option Code → Loop := fun st pe => { state := st, pending := pe, fn, tmps := a.tmps, params := ps, assign, body, defers := w.heap.size }
  have hz : ((w.alloc (.deferred (some []))).alloc (.loop (rc .ready none))).heap.size = w.heap.size + 2 := by simp
  have hL : ((w.alloc (.deferred (some []))).alloc (.loop (rc .ready none))).heap[w.heap.size + 1]? = some (.loop (rc .ready none)) := by
    have := World.alloc_heap_new (w.alloc (.deferred (some []))) (.loop (rc .ready none))
    rwa [World.size_alloc] at this
  have hD : ((w.alloc (.deferred (some []))).alloc (.loop (rc .ready none))).heap[w.heap.size]? = some (.deferred (some [])) := (Below.heap_alloc _ _ _ (by simp)).trans (World.alloc_heap_new w _)
  have hi0 : I [] ((w.alloc (.deferred (some []))).alloc (.loop (rc .ready none))) := hI.alloc _ (hI.alloc _ h0)
  have hb1 : Below w0.heap.size w0 ((w.alloc (.deferred (some []))).alloc (.loop (rc .ready none))) := hb0.trans (((below_alloc1 w _).trans ((below_alloc1 _ _).mono (by simp))).mono hb0.size)
  obtain ⟨W1, hW1⟩ : ∃ W1, (w.alloc (.deferred (some []))).alloc (.loop (rc .ready none)) = W1 := ⟨_, rfl⟩
  rw [hW1] at hz hL hD hi0 hb1
  refine ⟨w.heap.size + 1, [{ target := .collected w.heap.size, args := #[] }], W1, { target := .fn (.func gf) lb, args := #[.func (.yield (w.heap.size + 1)) #[] #[]] }, W1, gf, #[.func (.yield (w.heap.size + 1)) #[] #[]] ++ lb, W1,
    (run_enterLoop_outer _ _ _ _ _).trans (by rw [← hW1]), by simp only [resolve, hg]; simp [go_sem], fun f' hf' => trivial, by simp [invoke, go_sem, eg], fun _ => by omega, ?_⟩
  have hrow : ∀ {A : World} {row : Option Nat}, (∀ r, row = some r → W1.heap.size ≤ r ∧ ∃ o : Obj, A.heap[r]? = some o ∧ o.isWalk = true) → ∀ r, row = some r → w.heap.size ≤ r ∧ ∃ o : Obj, A.heap[r]? = some o ∧ o.isCells = false := fun hr r e => by
    obtain ⟨h3, o, h4, h5⟩ := hr r e
    exact ⟨by omega, o, h4, Obj.not_cells_of_walk h5⟩
  refine (hseq (w.heap.size + 1) (fun pre W => I pre W ∧ W.heap[w.heap.size + 1]? = some (.loop (rc .ready none)) ∧ W.heap[w.heap.size]? = some (.deferred (some [])))
    (fun pre W => ∃ c, Ix c pre W ∧ W.heap[w.heap.size + 1]? = some (.loop (rc .done (some c))) ∧ W.heap[w.heap.size]? = some (.deferred (some []))) W1 hb1 ?_ ?_ ⟨hi0, hL, hD⟩).mono ?_
  · rintro s A B row ⟨g1, g2, g3⟩ hg' hr
    exact ⟨hI s A B row g1 hg' (hrow hr), (grownBy_keeps hg' (fun r e => (hr r e).2) g2 rfl).trans g2, (grownBy_keeps hg' (fun r e => (hr r e).2) g3 rfl).trans g3⟩
  · rintro pre x V ⟨g1, g2, g3⟩ hx hlen
    have hlt : w.heap.size + 1 < V.heap.size := (Array.getElem?_eq_some_iff.1 g2).1
    refine ⟨fn, _, assign, body, run_yield (r := rc .ready none) g2 (hps x), roundIn_of_wpIn hfn (h1 _ x V _ V.heap.size rfl ⟨_, run_beginRound (r := rc .ready none) ((Below.heap_alloc _ _ _ (by omega)).trans g2) rfl, ?_⟩)⟩
    have a2 : (V.alloc (.cells (cs x) t)).heap[w.heap.size + 1]? = some (.loop (rc .ready none)) := (Below.heap_alloc _ _ _ (by omega)).trans g2
    have a3 : (V.alloc (.cells (cs x) t)).heap[w.heap.size]? = some (.deferred (some [])) := (Below.heap_alloc _ _ _ (by omega)).trans g3
    have hi : I pre ((V.alloc (.cells (cs x) t)).putObj (w.heap.size + 1) (.loop (rc .busy none))) := hI.putObj _ (hI.alloc _ g1) (by omega) a2 rfl
    have hxx : X x ((V.alloc (.cells (cs x) t)).putObj (w.heap.size + 1) (.loop (rc .busy none))) := hX.putObj _ (hX.alloc _ hx) (by omega) a2 rfl
    have b2 : ((V.alloc (.cells (cs x) t)).putObj (w.heap.size + 1) (.loop (rc .busy none))).heap[w.heap.size + 1]? = some (.loop (rc .busy none)) := World.putObj_heap_same (by simp; omega)
    have b3 : ((V.alloc (.cells (cs x) t)).putObj (w.heap.size + 1) (.loop (rc .busy none))).heap[w.heap.size]? = some (.deferred (some [])) := (World.putObj_heap_other (by omega)).trans a3
    have b4 : ((V.alloc (.cells (cs x) t)).putObj (w.heap.size + 1) (.loop (rc .busy none))).heap[V.heap.size]? = some (.cells (cs x) t) := (World.putObj_heap_other (by omega)).trans (World.alloc_heap_new V _)
    have hbV : Kp V ((V.alloc (.cells (cs x) t)).putObj (w.heap.size + 1) (.loop (rc .busy none))) := hKt (hKa V _ (by omega)) (hKb _ _ _ _ (by omega) a2 rfl rfl)
    refine wpIn_mono (h2 _ pre x V.heap.size _ hi hxx (by omega) b4 hlen) ?_
    generalize (V.alloc (.cells (cs x) t)).putObj (w.heap.size + 1) (.loop (rc .busy none)) = V2 at *
    have fin : ∀ (jump : Option Code) (V3 : World), KeepsFrom w.heap.size V2 V3 → (Instr.endRound (w.heap.size + 1) jump).run P V3 = .ok (.bool jump.isNone) (V3.putObj (w.heap.size + 1) (.loop (rc (if jump.isNone then .ready else .done) jump))) ∧
        V3.heap[w.heap.size + 1]? = some (.loop (rc .busy none)) ∧ (V3.putObj (w.heap.size + 1) (.loop (rc (if jump.isNone then .ready else .done) jump))).heap[w.heap.size + 1]? = some (.loop (rc (if jump.isNone then .ready else .done) jump)) ∧
        (V3.putObj (w.heap.size + 1) (.loop (rc (if jump.isNone then .ready else .done) jump))).heap[w.heap.size]? = some (.deferred (some [])) := fun jump V3 hk => by
      have c2 := hk.same _ _ (by omega) b2 rfl
      exact ⟨run_endRound (r := rc .busy none) jump c2, c2, World.putObj_heap_same (Array.getElem?_eq_some_iff.1 c2).1, (World.putObj_heap_other (by omega)).trans (hk.same _ _ (Nat.le_refl _) b3 rfl)⟩
    rintro e a3 V3 hp
    cases e with
    | normal =>
      obtain ⟨k1, k2, k3⟩ := hp
      obtain ⟨q1, q2, q3, q4⟩ := fin none V3 k1
      exact ⟨_, _, q1, .inl ⟨rfl, ⟨hI.putObj _ k3 (by omega) q2 rfl, q3, q4⟩, hKt (hKt hbV k2) (hKb _ _ _ _ (by omega) q2 rfl rfl)⟩⟩
    | ret =>
      obtain ⟨k1, k2⟩ := hp
      obtain ⟨q1, q2, q3, q4⟩ := fin (some .ret) V3 k1
      exact ⟨_, _, q1, .inr ⟨rfl, _, (hIx _).putObj _ k2 (by omega) q2 rfl, q3, q4⟩⟩
    | exit id =>
      obtain ⟨k1, k2⟩ := hp
      obtain ⟨q1, q2, q3, q4⟩ := fin (some (.exit id)) V3 k1
      exact ⟨_, _, q1, .inr ⟨rfl, _, (hIx _).putObj _ k2 (by omega) q2 rfl, q3, q4⟩⟩
    | goto t =>
      obtain ⟨k1, k2⟩ := hp
      obtain ⟨q1, q2, q3, q4⟩ := fin (some (.goto t)) V3 k1
      exact ⟨_, _, q1, .inr ⟨rfl, _, (hIx _).putObj _ k2 (by omega) q2 rfl, q3, q4⟩⟩
    | panic ch => exact hp.elim
    | outgrown => exact hp.elim
  · rintro e W2 ⟨⟨v, rfl⟩, ⟨xs, hS, k1, k2, k3⟩ | ⟨pre, hSp, c, k1, k2, k3⟩⟩
    · exact ⟨none, _, run_endLoop (r := rc .ready none) k2 (fun h => by cases h), hdone _ xs _ (Nat.le_refl _) hS (hI.putObj _ k1 (by omega) k2 rfl) ((World.putObj_heap_other (by omega)).trans k3)⟩
    · exact ⟨some c, _, run_endLoop (r := rc .done (some c)) k2 (fun h => by cases h), wpIn_wide.2 (hstop _ c pre _ (Nat.le_refl _) hSp ((hIx c).putObj _ k1 (by omega) k2 rfl) ((World.putObj_heap_other (by omega)).trans k3))⟩
end
end Go.Proofs.Ytgcealgkhlbgmaa
