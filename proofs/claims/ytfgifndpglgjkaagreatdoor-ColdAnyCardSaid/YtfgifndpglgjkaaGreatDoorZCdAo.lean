/- Rows of the call's own that are written: what else stays. -/
import Derived.Test.YtfgifndpglgjkaaGreatDoorZCdU
import Derived.Laws.IdiomCopy
set_option linter.unusedVariables false
set_option linter.unusedSimpArgs false
set_option maxRecDepth 100000
set_option linter.unusedVariables false
set_option linter.unusedSimpArgs false
namespace Go.Proofs.YtfgifndpglgjkaaGreatDoor
open Go.RowKit

/-- Only the row at a may be another one. -/
structure Oth (a : Option Addr) (w w' : World) : Prop where
  os : w'.os = w.os
  tape : w'.tape = w.tape
  output : w'.output = w.output
  size : w.heap.size ≤ w'.heap.size
  block : ∀ b, b < w.heap.size → (∀ x, a = some x → x.block ≠ b) → w'.heap[b]? = w.heap[b]?
theorem Oth.refl (a : Option Addr) (w : World) : Oth a w w := ⟨rfl, rfl, rfl, Nat.le_refl _, fun _ _ _ => rfl⟩
theorem Oth.of_below {a : Option Addr} {w w' : World} (h : Below w.heap.size w w') : Oth a w w' := ⟨h.os, h.tape, h.output, h.size, fun b hb _ => h.block b hb⟩
theorem Oth.trans {a : Option Addr} {w w1 w2 : World} (h : Oth a w w1) (k : Oth a w1 w2) : Oth a w w2 :=
  ⟨k.os.trans h.os, k.tape.trans h.tape, k.output.trans h.output, Nat.le_trans h.size k.size, fun b hb hn => (k.block b (Nat.lt_of_lt_of_le hb h.size) hn).trans (h.block b hb hn)⟩
theorem Oth.set {a : Option Addr} {w w1 : World} (h : Oth a w w1) {p x : Addr} (ha : a = some x) (hp : p.block = x.block) (v : Value) : Oth a w (w1.setCell p v) :=
  ⟨h.os, h.tape, h.output, by rw [World.size_setCell]; exact h.size, fun b hb hn => (Below.heap_setCell _ _ _ _ (by rw [hp]; exact fun e => hn x ha e.symm)).trans (h.block b hb hn)⟩
theorem Oth.below {a : Option Addr} {w w' : World} {n : Nat} (h : Oth a w w') (hn : n ≤ w.heap.size) (ha : ∀ x, a = some x → n ≤ x.block) : Below n w w' :=
  ⟨h.os, h.tape, h.output, h.size, fun b hb => h.block b (by omega) (fun x hx e => by have := ha x hx; omega)⟩
theorem Oth.evol {w w' : World} {a a' : Option Addr} (h : Evol w a w' a') : Oth a w w' :=
  ⟨h.1.os, h.1.tape, h.1.output, h.1.size, fun b hb hn => h.1.block b hb (fun e => by
    cases a with
    | none => cases e
    | some x => exact hn x rfl (by cases e; rfl))⟩
theorem Oth.grown {w w' : World} {g : Nat} (h : w.grownBy w' (some g)) : Oth (some ⟨g, 0, none⟩) w w' :=
  ⟨h.os, h.tape, h.output, h.size, fun b hb hn => h.block b hb (fun e => by cases e; exact hn _ rfl rfl)⟩
theorem own_oth {w w' : World} {a a' : Option Addr} {B e s n c : Nat} {cs : List Value} (h : w.ownsRow B e s (.slice a' n c) n cs) (k : Oth a w w') (hne : ∀ x y, a = some x → a' = some y → x.block ≠ y.block) : w'.ownsRow B e s (.slice a' n c) n cs := by
  refine ⟨h.1, ?_⟩
  rcases h.2 with g | ⟨g, cap, cur, g1, g2, g3, g4⟩
  · exact .inl g
  · refine .inr ⟨g, cap, cur, g1, g2, ?_, g4⟩
    cases g1
    rw [k.block g (Array.getElem?_eq_some_iff.1 g3).1 (fun x hx => hne x _ hx rfl)]
    exact g3
theorem own_form {w : World} {B e s n c : Nat} {a : Option Addr} {cs : List Value} (h : w.ownsRow B e s (.slice a n c) n cs) (hn : 0 < n) : ∃ g, a = some ⟨g, 0, none⟩ ∧ B ≤ g ∧ g < w.heap.size := by
  rcases h.2 with ⟨h1, h2⟩ | ⟨g, cap, cur, h1, h2, h3, _⟩
  · omega
  · cases h1
    exact ⟨g, rfl, h2, (Array.getElem?_eq_some_iff.1 h3).1⟩
theorem own_front {w : World} {B e s n c g : Nat} {cs : List Value} (h : w.ownsRow B e s (.slice (some ⟨g, 0, none⟩) n c) n cs) {k : Nat} (hk : k ≤ n) : w.ownsRow B e s (.slice (some ⟨g, 0, none⟩) k c) k (cs.take (k * s)) := by
  have hl := h.1
  have hks : k * s ≤ n * s := Nat.mul_le_mul_right _ hk
  refine ⟨by rw [List.length_take]; omega, ?_⟩
  rcases h.2 with ⟨h1, _⟩ | ⟨g', cap, cur, h1, h2, h3, h4, h5, h6, h7⟩
  · cases h1
  · cases h1
    refine .inr ⟨g, c, cur, rfl, h2, h3, by omega, h5, h6, ?_⟩
    have h8 : cs.take (k * s) = cur.toList.take (k * s) := by
      conv => lhs; rw [← h7]
      rw [List.take_take, Nat.min_eq_left hks]
    exact h8.symm
theorem own_setHigh {w : World} {B e s n c g k : Nat} {cs : List Value} (h : w.ownsRow B e s (.slice (some ⟨g, 0, none⟩) n c) n cs) (hk : n * s ≤ k) (u : Value) : (w.setCell ⟨g, k, none⟩ u).ownsRow B e s (.slice (some ⟨g, 0, none⟩) n c) n cs := by
  have hl := h.1
  refine ⟨hl, ?_⟩
  rcases h.2 with ⟨h1, _⟩ | ⟨g', cap, cur, h1, h2, h3, h4, h5, h6, h7⟩
  · cases h1
  · cases h1
    refine .inr ⟨g, c, cur.setIfInBounds k u, rfl, h2, ?_, h4, h5, by rw [Array.size_setIfInBounds]; exact h6, ?_⟩
    · simp only [World.setCell, Array.getElem?_modify]
      rw [if_pos trivial, h3]
      rfl
    · rw [Array.toList_setIfInBounds, List.take_set_of_le (by omega)]
      exact h7
theorem own_spare {w : World} {B e s n c g : Nat} {cs : List Value} (h : w.ownsRow B e s (.slice (some ⟨g, 0, none⟩) n c) n cs) : (∀ j, j < c * s → (w.cell? ⟨g, j, none⟩).isSome = true) ∧ ∀ j, w.frozen? ⟨g, j, none⟩ = false := by
  rcases h.2 with ⟨h1, _⟩ | ⟨g', cap, cur, h1, h2, h3, h4, h5, h6, h7⟩
  · cases h1
  · cases h1
    refine ⟨fun j hj => ?_, fun j => by simp [World.frozen?, h3]⟩
    rw [cell_of_row _ _ _ _ _ _ h3, Array.getElem?_eq_getElem (by omega)]
    rfl
theorem own_set {w : World} {B e s n c g : Nat} {cs : List Value} (h : w.ownsRow B e s (.slice (some ⟨g, 0, none⟩) n c) n cs) (k : Nat) (u : Value) : (w.setCell ⟨g, k, none⟩ u).ownsRow B e s (.slice (some ⟨g, 0, none⟩) n c) n (cs.set k u) := by
  refine ⟨by rw [List.length_set]; exact h.1, ?_⟩
  rcases h.2 with ⟨h1, _⟩ | ⟨g', cap, cur, h1, h2, h3, h4, h5, h6, h7⟩
  · cases h1
  · cases h1
    refine .inr ⟨g, c, cur.setIfInBounds k u, rfl, h2, ?_, h4, h5, by rw [Array.size_setIfInBounds]; exact h6, ?_⟩
    · simp only [World.setCell, Array.getElem?_modify]
      rw [if_pos trivial, h3]
      rfl
    · rw [Array.toList_setIfInBounds, ← h7, List.take_set]
theorem nth_set {α : Type} [Inhabited α] {l : List α} {x i : Nat} {v : α} (hx : x < l.length) (hi : i < l.length) : nth (l.set x v) i = if i = x then v else nth l i := by
  rw [nth_eq _ (by rw [List.length_set]; exact hi)]
  by_cases e : i = x
  · subst e
    rw [if_pos rfl]
    simp
  · rw [if_neg e, List.getElem_set_ne (fun h => e h.symm), nth_eq _ hi]
theorem cells4 {w : World} {b : Nat} {t : TypeId} {v0 v1 v2 v3 : Value} (h : w.heap[b]? = some (.cells #[v0, v1, v2, v3] t (0, 0))) :
    w.cell? ⟨b, 0, none⟩ = some v0 ∧ w.cell? ⟨b, 1, none⟩ = some v1 ∧ w.cell? ⟨b, 2, none⟩ = some v2 ∧ w.cell? ⟨b, 3, none⟩ = some v3 :=
  ⟨(cell_of_row _ _ 0 _ _ _ h).trans rfl, (cell_of_row _ _ 1 _ _ _ h).trans rfl, (cell_of_row _ _ 2 _ _ _ h).trans rfl, (cell_of_row _ _ 3 _ _ _ h).trans rfl⟩
theorem own_setCells {B e s n c g : Nat} {cs : List Value} : ∀ (vs : List Value) (o : Nat) (w : World), w.ownsRow B e s (.slice (some ⟨g, 0, none⟩) n c) n cs → n * s ≤ o → (w.setCells g o vs).ownsRow B e s (.slice (some ⟨g, 0, none⟩) n c) n cs
  | [], _, _, h, _ => h
  | v :: r, o, w, h, ho => own_setCells r (o + 1) _ (own_setHigh h ho v) (by omega)
theorem oth_setCells {g : Nat} {w : World} : ∀ (vs : List Value) (o : Nat) (w1 : World), Oth (some ⟨g, 0, none⟩) w w1 → Oth (some ⟨g, 0, none⟩) w (w1.setCells g o vs)
  | [], _, _, h => h
  | v :: r, o, w1, h => oth_setCells r (o + 1) _ (h.set (p := ⟨g, o, none⟩) rfl rfl v)
/-- A row that is written in one block, by kinds of rows. -/
theorem own_other {w w' : World} {B B' T T' s s' n n' k k' c c' : Nat} {a a' : Option Addr} {cs cs' : List Value} (h : w.ownsRow B T s (.slice a n c) k cs) (h' : w.ownsRow B' T' s' (.slice a' n' c') k' cs') (hT : T ≠ T') (ho : Oth a' w w') (hk : k = n) : w'.ownsRow B T s (.slice a n c) k cs := by
  subst hk
  exact own_oth h ho (fun x y hx hy e => town_ne h h' hT hy hx e.symm)
section
variable {T : TypeId} {w : World} {B n c g i : Nat} {l : List Cd.Shard}
/-- A shard stored in the row of block g, at place i. -/
def Cd.putS (w : World) (g i : Nat) (e : Cd.Shard) (a : Option Addr) (c : Nat) : World :=
  (((w.setCell ⟨g, i * 4, none⟩ (.int .i64 e.node)).setCell ⟨g, i * 4 + 1, none⟩ (.int .i64 e.index)).setCell ⟨g, i * 4 + 2, none⟩ (.string (bstr e.name))).setCell ⟨g, i * 4 + 3, none⟩ (.slice a e.bytes.length c)
theorem putS_oth (w : World) (g i : Nat) (e : Cd.Shard) (a : Option Addr) (c : Nat) : Oth (some ⟨g, 0, none⟩) w (Cd.putS w g i e a c) :=
  ((((Oth.refl (some ⟨g, 0, none⟩) w).set (p := ⟨g, i * 4, none⟩) rfl rfl _).set (p := ⟨g, i * 4 + 1, none⟩) rfl rfl _).set (p := ⟨g, i * 4 + 2, none⟩) rfl rfl _).set (p := ⟨g, i * 4 + 3, none⟩) rfl rfl _
theorem AccB.setS (h : AccB belS T w B (some ⟨g, 0, none⟩) n c l) (hT : 5 ≠ T) (hi : i < n) (e : Cd.Shard) (ae : Option Addr) (ce : Nat) (he : Own w 0 ae e.bytes.length ce e.bytes) : AccB belS T (Cd.putS w g i e ae ce) B (some ⟨g, 0, none⟩) n c (l.set i e) := by
  obtain ⟨cs, h1, h2⟩ := h.row
  have hl := h.len
  have hcl : cs.length = n * 4 := h1.1
  have hot := putS_oth w g i e ae ce
  have hown := own_set (own_set (own_set (own_set h1 (i * 4) (.int .i64 e.node)) (i * 4 + 1) (.int .i64 e.index)) (i * 4 + 2) (.string (bstr e.name))) (i * 4 + 3) (.slice ae e.bytes.length ce)
  refine ⟨by simp [hl], _, hown, fun m hm => ?_⟩
  by_cases em : m = i
  · subst em
    have e1 : nth (l.set m e) m = e := by
      rw [nth_eq _ (by simp; omega)]
      simp
    rw [e1]
    refine ⟨ae, ce, fun j v hj => ?_, own_other he h1 hT hot rfl⟩
    match j, hj with
    | 0, hj => cases hj; simp [List.getElem?_set, hcl, belS]; omega
    | 1, hj => cases hj; simp [List.getElem?_set, hcl, belS]; omega
    | 2, hj => cases hj; simp [List.getElem?_set, hcl, belS]; omega
    | 3, hj => cases hj; simp [List.getElem?_set, hcl, belS]; omega
    | j + 4, hj => simp [belS] at hj
  · have e1 : nth (l.set i e) m = nth l m := by
      rw [nth_eq _ (by simp; omega), nth_eq _ (by omega)]
      rw [List.getElem_set_ne (fun h => em h.symm)]
    rw [e1]
    obtain ⟨ai, ci, g1, g2⟩ := h2 m hm
    refine ⟨ai, ci, fun j v hj => ?_, own_other g2 h1 hT hot rfl⟩
    have hj4 : j < 4 := by
      have := (List.getElem?_eq_some_iff.1 hj).1
      simpa [belS] using this
    have h3 := g1 j v hj
    have h4 : belS.s = 4 := rfl
    rw [h4] at h3 ⊢
    rw [List.getElem?_set_ne (by omega), List.getElem?_set_ne (by omega), List.getElem?_set_ne (by omega), List.getElem?_set_ne (by omega)]
    exact h3
theorem AccB.front {C : Bel Cd.Shard} (h : AccB C T w B (some ⟨g, 0, none⟩) n c l) {k : Nat} (hk : k ≤ n) : AccB C T w B (some ⟨g, 0, none⟩) k c (l.take k) := by
  obtain ⟨cs, h1, h2⟩ := h.row
  have hl := h.len
  refine ⟨by rw [List.length_take]; omega, _, own_front h1 hk, fun i hi => ?_⟩
  obtain ⟨ai, ci, g1, g2⟩ := h2 i (by omega)
  have e1 : nth (l.take k) i = nth l i := by rw [nth_eq _ (by rw [List.length_take]; omega), nth_eq _ (by omega), List.getElem_take]
  rw [e1]
  refine ⟨ai, ci, fun j v hj => ?_, g2⟩
  have hj4 : j < C.s := by
    have := (List.getElem?_eq_some_iff.1 hj).1
    rwa [C.len] at this
  have h5 : (i + 1) * C.s ≤ k * C.s := Nat.mul_le_mul_right _ (by omega)
  rw [Nat.add_mul, Nat.one_mul] at h5
  rw [List.getElem?_take, if_pos (by omega)]
  exact g1 j v hj
theorem AccB.setCells {C : Bel Cd.Shard} (h : AccB C T w B (some ⟨g, 0, none⟩) n c l) (hT : 5 ≠ T) (vs : List Value) {o : Nat} (ho : n * C.s ≤ o) : AccB C T (w.setCells g o vs) B (some ⟨g, 0, none⟩) n c l := by
  obtain ⟨cs, h1, h2⟩ := h.row
  refine ⟨h.len, cs, own_setCells vs o w h1 ho, fun i hi => ?_⟩
  obtain ⟨ai, ci, g1, g2⟩ := h2 i hi
  exact ⟨ai, ci, g1, own_other g2 h1 hT (oth_setCells vs o w (Oth.refl _ _)) rfl⟩
end
end Go.Proofs.YtfgifndpglgjkaaGreatDoor
