/- Rows of the call's own that are written: what else stays. -/
import Derived.Test.YtlipgaefflecaaaZBase
import Derived.Laws.IdiomCopy
import Derived.Lib.SliceRun
import Derived.Test.YtlipgaefflecaaaZCpO
import Derived.Test.YtlipgaefflecaaaZCgE
import Derived.Test.YtlipgaefflecaaaZCpK
set_option linter.unusedVariables false
set_option linter.unusedSimpArgs false
section
set_option maxRecDepth 100000
set_option linter.unusedVariables false
set_option linter.unusedSimpArgs false
namespace Go.Proofs.Ytlipgaefflecaaa
open Go.RowKit

/-- Only the row at a may be another one. -/
structure Oth (a : Option Addr) (w w' : World) : Prop where
  os : w'.os = w.os
  tape : w'.tape = w.tape
  output : w'.output = w.output
  size : w.heap.size ≤ w'.heap.size
  block : ∀ b, b < w.heap.size → (∀ x, a = some x → x.block ≠ b) → w'.heap[b]? = w.heap[b]?
theorem Oth.refl (a : Option Addr) (w : World) : Oth a w w := ⟨rfl, rfl, rfl, Nat.le_refl _, fun _ _ _ => rfl⟩
theorem Oth.of_below {a : Option Addr} {w w' : World} (h : Below w.heap.size w w') : Oth a w w' := ⟨h.os, h.tape, h.output, h.size, fun b hb _ => h.block b hb⟩
theorem Oth.trans {a : Option Addr} {w w1 w2 : World} (h : Oth a w w1) (k : Oth a w1 w2) : Oth a w w2 :=
  ⟨k.os.trans h.os, k.tape.trans h.tape, k.output.trans h.output, Nat.le_trans h.size k.size, fun b hb hn => (k.block b (Nat.lt_of_lt_of_le hb h.size) hn).trans (h.block b hb hn)⟩
theorem Oth.set {a : Option Addr} {w w1 : World} (h : Oth a w w1) {p x : Addr} (ha : a = some x) (hp : p.block = x.block) (v : Value) : Oth a w (w1.setCell p v) :=
  ⟨h.os, h.tape, h.output, by rw [World.size_setCell]; exact h.size, fun b hb hn => (Below.heap_setCell _ _ _ _ (by rw [hp]; exact fun e => hn x ha e.symm)).trans (h.block b hb hn)⟩
theorem Oth.below {a : Option Addr} {w w' : World} {n : Nat} (h : Oth a w w') (hn : n ≤ w.heap.size) (ha : ∀ x, a = some x → n ≤ x.block) : Below n w w' :=
  ⟨h.os, h.tape, h.output, h.size, fun b hb => h.block b (by omega) (fun x hx e => by have := ha x hx; omega)⟩
theorem Oth.evol {w w' : World} {a a' : Option Addr} (h : Evol w a w' a') : Oth a w w' :=
  ⟨h.1.os, h.1.tape, h.1.output, h.1.size, fun b hb hn => h.1.block b hb (fun e => by
    cases a with
    | none => cases e
    | some x => exact hn x rfl (by cases e; rfl))⟩
theorem Oth.grown {w w' : World} {g : Nat} (h : w.grownBy w' (some g)) : Oth (some ⟨g, 0, none⟩) w w' :=
  ⟨h.os, h.tape, h.output, h.size, fun b hb hn => h.block b hb (fun e => by cases e; exact hn _ rfl rfl)⟩
theorem own_oth {w w' : World} {a a' : Option Addr} {B e s n c : Nat} {cs : List Value} (h : w.ownsRow B e s (.slice a' n c) n cs) (k : Oth a w w') (hne : ∀ x y, a = some x → a' = some y → x.block ≠ y.block) : w'.ownsRow B e s (.slice a' n c) n cs := by
  refine ⟨h.1, ?_⟩
  rcases h.2 with g | ⟨g, cap, cur, g1, g2, g3, g4⟩
  · exact .inl g
  · refine .inr ⟨g, cap, cur, g1, g2, ?_, g4⟩
    cases g1
    rw [k.block g (Array.getElem?_eq_some_iff.1 g3).1 (fun x hx => hne x _ hx rfl)]
    exact g3
theorem own_form {w : World} {B e s n c : Nat} {a : Option Addr} {cs : List Value} (h : w.ownsRow B e s (.slice a n c) n cs) (hn : 0 < n) : ∃ g, a = some ⟨g, 0, none⟩ ∧ B ≤ g ∧ g < w.heap.size := by
  rcases h.2 with ⟨h1, h2⟩ | ⟨g, cap, cur, h1, h2, h3, _⟩
  · omega
  · cases h1
    exact ⟨g, rfl, h2, (Array.getElem?_eq_some_iff.1 h3).1⟩
theorem own_front {w : World} {B e s n c g : Nat} {cs : List Value} (h : w.ownsRow B e s (.slice (some ⟨g, 0, none⟩) n c) n cs) {k : Nat} (hk : k ≤ n) : w.ownsRow B e s (.slice (some ⟨g, 0, none⟩) k c) k (cs.take (k * s)) := by
  have hl := h.1
  have hks : k * s ≤ n * s := Nat.mul_le_mul_right _ hk
  refine ⟨by rw [List.length_take]; omega, ?_⟩
  rcases h.2 with ⟨h1, _⟩ | ⟨g', cap, cur, h1, h2, h3, h4, h5, h6, h7⟩
  · cases h1
  · cases h1
    refine .inr ⟨g, c, cur, rfl, h2, h3, by omega, h5, h6, ?_⟩
    have h8 : cs.take (k * s) = cur.toList.take (k * s) := by
      conv => lhs; rw [← h7]
      rw [List.take_take, Nat.min_eq_left hks]
    exact h8.symm
theorem own_setHigh {w : World} {B e s n c g k : Nat} {cs : List Value} (h : w.ownsRow B e s (.slice (some ⟨g, 0, none⟩) n c) n cs) (hk : n * s ≤ k) (u : Value) : (w.setCell ⟨g, k, none⟩ u).ownsRow B e s (.slice (some ⟨g, 0, none⟩) n c) n cs := by
  have hl := h.1
  refine ⟨hl, ?_⟩
  rcases h.2 with ⟨h1, _⟩ | ⟨g', cap, cur, h1, h2, h3, h4, h5, h6, h7⟩
  · cases h1
  · cases h1
    refine .inr ⟨g, c, cur.setIfInBounds k u, rfl, h2, ?_, h4, h5, by rw [Array.size_setIfInBounds]; exact h6, ?_⟩
    · simp only [World.setCell, Array.getElem?_modify]
      rw [if_pos trivial, h3]
      rfl
    · rw [Array.toList_setIfInBounds, List.take_set_of_le (by omega)]
      exact h7
theorem own_spare {w : World} {B e s n c g : Nat} {cs : List Value} (h : w.ownsRow B e s (.slice (some ⟨g, 0, none⟩) n c) n cs) : (∀ j, j < c * s → (w.cell? ⟨g, j, none⟩).isSome = true) ∧ ∀ j, w.frozen? ⟨g, j, none⟩ = false := by
  rcases h.2 with ⟨h1, _⟩ | ⟨g', cap, cur, h1, h2, h3, h4, h5, h6, h7⟩
  · cases h1
  · cases h1
    refine ⟨fun j hj => ?_, fun j => by simp [World.frozen?, h3]⟩
    rw [cell_of_row _ _ _ _ _ _ h3, Array.getElem?_eq_getElem (by omega)]
    rfl
theorem own_set {w : World} {B e s n c g : Nat} {cs : List Value} (h : w.ownsRow B e s (.slice (some ⟨g, 0, none⟩) n c) n cs) (k : Nat) (u : Value) : (w.setCell ⟨g, k, none⟩ u).ownsRow B e s (.slice (some ⟨g, 0, none⟩) n c) n (cs.set k u) := by
  refine ⟨by rw [List.length_set]; exact h.1, ?_⟩
  rcases h.2 with ⟨h1, _⟩ | ⟨g', cap, cur, h1, h2, h3, h4, h5, h6, h7⟩
  · cases h1
  · cases h1
    refine .inr ⟨g, c, cur.setIfInBounds k u, rfl, h2, ?_, h4, h5, by rw [Array.size_setIfInBounds]; exact h6, ?_⟩
    · simp only [World.setCell, Array.getElem?_modify]
      rw [if_pos trivial, h3]
      rfl
    · rw [Array.toList_setIfInBounds, ← h7, List.take_set]
theorem nth_set {α : Type} [Inhabited α] {l : List α} {x i : Nat} {v : α} (hx : x < l.length) (hi : i < l.length) : nth (l.set x v) i = if i = x then v else nth l i := by
  rw [nth_eq _ (by rw [List.length_set]; exact hi)]
  by_cases e : i = x
  · subst e
    rw [if_pos rfl]
    simp
  · rw [if_neg e, List.getElem_set_ne (fun h => e h.symm), nth_eq _ hi]
theorem own_setCells {B e s n c g : Nat} {cs : List Value} : ∀ (vs : List Value) (o : Nat) (w : World), w.ownsRow B e s (.slice (some ⟨g, 0, none⟩) n c) n cs → n * s ≤ o → (w.setCells g o vs).ownsRow B e s (.slice (some ⟨g, 0, none⟩) n c) n cs
  | [], _, _, h, _ => h
  | v :: r, o, w, h, ho => own_setCells r (o + 1) _ (own_setHigh h ho v) (by omega)
theorem oth_setCells {g : Nat} {w : World} : ∀ (vs : List Value) (o : Nat) (w1 : World), Oth (some ⟨g, 0, none⟩) w w1 → Oth (some ⟨g, 0, none⟩) w (w1.setCells g o vs)
  | [], _, _, h => h
  | v :: r, o, w1, h => oth_setCells r (o + 1) _ (h.set (p := ⟨g, o, none⟩) rfl rfl v)
end Go.Proofs.Ytlipgaefflecaaa
end

section
set_option maxRecDepth 100000
set_option linter.unusedVariables false
set_option linter.unusedSimpArgs false
namespace Go.Proofs.Ytlipgaefflecaaa
open Go.RowKit

theorem tv_take : ∀ (l : List Tab) (k : Nat), (tv l).take (k * 5) = tv (l.take k)
  | [], k => by simp [tv]
  | m :: l, 0 => by simp [tv]
  | m :: l, k + 1 => by
    have ih := tv_take l k
    rw [List.take_succ_cons]
    have e1 : tv (m :: l) = tcells m ++ tv l := rfl
    have e2 : tv (m :: l.take k) = tcells m ++ tv (l.take k) := rfl
    rw [e1, e2, List.take_append, List.take_of_length_le (by simp [tcells]; omega), ← ih]
    congr 2
    simp [tcells]
    omega
theorem tv_set : ∀ (l : List Tab) (i : Nat) (t : Tab), i < l.length → tv (l.set i t) = (((((tv l).set (i * 5) (.int .i64 t.file)).set (i * 5 + 1) (.int .i64 t.level)).set (i * 5 + 2) (.string (bstr t.first))).set (i * 5 + 3) (.string (bstr t.last))).set (i * 5 + 4) (.int .i64 t.size)
  | [], i, t, h => by simp at h
  | m :: l, 0, t, _ => by simp [tv, tcells]
  | m :: l, i + 1, t, h => by
    have ih := tv_set l i t (by simpa using h)
    have e1 : tv (m :: l) = tcells m ++ tv l := rfl
    rw [List.set_cons_succ]
    have e2 : tv (m :: l.set i t) = tcells m ++ tv (l.set i t) := rfl
    have hl : (tcells m).length = 5 := rfl
    rw [e2, e1, ih, List.set_append_right _ _ (by omega), List.set_append_right _ _ (by omega), List.set_append_right _ _ (by omega), List.set_append_right _ _ (by omega), List.set_append_right _ _ (by omega), hl]
    rw [show (i + 1) * 5 - 5 = i * 5 by omega, show (i + 1) * 5 + 1 - 5 = i * 5 + 1 by omega, show (i + 1) * 5 + 2 - 5 = i * 5 + 2 by omega, show (i + 1) * 5 + 3 - 5 = i * 5 + 3 by omega, show (i + 1) * 5 + 4 - 5 = i * 5 + 4 by omega]
/-- A table stored in the row of block g, at place i. -/
def Tab.putT (w : World) (g i : Nat) (t : Tab) : World :=
  ((((w.setCell ⟨g, i * 5, none⟩ (.int .i64 t.file)).setCell ⟨g, i * 5 + 1, none⟩ (.int .i64 t.level)).setCell ⟨g, i * 5 + 2, none⟩ (.string (bstr t.first))).setCell ⟨g, i * 5 + 3, none⟩ (.string (bstr t.last))).setCell ⟨g, i * 5 + 4, none⟩ (.int .i64 t.size)
theorem putT_oth (w : World) (g i : Nat) (t : Tab) : Oth (some ⟨g, 0, none⟩) w (Tab.putT w g i t) :=
  (((((Oth.refl (some ⟨g, 0, none⟩) w).set (p := ⟨g, i * 5, none⟩) rfl rfl _).set (p := ⟨g, i * 5 + 1, none⟩) rfl rfl _).set (p := ⟨g, i * 5 + 2, none⟩) rfl rfl _).set (p := ⟨g, i * 5 + 3, none⟩) rfl rfl _).set (p := ⟨g, i * 5 + 4, none⟩) rfl rfl _
section
variable {w : World} {B n c g i : Nat} {l : List Tab}
theorem AccT.set (h : AccT w B (some ⟨g, 0, none⟩) n c l) (hi : i < n) (t : Tab) : AccT (Tab.putT w g i t) B (some ⟨g, 0, none⟩) n c (l.set i t) := by
  refine ⟨by rw [List.length_set]; exact h.1, ?_⟩
  rw [tv_set l i t (by rw [h.1]; exact hi)]
  exact own_set (own_set (own_set (own_set (own_set h.2 (i * 5) _) (i * 5 + 1) _) (i * 5 + 2) _) (i * 5 + 3) _) (i * 5 + 4) _
theorem AccT.front (h : AccT w B (some ⟨g, 0, none⟩) n c l) {k : Nat} (hk : k ≤ n) : AccT w B (some ⟨g, 0, none⟩) k c (l.take k) := by
  have hl := h.1
  refine ⟨by rw [List.length_take]; omega, ?_⟩
  rw [← tv_take]
  exact own_front h.2 hk
theorem AccT.setCells (h : AccT w B (some ⟨g, 0, none⟩) n c l) (vs : List Value) {o : Nat} (ho : n * 5 ≤ o) : AccT (w.setCells g o vs) B (some ⟨g, 0, none⟩) n c l := ⟨h.1, own_setCells vs o w h.2 ho⟩
theorem AccT.at0 {a : Option Addr} (h : AccT w B a n c l) (hn : 0 < n) : ∃ g, a = some ⟨g, 0, none⟩ ∧ B ≤ g ∧ ∀ i, i < n → TabAt w g (i * 5) (nth l i) := by
  obtain ⟨g, rfl, hg, _⟩ := own_form h.2 hn
  refine ⟨g, rfl, hg, fun i hi => ?_⟩
  obtain ⟨b, off, e, ht⟩ := h.ts.get hi
  cases e
  simpa using ht
end
theorem clear_tabs (w : World) (g o k c : Nat) (hk : 0 < k) (hc : ∀ j, j < k * 5 → (w.cell? ⟨g, o + j, none⟩).isSome = true) (hf : ∀ j, w.frozen? ⟨g, j, none⟩ = false) :
    ∃ vs, ∀ ty, (Builtin.clear_ #[29] ty #[.slice (some ⟨g, o, none⟩) k c]).run Try.prog w = .ok (.tuple #[]) (w.setCells g o vs) := by
  obtain ⟨i0, hi0, hz0, hz1, hz2⟩ := info_parts infoT
  have hv : ∀ w, (zeroValue 39).run Try.prog w = .ok (.agg #[.int .i64 0, .int .i64 0, .string ByteArray.empty, .string ByteArray.empty, .int .i64 0]) w := fun w => by
    simp [zeroValue, typeInfo, hi0, hz0]
  have hzl : (Builtin.zeroCells (Value.agg #[.int .i64 0, .int .i64 0, .string ByteArray.empty, .string ByteArray.empty, .int .i64 0]).cells k).size = k * 5 := by
    simp [Builtin.zeroCells, Value.cells]
  have hz1' : ∀ v ∈ (Builtin.zeroCells (Value.agg #[.int .i64 0, .int .i64 0, .string ByteArray.empty, .string ByteArray.empty, .int .i64 0]).cells k).toList, v.oneCell' = true := by
    intro v hv
    simp only [Builtin.zeroCells, Value.cells, Array.toList_map, List.mem_map] at hv
    obtain ⟨i, _, rfl⟩ := hv
    have h4 : i % 5 = 0 ∨ i % 5 = 1 ∨ i % 5 = 2 ∨ i % 5 = 3 ∨ i % 5 = 4 := by omega
    rcases h4 with h | h | h | h | h
    · simp [h]; rfl
    · simp [h]; rfl
    · simp [h]; rfl
    · simp [h]; rfl
    · simp [h]; rfl
  have hst := Go.run_storeCells_cells (P := Try.prog) g o (Builtin.zeroCells (Value.agg #[.int .i64 0, .int .i64 0, .string ByteArray.empty, .string ByteArray.empty, .int .i64 0]).cells k).toList 0 w (by simpa [hzl] using hc) (by intro j _; exact hf _) hz1'
  simp only [Nat.add_zero] at hst
  obtain ⟨k', rfl⟩ : ∃ k', k = k' + 1 := ⟨k - 1, by omega⟩
  refine ⟨(Builtin.zeroCells (Value.agg #[.int .i64 0, .int .i64 0, .string ByteArray.empty, .string ByteArray.empty, .int .i64 0]).cells (k' + 1)).toList, fun ty => ?_⟩
  simp [Builtin.clear_, run_underlying Try.underlying29, hv, hst]
theorem tfilt_none {p : Tab → Bool} {l : List Tab} (h : ∀ i, i < l.length → p (nth l i) = false) : l.filter (fun s => !p s) = l := by
  rw [List.filter_eq_self]
  intro x hx
  obtain ⟨i, hi, rfl⟩ := List.mem_iff_getElem.1 hx
  have := h i hi
  rw [nth_eq _ hi] at this
  rw [this]
  rfl
theorem ttake_next {l : List Tab} {j : Nat} (hj : j < l.length) : l.take (j + 1) = l.take j ++ [nth l j] := by
  rw [List.take_add_one, List.getElem?_eq_getElem hj, nth_eq _ hj]
  rfl
theorem tfilt_yes {p : Tab → Bool} {l : List Tab} {j : Nat} (hj : j < l.length) (h : p (nth l j) = true) : (l.take (j + 1)).filter (fun s => !p s) = (l.take j).filter (fun s => !p s) := by
  rw [ttake_next hj, List.filter_append]
  simp [h]
theorem tfilt_no {p : Tab → Bool} {l : List Tab} {j : Nat} (hj : j < l.length) (h : p (nth l j) = false) : (l.take (j + 1)).filter (fun s => !p s) = (l.take j).filter (fun s => !p s) ++ [nth l j] := by
  rw [ttake_next hj, List.filter_append]
  simp [h]
/-- A row whose front is what stays. -/
structure Tab.Half (p : Tab → Bool) (l L : List Tab) (i j : Nat) : Prop where
  len : L.length = l.length
  front : L.take i = (l.take j).filter (fun s => !p s)
  back : ∀ t, j ≤ t → t < l.length → nth L t = nth l t
theorem Tab.Half.start {p : Tab → Bool} {l : List Tab} {k : Nat} (hk : k < l.length) (h1 : p (nth l k) = true) (h2 : ∀ i, i < k → p (nth l i) = false) : Tab.Half p l l k (k + 1) := by
  refine ⟨rfl, ?_, fun _ _ _ => rfl⟩
  rw [tfilt_yes hk h1, tfilt_none]
  intro i hi
  rw [List.length_take] at hi
  rw [nth_eq _ (by rw [List.length_take]; exact hi), List.getElem_take, ← nth_eq _ (by omega)]
  exact h2 i (by omega)
theorem Tab.Half.skip {p : Tab → Bool} {l L : List Tab} {i j : Nat} (h : Tab.Half p l L i j) (hj : j < l.length) (h1 : p (nth l j) = true) : Tab.Half p l L i (j + 1) :=
  ⟨h.len, by rw [h.front, tfilt_yes hj h1], fun t h2 h3 => h.back t (by omega) h3⟩
theorem Tab.Half.put {p : Tab → Bool} {l L : List Tab} {i j : Nat} (h : Tab.Half p l L i j) (hi : i < j) (hj : j < l.length) (h1 : p (nth l j) = false) : Tab.Half p l (L.set i (nth l j)) (i + 1) (j + 1) := by
  have hl := h.len
  refine ⟨by rw [List.length_set, hl], ?_, fun t h2 h3 => ?_⟩
  · rw [tfilt_no hj h1, ← h.front, List.take_add_one, List.take_set_of_le (Nat.le_refl _), List.getElem?_set_self (by omega)]
    rfl
  · rw [← h.back t (by omega) h3, nth_set (by omega) (by omega), if_neg (by omega)]
theorem idxT_cases (p : Tab → Bool) (l : List Tab) : (idxT p l = -1 ∧ ∀ i, i < l.length → p (nth l i) = false) ∨ ∃ k : Nat, idxT p l = k ∧ k < l.length ∧ p (nth l k) = true ∧ ∀ i, i < k → p (nth l i) = false := by
  unfold idxT
  by_cases h : l.findIdx p < l.length
  · rw [if_pos h]
    refine .inr ⟨l.findIdx p, rfl, h, ?_, fun i hi => ?_⟩
    · rw [nth_eq _ h]; exact List.findIdx_getElem
    · rw [nth_eq _ (by omega)]
      have := List.not_of_lt_findIdx hi
      simpa using this
  · rw [if_neg h]
    refine .inl ⟨rfl, fun i hi => ?_⟩
    have h2 : l.findIdx p = l.length := by have := List.findIdx_le_length (p := p) (xs := l); omega
    rw [List.findIdx_eq_length] at h2
    rw [nth_eq _ hi]
    exact h2 _ (List.getElem_mem _)
def DelT (p : Tab → Bool) (l : List Tab) (B : Nat) (w : World) (e : Ending) (w' : World) : Prop :=
  ∃ a m c, e = .returned (.slice a m c) ∧ AccT w' B a m c (l.filter (fun s => !p s)) ∧ Below B w w'
set_option maxHeartbeats 8000000 in
theorem delt_any (f : Nat) (cap : Array Value) (p : Tab → Bool) (w0 : World) (B : Nat) (a : Option Addr) (n c : Nat) (l : List Tab) (w : World) (eg : EntersT f) (hp : PredT w0 f cap p) (hw0 : Below w0.heap.size w0 w) (hB0 : w0.heap.size ≤ B) (hB : B ≤ w.heap.size) (h : AccT w B a n c l) (hn : n ≤ 1000000) :
    Calls Try.prog 40 #[.slice a n c, .func (.func f) #[] cap] w (DelT p l B w) := by
  have hpw : PredT w f cap p := fun V m => hp ⟨V.w, hw0.trans (V.b.mono hw0.size)⟩ m
  have HI := Lib.hid (idxt_any f cap a n c l p w eg h.ts hpw)
  have HC := Lib.hid (idxT_cases p l)
  have HA := Lib.hid h
  have HLN := Lib.hid h.1
  have HM : Hid (∀ W, Below B w W → ∀ t : Tab, Calls Try.prog f (#[tval t] ++ cap) W fun e w' => e = .returned (.bool (p t)) ∧ Below W.heap.size W w') := Lib.hid fun W k t => hp ⟨W, hw0.trans (k.mono hB0)⟩ t
  have eg' : ∀ (args : Array Value) (w : World), (callFunc f args).run Try.prog w = .ok (.enter f args) w := eg
  have hle := h.ts.le
  have hcn := h.ts.2.1
  clear h hp hpw hw0
  go_enter Try.func40, Try.ntmps40
  go_wp2_with fail
  refine HI.out.mono ?_
  rintro e w1 ⟨rfl, hb1⟩
  have HB1 := Lib.hid (hb1.mono hB)
  have HA1 := Lib.hid (HA.out.below hb1)
  clear hb1 HI HA
  rcases HC.out with ⟨hr, hall⟩ | ⟨k, hr, hk, hpk, hlo⟩
  · have HF : Hid (l.filter (fun s => !p s) = l) := Lib.hid (tfilt_none hall)
    rw [hr]
    clear hall hr HC
    go_wp2
    go_ret
    exact ⟨a, n, c, rfl, by rw [HF.out]; exact HA1.out, HB1.out⟩
  rw [hr]
  rw [HLN.out] at hk
  have t1 : ((k : Int) == -1) = false := by rw [beq_eq_false_iff_ne]; omega
  obtain ⟨g, rfl, hgB, _⟩ := HA1.out.at0 (by omega)
  have HST := Lib.hid (Tab.Half.start (by rw [HLN.out]; exact hk) hpk hlo)
  clear hpk hlo hr HC
  go_wp2_with fail
  go_loopw [5, 6] (fun iv jv wr => ∃ (i j : Nat) (L : List Tab), i < j ∧ j ≤ n ∧ iv = .int .i64 i ∧ jv = .int .i64 j ∧ Hid (Tab.Half p l L i j) ∧ Hid (AccT wr B (some ⟨g, 0, none⟩) n c L) ∧ Hid (Below B w wr)) (fun _ jv _ => n - (intOf jv).toNat)
  case atStart => exact ⟨k, k + 1, l, by omega, by omega, rfl, by go_num, HST, HA1, HB1⟩
  case round =>
    obtain ⟨i, j, L, hij, hj, rfl, rfl, HH, HA, HB⟩ := hrel
    by_cases hlt : j < n
    · have t2 : decide ((j : Int) < (n : Int)) = true := decide_eq_true (by omega)
      have t3 : decide (j < n) = true := decide_eq_true hlt
      have hin : i < n := by omega
      obtain ⟨g', eg2, _, hat⟩ := HA.out.at0 (by omega)
      cases eg2
      have hcj := hat j hlt
      rw [HH.out.back j (Nat.le_refl _) (by rw [HLN.out]; exact hlt)] at hcj
      have HMJ := Lib.hid fun W (k : Below B w W) => HM.out W k (nth l j)
      have c0 := hcj.file
      have c1 := hcj.level
      have c2 := hcj.first
      have c3 := hcj.last
      have c4 := hcj.size
      have HSK : Hid (p (nth l j) = true → Tab.Half p l L i (j + 1)) := Lib.hid fun h => HH.out.skip (by rw [HLN.out]; exact hlt) h
      have HPU : Hid (p (nth l j) = false → Tab.Half p l (L.set i (nth l j)) (i + 1) (j + 1)) := Lib.hid fun h => HH.out.put hij (by rw [HLN.out]; exact hlt) h
      clear hat hcj HH
      unfold tval at HMJ
      generalize p (nth l j) = t at *
      generalize nth l j = s at *
      go_upto_region 8 with fail
      have hb5 := below_alloc1 wr (.cells #[.int .i64 s.file, .int .i64 s.level, .string (bstr s.first), .string (bstr s.last), .int .i64 s.size] 39)
      have hg5 := tab_box wr s
      generalize wr.alloc (.cells #[.int .i64 s.file, .int .i64 s.level, .string (bstr s.first), .string (bstr s.last), .int .i64 s.size] 39) = w5 at *
      have HA5 := Lib.hid (HA.out.below hb5)
      have HB5 := Lib.hid (HB.out.trans (hb5.mono (Nat.le_trans hB HB.out.size)))
      generalize wr.heap.size = g5 at *
      have d0 := hg5.file
      have d1 := hg5.level
      have d2 := hg5.first
      have d3 := hg5.last
      have d4 := hg5.size
      simp only [Nat.zero_add] at d0 d1 d2 d3 d4
      clear hb5 c0 c1 c2 c3 c4 HA HB hg5
      go_wp2_with fail
      refine (HMJ.out w5 HB5.out).mono ?_
      rintro e w6 ⟨rfl, hb6⟩
      have HA6 := Lib.hid (HA5.out.below hb6)
      have HB6 := Lib.hid (HB5.out.trans (hb6.mono (Nat.le_trans hB HB5.out.size)))
      have e0 := cell_later hb6 d0
      have e1 := cell_later hb6 d1
      have e2 := cell_later hb6 d2
      have e3 := cell_later hb6 d3
      have e4 := cell_later hb6 d4
      clear d0 d1 d2 d3 d4 hb6 HA5 HB5 HMJ
      cases t with
      | true =>
        have HV := Lib.hid (HSK.out rfl)
        clear HSK HPU
        dsimp only [Bool.not_true]
        go_wp2
        go_roundw
        case rel => exact ⟨i, j + 1, L, by omega, by omega, rfl, by go_num, HV, HA6, HB6⟩
        case measure => simp [intOf]; omega
      | false =>
        have HV := Lib.hid (HPU.out rfl)
        clear HSK HPU
        dsimp only [Bool.not_false]
        obtain ⟨g'', eg2, _, hat⟩ := HA6.out.at0 (by omega)
        cases eg2
        have hci := hat i hin
        have f0 := hci.file
        have f1 := hci.level
        have f2 := hci.first
        have f3 := hci.last
        have f4 := hci.size
        have hfz : ∀ q, w6.frozen? ⟨g, q, none⟩ = false := (own_spare HA6.out.2).2
        have HS := Lib.hid (HA6.out.set hin s)
        have HSB : Hid (Below B w (Tab.putT w6 g i s)) := Lib.hid (HB6.out.trans ((putT_oth w6 g i s).below (Nat.le_trans hB HB6.out.size) (fun x hx => by cases hx; exact hgB)))
        clear hat hci
        go_upto_region 10 with fail
        unfold Tab.putT at HS HSB
        generalize World.setCell _ _ _ = w7 at *
        clear f0 f1 f2 f3 f4 hfz e0 e1 e2 e3 e4
        go_wp2
        go_roundw
        case rel => exact ⟨i + 1, j + 1, _, by omega, by omega, by go_num, by go_num, HV, HS, HSB⟩
        case measure => simp [intOf]; omega
    · obtain rfl : j = n := by omega
      have t2 : decide ((j : Int) < (j : Int)) = false := decide_eq_false (by omega)
      have t3 : decide (j < j) = false := decide_eq_false (by omega)
      obtain ⟨i0, hi0, hz0, hz1, hz2⟩ := info_parts infoT
      have hsp := own_spare HA.out.2
      obtain ⟨vs, hcl⟩ := clear_tabs wr g (i * 5) (j - i) (c - i) (by omega) (fun q hq => hsp.1 _ (by omega)) hsp.2
      obtain ⟨k1, hk1⟩ : ∃ k1, k1 = j - i := ⟨_, rfl⟩
      obtain ⟨k2, hk2⟩ : ∃ k2, k2 = c - i := ⟨_, rfl⟩
      have s1 : ∀ W, (Instr.slice 29 (.slice (some ⟨g, 0, none⟩) j c) (some (.int .i64 (i : Int))) none none).run Try.prog W = .ok (.slice (some ⟨g, i * 5, none⟩) k1 k2) W := fun W => by
        rw [hk1, hk2]
        have h9 := run_slice_l (P := Try.prog) Try.underlying29 hi0 hz1 (some ⟨g, 0, none⟩) j c (lo' := i) rfl (by omega) W
        unfold subAn at h9
        rw [if_neg (by omega)] at h9
        simpa [Addr.add_lit] using h9
      have s2 : ∀ W, (Instr.slice 29 (.slice (some ⟨g, 0, none⟩) j c) none (some (.int .i64 (i : Int))) none).run Try.prog W = .ok (.slice (some ⟨g, 0, none⟩) i c) W := fun W => run_slice_h Try.underlying29 hi0 hz1 _ j c rfl (by omega) W
      rw [← hk1, ← hk2] at hcl
      have hfr : AccT (wr.setCells g (i * 5) vs) B (some ⟨g, 0, none⟩) i c (L.take i) := (HA.out.front (by omega)).setCells vs (by omega)
      have hlt' : L.take i = l.filter (fun s => !p s) := by rw [HH.out.front, ← HLN.out, List.take_length]
      rw [hlt'] at hfr
      have HFR := Lib.hid hfr
      have HBF := Lib.hid (HB.out.trans ((oth_setCells vs (i * 5) wr (Oth.refl _ _)).below (Nat.le_trans hB HB.out.size) (fun x hx => by cases hx; exact hgB)))
      clear hsp hi0 hz0 hz1 hz2 hk1 hk2 hfr hlt'
      go_wp2
      go_ret
      exact ⟨_, _, _, rfl, HFR.out, HBF.out⟩
theorem over_eq {k : Int} {x y : List UInt8} {vt : List Tab} : (Tab.at k vt).filter (fun t => !Tab.off x y t) = Tab.over k x y vt := rfl
set_option maxHeartbeats 4000000 in
theorem over_any (a : Option Addr) (n c : Nat) (vt : List Tab) (sq nx wl : Int) (w0 : World) (h : Ts w0 a n c vt) (hn : n ≤ 1000000) : OverC a n c vt sq nx wl w0 := by
  intro k x y w hk hw
  have HE := Lib.hid (h.below hw)
  have HAT : Hid ((Tab.at k vt).length ≤ n) := Lib.hid (by unfold Tab.at; have := List.length_filter_le (fun t : Tab => t.level == k) vt; have := h.1; omega)
  have eg := enters_of Try.func41 (by kernel_rfl) rfl
  clear h hw
  unfold vv
  have hb3 : Below w.heap.size w (((w.alloc (.cells #[.slice a n c, .int .u64 sq, .int .i64 nx, .int .i64 wl] 31)).alloc (.cells #[.string (bstr x)] 9)).alloc (.cells #[.string (bstr y)] 9)) := (two_boxes _ _ _).alloc (by simp; omega) _
  have hcx : (((w.alloc (.cells #[.slice a n c, .int .u64 sq, .int .i64 nx, .int .i64 wl] 31)).alloc (.cells #[.string (bstr x)] 9)).alloc (.cells #[.string (bstr y)] 9)).cell? ⟨w.heap.size + 1, 0, none⟩ = some (.string (bstr x)) := by
    have h1 := heap_alloc_new (w.alloc (.cells #[.slice a n c, .int .u64 sq, .int .i64 nx, .int .i64 wl] 31)) (.cells #[.string (bstr x)] 9)
    rw [World.size_alloc] at h1
    have h2 := (Below.heap_alloc ((w.alloc (.cells #[.slice a n c, .int .u64 sq, .int .i64 nx, .int .i64 wl] 31)).alloc (.cells #[.string (bstr x)] 9)) (.cells #[.string (bstr y)] 9) (w.heap.size + 1) (by simp)).trans h1
    rw [cell_of_row _ _ _ _ _ _ h2]; rfl
  have hcy : (((w.alloc (.cells #[.slice a n c, .int .u64 sq, .int .i64 nx, .int .i64 wl] 31)).alloc (.cells #[.string (bstr x)] 9)).alloc (.cells #[.string (bstr y)] 9)).cell? ⟨w.heap.size + 1 + 1, 0, none⟩ = some (.string (bstr y)) := by
    have h1 := heap_alloc_new ((w.alloc (.cells #[.slice a n c, .int .u64 sq, .int .i64 nx, .int .i64 wl] 31)).alloc (.cells #[.string (bstr x)] 9)) (.cells #[.string (bstr y)] 9)
    rw [World.size_alloc, World.size_alloc] at h1
    rw [cell_of_row _ _ _ _ _ _ h1]; rfl
  have HB3 := Lib.hid hb3
  have HCX := Lib.hid hcx
  have HCY := Lib.hid hcy
  clear hb3 hcx hcy
  go_enter Try.func32, Try.ntmps32
  go_wp2_with fail
  have hlv := level_any a n c vt sq nx wl k _ (HE.out.below HB3.out) hn
  unfold vv at hlv
  refine hlv.mono ?_
  clear hlv
  rintro e w1 ⟨a1, n1, c1, rfl, h1, _, hb1⟩
  have hn1 : n1 ≤ n := by rw [← h1.1]; exact HAT.out
  have HB1 := Lib.hid (HB3.out.trans (hb1.mono HB3.out.size))
  have hpd : PredT (((w.alloc (.cells #[.slice a n c, .int .u64 sq, .int .i64 nx, .int .i64 wl] 31)).alloc (.cells #[.string (bstr x)] 9)).alloc (.cells #[.string (bstr y)] 9)) 41 #[.pointer (some ⟨w.heap.size + 1 + 1, 0, none⟩), .pointer (some ⟨w.heap.size + 1, 0, none⟩)] (Tab.off x y) := fun V m => over1_any m _ _ x y V.w (BW.cell HCY.out V) (BW.cell HCX.out V)
  have HD := Lib.hid (delt_any 41 _ (Tab.off x y) _ _ a1 n1 c1 _ w1 eg hpd hb1 (Nat.le_refl _) hb1.size h1 (by omega))
  have HZ := Lib.hid HB3.out.size
  clear hpd h1 hb1
  go_wp2_with fail
  refine HD.out.mono ?_
  rintro e w2 ⟨a2, n2, c2, rfl, h2, hb2⟩
  rw [over_eq] at h2
  have HP : Hid (RetTo w.heap.size (Tab.over k x y vt) w (.returned (.slice a2 n2 c2)) w2) := Lib.hid ⟨_, _, _, rfl, h2.mono HZ.out, trivial, HB1.out.trans (hb2.mono HZ.out)⟩
  clear hb2 h2
  go_wp2
  go_ret
  exact HP.out
end Go.Proofs.Ytlipgaefflecaaa
end

section
set_option maxRecDepth 100000
set_option linter.unusedVariables false
set_option linter.unusedSimpArgs false
namespace Go.Proofs.Ytlipgaefflecaaa
namespace Ca
/-- Two lists share no version. -/
def NoEq (a b : List Ent) : Prop := ∀ x ∈ a, ∀ y ∈ b, ¬ Ent.eqv x y
theorem NoEq.symm {a b : List Ent} (h : NoEq a b) : NoEq b a := fun x hx y hy e => h y hy x hx (Ent.eqv_symm e)
/-- Each list is in order. -/
def Srt (ls : List (List Ent)) : Prop := ∀ l ∈ ls, l.Pairwise Ent.lt
theorem inL_of : ∀ {ls : List (List Ent)} {x : Ent}, ls.Pairwise NoEq → ∀ l ∈ ls, x ∈ l → Ent.InL ls x
  | [], _, _, l, hl, _ => by cases hl
  | k :: ls, x, hp, l, hl, hx => by
    rw [List.pairwise_cons] at hp
    rcases List.mem_cons.1 hl with h | h
    · subst h; exact .inl hx
    · exact .inr ⟨inL_of hp.2 l h hx, fun y hy e => hp.1 l h y hy x hx e⟩
theorem mem_all {ls : List (List Ent)} (hs : Srt ls) (hn : ls.Pairwise NoEq) (x : Ent) : x ∈ Ent.mergeL ls ↔ ∃ l ∈ ls, x ∈ l := by
  rw [Ent.mem_merge hs]
  exact ⟨Ent.InL_mem, fun ⟨l, hl, hx⟩ => inL_of hn l hl hx⟩
theorem merge_perm {ls ls' : List (List Ent)} (hs : Srt ls) (hn : ls.Pairwise NoEq) (hp : ls.Perm ls') : Ent.mergeL ls = Ent.mergeL ls' := by
  have hs' : Srt ls' := fun l hl => hs l (hp.mem_iff.2 hl)
  have hn' : ls'.Pairwise NoEq := (hp.pairwise_iff (fun h => NoEq.symm h)).1 hn
  refine Ent.sorted_ext (Ent.merge_sorted hs) (Ent.merge_sorted hs') fun x => ?_
  rw [mem_all hs hn, mem_all hs' hn']
  exact ⟨fun ⟨l, hl, hx⟩ => ⟨l, hp.mem_iff.1 hl, hx⟩, fun ⟨l, hl, hx⟩ => ⟨l, hp.mem_iff.2 hl, hx⟩⟩
theorem nodup_of {l : List Ent} (h : l.Pairwise Ent.lt) : l.Nodup := h.imp fun h e => by subst e; exact Ent.lt_irrefl _ h
theorem two_full {a b : List Ent} (ha : a.Pairwise Ent.lt) (hb : b.Pairwise Ent.lt) (h : (Ent.two a b).length = a.length + b.length) : NoEq a b := by
  let p : Ent → Bool := fun x => decide (∀ y ∈ a, ¬ Ent.eqv y x)
  have hp : (Ent.two a b).Perm (a ++ b.filter p) := by
    rw [List.perm_ext_iff_of_nodup (nodup_of (Ent.two_sorted ha hb))]
    · intro x
      rw [Ent.mem_two ha hb, List.mem_append, List.mem_filter]
      simp only [p, decide_eq_true_eq]
    · rw [List.nodup_append]
      refine ⟨nodup_of ha, (nodup_of hb).sublist List.filter_sublist, fun x hx y hy e => ?_⟩
      subst e
      rw [List.mem_filter] at hy
      have h2 := hy.2
      simp only [p, decide_eq_true_eq] at h2
      exact h2 x hx ⟨rfl, rfl⟩
  have h1 := hp.length_eq
  rw [List.length_append, h] at h1
  have h2 : (b.filter p).length = b.length := by omega
  have h3 := List.filter_eq_self.1 (List.filter_sublist.eq_of_length h2)
  intro x hx y hy e
  have h4 := h3 y hy
  simp only [p, decide_eq_true_eq] at h4
  exact h4 x hx e
theorem fold_len : ∀ (ls : List (List Ent)) (acc : List Ent), (ls.foldl Ent.two acc).length ≤ acc.length + (ls.map List.length).sum
  | [], acc => by simp
  | l :: ls, acc => by
    have h1 := fold_len ls (Ent.two acc l)
    have h2 := Ent.two_len _ acc l (Nat.le_refl _)
    simp only [List.foldl_cons, List.map_cons, List.sum_cons]
    omega
theorem fold_full : ∀ (ls : List (List Ent)) (acc : List Ent), acc.Pairwise Ent.lt → Srt ls → (ls.foldl Ent.two acc).length = acc.length + (ls.map List.length).sum → ls.Pairwise NoEq ∧ ∀ l ∈ ls, NoEq acc l
  | [], acc, _, _, _ => ⟨List.Pairwise.nil, fun l hl => by cases hl⟩
  | l :: ls, acc, ha, hs, h => by
    have hl := hs l (by simp)
    have h1 := fold_len ls (Ent.two acc l)
    have h2 := Ent.two_len _ acc l (Nat.le_refl _)
    simp only [List.foldl_cons, List.map_cons, List.sum_cons] at h
    have h3 := two_full ha hl (by omega)
    obtain ⟨h4, h5⟩ := fold_full ls (Ent.two acc l) (Ent.two_sorted ha hl) (fun k hk => hs k (by simp [hk])) (by omega)
    have hm : ∀ x, x ∈ acc ∨ x ∈ l → x ∈ Ent.two acc l := fun x hx => by
      rw [Ent.mem_two ha hl]
      rcases hx with hx | hx
      · exact .inl hx
      · exact .inr ⟨hx, fun y hy => h3 y hy x hx⟩
    refine ⟨List.pairwise_cons.2 ⟨fun k hk x hx y hy => h5 k hk x (hm x (.inr hx)) y hy, h4⟩, fun k hk => ?_⟩
    rcases List.mem_cons.1 hk with e | e
    · subst e; exact h3
    · exact fun x hx y hy => h5 k e x (hm x (.inl hx)) y hy
/-- Nothing got lost: the lists share nothing. -/
theorem merge_full {ls : List (List Ent)} (hs : Srt ls) (h : (Ent.mergeL ls).length = (ls.map List.length).sum) : ls.Pairwise NoEq :=
  (fold_full ls [] List.Pairwise.nil hs (by rw [List.length_nil, Nat.zero_add]; exact h)).1
theorem mem_seen {M : List Ent} {up : Nat} {x : Ent} : x ∈ Ent.seen M up ↔ x ∈ M ∧ Ent.newest M up x ∧ x.gone = false := by
  unfold Ent.seen Ent.seenB
  rw [List.mem_filter, Bool.and_eq_true, decide_eq_true_eq, Bool.not_eq_true']
theorem seen_split {M A B : List Ent} {up : Nat} (hm : ∀ x, x ∈ M ↔ x ∈ A ∨ x ∈ B) (hk : ∀ x ∈ A, ∀ y ∈ B, x.key ≠ y.key) (x : Ent) : x ∈ Ent.seen M up ↔ x ∈ Ent.seen A up ∨ x ∈ Ent.seen B up := by
  rw [mem_seen, mem_seen, mem_seen]
  unfold Ent.newest
  constructor
  · rintro ⟨h1, ⟨h2, h3⟩, h4⟩
    rcases (hm x).1 h1 with h | h
    · exact .inl ⟨h, ⟨h2, fun y hy => h3 y ((hm y).2 (.inl hy))⟩, h4⟩
    · exact .inr ⟨h, ⟨h2, fun y hy => h3 y ((hm y).2 (.inr hy))⟩, h4⟩
  · rintro (⟨h1, ⟨h2, h3⟩, h4⟩ | ⟨h1, ⟨h2, h3⟩, h4⟩)
    · refine ⟨(hm x).2 (.inl h1), ⟨h2, fun y hy hyk => ?_⟩, h4⟩
      rcases (hm y).1 hy with h | h
      · exact h3 y h hyk
      · exact absurd hyk.symm (hk x h1 y h)
    · refine ⟨(hm x).2 (.inr h1), ⟨h2, fun y hy hyk => ?_⟩, h4⟩
      rcases (hm y).1 hy with h | h
      · exact absurd hyk (hk y h x h1)
      · exact h3 y h hyk
theorem seen_sorted {M : List Ent} (h : M.Pairwise Ent.lt) (up : Nat) : (Ent.seen M up).Pairwise Ent.lt := h.sublist List.filter_sublist
theorem pw_left {α : Type} {R : α → α → Prop} {a b : List α} (h : (a ++ b).Pairwise R) : a.Pairwise R := (List.pairwise_append.1 h).1
theorem pw_right {α : Type} {R : α → α → Prop} {a b : List α} (h : (a ++ b).Pairwise R) : b.Pairwise R := (List.pairwise_append.1 h).2.1
/-- A job changes nothing that is seen. -/
theorem seen_job {Ls Rs ps : List (List Ent)} {keep up : Nat} {bottom : Bool} (hsL : Srt Ls) (hsR : Srt Rs) (hsP : Srt ps) (hn : (Ls ++ Rs).Pairwise NoEq) (hn' : (ps ++ Rs).Pairwise NoEq) (hk : ∀ a ∈ Ls, ∀ b ∈ Rs, ∀ x ∈ a, ∀ y ∈ b, x.key ≠ y.key)
    (hp : ps.flatten = Ent.prune (Ent.mergeL Ls) keep bottom) (hu : keep ≤ up) : Ent.seen (Ent.mergeL (ps ++ Rs)) up = Ent.seen (Ent.mergeL (Ls ++ Rs)) up := by
  have hs1 : Srt (ps ++ Rs) := fun l hl => (List.mem_append.1 hl).elim (hsP l) (hsR l)
  have hs2 : Srt (Ls ++ Rs) := fun l hl => (List.mem_append.1 hl).elim (hsL l) (hsR l)
  have mA := mem_all hsL (pw_left hn)
  have mB := mem_all hsR (pw_right hn)
  have m2 : ∀ x, x ∈ Ent.mergeL (Ls ++ Rs) ↔ x ∈ Ent.mergeL Ls ∨ x ∈ Ent.mergeL Rs := fun x => by
    rw [mem_all hs2 hn, mA, mB]
    simp only [List.mem_append]
    constructor
    · rintro ⟨l, h | h, hx⟩
      · exact .inl ⟨l, h, hx⟩
      · exact .inr ⟨l, h, hx⟩
    · rintro (⟨l, h, hx⟩ | ⟨l, h, hx⟩)
      · exact ⟨l, .inl h, hx⟩
      · exact ⟨l, .inr h, hx⟩
  have m1 : ∀ x, x ∈ Ent.mergeL (ps ++ Rs) ↔ x ∈ Ent.prune (Ent.mergeL Ls) keep bottom ∨ x ∈ Ent.mergeL Rs := fun x => by
    rw [mem_all hs1 hn', mB, ← hp, List.mem_flatten]
    simp only [List.mem_append]
    constructor
    · rintro ⟨l, h | h, hx⟩
      · exact .inl ⟨l, h, hx⟩
      · exact .inr ⟨l, h, hx⟩
    · rintro (⟨l, h, hx⟩ | ⟨l, h, hx⟩)
      · exact ⟨l, .inl h, hx⟩
      · exact ⟨l, .inr h, hx⟩
  have k2 : ∀ x ∈ Ent.mergeL Ls, ∀ y ∈ Ent.mergeL Rs, x.key ≠ y.key := fun x hx y hy => by
    obtain ⟨a, ha, hxa⟩ := (mA x).1 hx
    obtain ⟨b, hb, hyb⟩ := (mB y).1 hy
    exact hk a ha b hb x hxa y hyb
  have k1 : ∀ x ∈ Ent.prune (Ent.mergeL Ls) keep bottom, ∀ y ∈ Ent.mergeL Rs, x.key ≠ y.key := fun x hx => k2 x (List.mem_filter.1 hx).1
  refine Ent.sorted_ext (seen_sorted (Ent.merge_sorted hs1) up) (seen_sorted (Ent.merge_sorted hs2) up) fun x => ?_
  rw [seen_split m1 k1, seen_split m2 k2, Ent.prune_seen _ bottom hu]
end Ca
end Go.Proofs.Ytlipgaefflecaaa
end

section
set_option maxRecDepth 100000
set_option linter.unusedVariables false
set_option linter.unusedSimpArgs false
namespace Go.Proofs.Ytlipgaefflecaaa
namespace Ca
open Ent (klt klt_trans klt_total klt_asymm klt_irrefl)
theorem kle_klt {a b c : List UInt8} (h : klt b a = false) (k : klt b c = true) : klt a c = true := by
  rcases klt_total a b with h1 | h1 | h1
  · exact klt_trans h1 k
  · rw [h1]; exact k
  · rw [h1] at h; cases h
theorem klt_kle {a b c : List UInt8} (h : klt a b = true) (k : klt c b = false) : klt a c = true := by
  rcases klt_total b c with h1 | h1 | h1
  · exact klt_trans h h1
  · rw [← h1]; exact h
  · rw [h1] at k; cases k
theorem kle_refl (a : List UInt8) : klt a a = false := klt_irrefl a
theorem klt_not {a b : List UInt8} (h : klt a b = true) : klt b a = false := klt_asymm h
theorem kle_trans {a b c : List UInt8} (h : klt b a = false) (k : klt c b = false) : klt c a = false := by
  cases hc : klt c a with
  | false => rfl
  | true =>
    have := klt_kle hc h
    rw [this] at k; cases k
def fst (l : List Ent) : List UInt8 := (nth l 0).key
def lst (l : List Ent) : List UInt8 := (nth l (l.length - 1)).key
def siz (l : List Ent) : Nat := (l.map Cp.wt).sum
def tabOf (f k : Int) (l : List Ent) : Tab := ⟨f, k, fst l, lst l, ((siz l : Nat) : Int)⟩
theorem key_mono {l : List Ent} (h : l.Pairwise Ent.lt) {i j : Nat} (hij : i ≤ j) (hj : j < l.length) : klt (nth l j).key (nth l i).key = false := by
  rcases Nat.lt_or_ge i j with h1 | h1
  · have h2 := List.pairwise_iff_getElem.1 h i j (by omega) hj h1
    rw [nth_eq l (show i < l.length by omega), nth_eq l hj]
    rcases h2 with h3 | h3
    · exact klt_asymm h3
    · rw [h3.1]; exact klt_irrefl _
  · obtain rfl : i = j := by omega
    exact klt_irrefl _
theorem fst_le {l : List Ent} (h : l.Pairwise Ent.lt) {x : Ent} (hx : x ∈ l) : klt x.key (fst l) = false := by
  obtain ⟨i, hi, rfl⟩ := List.mem_iff_getElem.1 hx
  have := key_mono h (Nat.zero_le i) hi
  rwa [nth_eq l hi] at this
theorem le_lst {l : List Ent} (h : l.Pairwise Ent.lt) {x : Ent} (hx : x ∈ l) : klt (lst l) x.key = false := by
  obtain ⟨i, hi, rfl⟩ := List.mem_iff_getElem.1 hx
  have := key_mono h (i := i) (j := l.length - 1) (by omega) (by omega)
  rwa [nth_eq l hi] at this
theorem fst_mem {l : List Ent} (h : l ≠ []) : ∃ x ∈ l, x.key = fst l := ⟨nth l 0, by
  have := List.length_pos_iff.2 h
  rw [nth_eq _ this]; exact List.getElem_mem _, rfl⟩
theorem lst_mem {l : List Ent} (h : l ≠ []) : ∃ x ∈ l, x.key = lst l := ⟨nth l (l.length - 1), by
  have := List.length_pos_iff.2 h
  rw [nth_eq _ (by omega)]; exact List.getElem_mem _, rfl⟩
theorem fst_lst {l : List Ent} (h : l.Pairwise Ent.lt) (hn : l ≠ []) : klt (lst l) (fst l) = false := by
  obtain ⟨x, hx, e⟩ := lst_mem hn
  rw [← e]; exact fst_le h hx
structure TOk (F : Int → List Ent) (t : Tab) : Prop where
  ne : F t.file ≠ []
  right : Ent.Right (F t.file)
  eq : t = tabOf t.file t.level (F t.file)
  lv : 0 ≤ t.level ∧ t.level ≤ 6
theorem TOk.fst {F : Int → List Ent} {t : Tab} (h : TOk F t) : t.first = Ca.fst (F t.file) := by have := congrArg Tab.first h.eq; exact this
theorem TOk.lst {F : Int → List Ent} {t : Tab} (h : TOk F t) : t.last = Ca.lst (F t.file) := by have := congrArg Tab.last h.eq; exact this
theorem TOk.lo {F : Int → List Ent} {t : Tab} (h : TOk F t) {x : Ent} (hx : x ∈ F t.file) : klt x.key t.first = false := by rw [h.fst]; exact fst_le h.right.2 hx
theorem TOk.hi {F : Int → List Ent} {t : Tab} (h : TOk F t) {x : Ent} (hx : x ∈ F t.file) : klt t.last x.key = false := by rw [h.lst]; exact le_lst h.right.2 hx
theorem TOk.fl {F : Int → List Ent} {t : Tab} (h : TOk F t) : klt t.last t.first = false := by rw [h.fst, h.lst]; exact fst_lst h.right.2 h.ne
/-- Two tables lie apart. -/
def Far (t u : Tab) : Prop := klt t.last u.first = true ∨ klt u.last t.first = true
theorem Far.symm {t u : Tab} (h : Far t u) : Far u t := h.elim .inr .inl
def Keys (F : Int → List Ent) (t u : Tab) : Prop := ∀ x ∈ F t.file, ∀ y ∈ F u.file, x.key ≠ y.key
theorem Keys.symm {F : Int → List Ent} {t u : Tab} (h : Keys F t u) : Keys F u t := fun x hx y hy e => h y hy x hx e.symm
def Lev (t u : Tab) : Prop := t.level = u.level → Far t u
theorem Lev.symm {t u : Tab} (h : Lev t u) : Lev u t := fun e => (h e.symm).symm
def NE (F : Int → List Ent) (t u : Tab) : Prop := NoEq (F t.file) (F u.file)
theorem NE.symm' {F : Int → List Ent} {t u : Tab} (h : NE F t u) : NE F u t := NoEq.symm h
def lens (F : Int → List Ent) (vt : List Tab) : Nat := (vt.map fun t => (F t.file).length).sum
def sizes (F : Int → List Ent) (vt : List Tab) : Nat := (vt.map fun t => siz (F t.file)).sum
def pot (F : Int → List Ent) (vt : List Tab) : Nat := (vt.map fun t => (6 - t.level).toNat * (F t.file).length).sum
theorem lens_app (F : Int → List Ent) (a b : List Tab) : lens F (a ++ b) = lens F a + lens F b := by unfold lens; rw [List.map_append, List.sum_append_nat]
theorem sizes_app (F : Int → List Ent) (a b : List Tab) : sizes F (a ++ b) = sizes F a + sizes F b := by unfold sizes; rw [List.map_append, List.sum_append_nat]
theorem pot_app (F : Int → List Ent) (a b : List Tab) : pot F (a ++ b) = pot F a + pot F b := by unfold pot; rw [List.map_append, List.sum_append_nat]
theorem lens_perm {F : Int → List Ent} {a b : List Tab} (h : a.Perm b) : lens F a = lens F b := (h.map _).sum_nat
theorem sizes_perm {F : Int → List Ent} {a b : List Tab} (h : a.Perm b) : sizes F a = sizes F b := (h.map _).sum_nat
theorem pot_perm {F : Int → List Ent} {a b : List Tab} (h : a.Perm b) : pot F a = pot F b := (h.map _).sum_nat
/-- Where the play stands. -/
structure Inv (F : Int → List Ent) (next : Nat) (vt : List Tab) : Prop where
  ok : ∀ t ∈ vt, TOk F t
  nd : (vt.map Tab.file).Nodup
  lt : ∀ t ∈ vt, 0 ≤ t.file ∧ t.file < (next : Int)
  ne : vt.Pairwise (NE F)
  phase : (∀ t ∈ vt, t.level = 0) ∨ ((∀ t ∈ vt, 1 ≤ t.level) ∧ vt.Pairwise (Keys F) ∧ vt.Pairwise Lev)
  total : lens F vt ≤ 150
  bytes : sizes F vt ≤ 2000000
theorem Inv.perm {F : Int → List Ent} {next : Nat} {vt vt' : List Tab} (I : Inv F next vt) (h : vt.Perm vt') : Inv F next vt' where
  ok t ht := I.ok t (h.mem_iff.2 ht)
  nd := (h.map _).nodup_iff.1 I.nd
  lt t ht := I.lt t (h.mem_iff.2 ht)
  ne := (h.pairwise_iff (fun h => NE.symm' h)).1 I.ne
  phase := by
    rcases I.phase with h1 | ⟨h1, h2, h3⟩
    · exact .inl fun t ht => h1 t (h.mem_iff.2 ht)
    · exact .inr ⟨fun t ht => h1 t (h.mem_iff.2 ht), (h.pairwise_iff (fun h => Keys.symm h)).1 h2, (h.pairwise_iff (fun h => Lev.symm h)).1 h3⟩
  total := by rw [← lens_perm h]; exact I.total
  bytes := by rw [← sizes_perm h]; exact I.bytes
theorem Inv.srt {F : Int → List Ent} {next : Nat} {vt : List Tab} (I : Inv F next vt) : Srt (vt.map fun t => F t.file) := fun l hl => by
  obtain ⟨t, ht, rfl⟩ := List.mem_map.1 hl
  exact (I.ok t ht).right.2
theorem Inv.noeq {F : Int → List Ent} {next : Nat} {vt : List Tab} (I : Inv F next vt) : (vt.map fun t => F t.file).Pairwise NoEq := List.pairwise_map.2 I.ne
/-- Members of a list with distinct files. -/
theorem file_inj {vt : List Tab} (h : (vt.map Tab.file).Nodup) {t u : Tab} (ht : t ∈ vt) (hu : u ∈ vt) (e : t.file = u.file) : t = u := by
  induction vt with
  | nil => cases ht
  | cons v vt ih =>
    rw [List.map_cons, List.nodup_cons] at h
    rcases List.mem_cons.1 ht with h1 | h1
    · rcases List.mem_cons.1 hu with h2 | h2
      · rw [h1, h2]
      · exact absurd (List.mem_map.2 ⟨u, h2, by rw [← e, h1]⟩) h.1
    · rcases List.mem_cons.1 hu with h2 | h2
      · exact absurd (List.mem_map.2 ⟨t, h1, by rw [e, h2]⟩) h.1
      · exact ih h.2 h1 h2
theorem tabs_nodup {vt : List Tab} (h : (vt.map Tab.file).Nodup) : vt.Nodup := by
  induction vt with
  | nil => exact List.nodup_nil
  | cons v vt ih =>
    rw [List.map_cons, List.nodup_cons] at h
    exact List.nodup_cons.2 ⟨fun hv => h.1 (List.mem_map.2 ⟨v, hv, rfl⟩), ih h.2⟩
theorem pw_of {R : Tab → Tab → Prop} {vt : List Tab} (hs : ∀ {x y}, R x y → R y x) (h : vt.Pairwise R) {t u : Tab} (ht : t ∈ vt) (hu : u ∈ vt) (hne : t ≠ u) : R t u := by
  induction vt with
  | nil => cases ht
  | cons v vt ih =>
    rw [List.pairwise_cons] at h
    rcases List.mem_cons.1 ht with h1 | h1
    · rcases List.mem_cons.1 hu with h2 | h2
      · exact absurd (h1.trans h2.symm) hne
      · rw [h1]; exact h.1 u h2
    · rcases List.mem_cons.1 hu with h2 | h2
      · rw [h2]; exact hs (h.1 t h1)
      · exact ih h.2 h1 h2
/-- What Pick picks: tables of a level, and those below that share keys. -/
structure Sel (vt l : List Tab) (k : Nat) : Prop where
  k5 : k ≤ 5
  ne : l ≠ []
  of : (k = 0 ∧ l = Tab.at 0 vt) ∨ (1 ≤ k ∧ ∃ t ∈ Tab.at k vt, l = [t])
theorem at_mem {k : Int} {vt : List Tab} {t : Tab} : t ∈ Tab.at k vt ↔ t ∈ vt ∧ t.level = k := by
  unfold Tab.at
  rw [List.mem_filter, beq_iff_eq]
theorem over_mem {k : Int} {x y : List UInt8} {vt : List Tab} {t : Tab} : t ∈ Tab.over k x y vt ↔ t ∈ vt ∧ t.level = k ∧ klt y t.first = false ∧ klt t.last x = false := by
  unfold Tab.over
  rw [List.mem_filter, at_mem, Bool.not_eq_true', Bool.or_eq_false_iff, and_assoc]
/-- The tables that stay. -/
def rest (vt S : List Tab) : List Tab := vt.filter fun t => decide (t.file ∉ S.map Tab.file)
section
variable {F : Int → List Ent} {next k : Nat} {vt l : List Tab}
theorem Sel.sub (h : Sel vt l k) : ∀ t ∈ l, t ∈ vt ∧ t.level = (k : Int) := by
  intro t ht
  rcases h.of with ⟨h1, h2⟩ | ⟨h1, u, hu, h2⟩
  · subst h1; rw [h2] at ht; exact at_mem.1 ht
  · rw [h2, List.mem_singleton] at ht; subst ht; exact at_mem.1 hu
theorem Sel.all_mem (h : Sel vt l k) {t : Tab} : t ∈ Tab.all k l vt ↔ t ∈ l ∨ (t ∈ vt ∧ t.level = (k : Int) + 1 ∧ klt (Tab.hi l) t.first = false ∧ klt t.last (Tab.lo l) = false) := by
  unfold Tab.all
  rw [List.mem_append, over_mem]
theorem Sel.nodup (h : Sel vt l k) (I : Inv F next vt) : (Tab.all k l vt).Nodup := by
  have hv := tabs_nodup I.nd
  unfold Tab.all
  rw [List.nodup_append]
  refine ⟨?_, ?_, ?_⟩
  · rcases h.of with ⟨h1, h2⟩ | ⟨h1, u, hu, h2⟩
    · rw [h2]; exact hv.sublist List.filter_sublist
    · rw [h2]; simp
  · unfold Tab.over Tab.at
    exact (hv.sublist List.filter_sublist).sublist List.filter_sublist
  · intro a ha b hb e
    subst e
    have h1 := (h.sub a ha).2
    have h2 := (over_mem.1 hb).2.1
    omega
theorem Sel.perm (h : Sel vt l k) (I : Inv F next vt) : vt.Perm (Tab.all k l vt ++ rest vt (Tab.all k l vt)) := by
  have hv := tabs_nodup I.nd
  have hS : ∀ t ∈ Tab.all k l vt, t ∈ vt := fun t ht => by
    rcases h.all_mem.1 ht with h1 | h1
    · exact (h.sub t h1).1
    · exact h1.1
  rw [List.perm_ext_iff_of_nodup hv]
  · intro t
    rw [List.mem_append]
    unfold rest
    rw [List.mem_filter, decide_eq_true_eq]
    constructor
    · intro ht
      by_cases hc : t.file ∈ (Tab.all k l vt).map Tab.file
      · obtain ⟨u, hu, e⟩ := List.mem_map.1 hc
        have := file_inj I.nd (hS u hu) ht e
        subst this
        exact .inl hu
      · exact .inr ⟨ht, hc⟩
    · rintro (h1 | h1)
      · exact hS t h1
      · exact h1.1
  · rw [List.nodup_append]
    refine ⟨h.nodup I, hv.sublist List.filter_sublist, fun a ha b hb e => ?_⟩
    subst e
    unfold rest at hb
    rw [List.mem_filter, decide_eq_true_eq] at hb
    exact hb.2 (List.mem_map.2 ⟨a, ha, rfl⟩)
theorem rest_mem {S : List Tab} {t : Tab} : t ∈ rest vt S ↔ t ∈ vt ∧ t.file ∉ S.map Tab.file := by
  unfold rest
  rw [List.mem_filter, decide_eq_true_eq]
theorem mn_self (x : List UInt8) : Tab.mn x x = x := by unfold Tab.mn; rw [klt_irrefl]; rfl
theorem mx_self (x : List UInt8) : Tab.mx x x = x := by unfold Tab.mx; rw [klt_irrefl]; rfl
theorem lo_one (t : Tab) : Tab.lo [t] = t.first := by unfold Tab.lo; exact mn_self _
theorem hi_one (t : Tab) : Tab.hi [t] = t.last := by unfold Tab.hi; exact mx_self _
/-- In the first phase nothing stays. -/
theorem Sel.none (h : Sel vt l k) (h0 : ∀ t ∈ vt, t.level = 0) : k = 0 ∧ l = vt ∧ rest vt (Tab.all k l vt) = [] := by
  have hk : k = 0 := by
    rcases h.of with ⟨h1, _⟩ | ⟨h1, u, hu, _⟩
    · exact h1
    · have := (at_mem.1 hu); have := h0 u this.1; omega
  subst hk
  have hl : l = vt := by
    rcases h.of with ⟨_, h2⟩ | ⟨h1, _⟩
    · rw [h2]
      unfold Tab.at
      rw [List.filter_eq_self]
      intro t ht
      rw [h0 t ht]; rfl
    · omega
  refine ⟨rfl, hl, ?_⟩
  unfold rest
  rw [List.filter_eq_nil_iff]
  intro t ht
  rw [decide_eq_true_eq]
  exact fun hc => hc (List.mem_map.2 ⟨t, h.all_mem.2 (.inl (by rw [hl]; exact ht)), rfl⟩)
/-- What stays has other keys. -/
theorem Sel.keys (h : Sel vt l k) (I : Inv F next vt) : ∀ t ∈ Tab.all k l vt, ∀ u ∈ rest vt (Tab.all k l vt), Keys F t u := by
  intro t ht u hu
  rcases I.phase with h0 | ⟨_, h2, _⟩
  · rw [(h.none h0).2.2] at hu; cases hu
  · have htv : t ∈ vt := (h.perm I).mem_iff.2 (List.mem_append.2 (.inl ht))
    refine pw_of (fun h => Keys.symm h) h2 htv (rest_mem.1 hu).1 fun e => ?_
    subst e
    exact (rest_mem.1 hu).2 (List.mem_map.2 ⟨t, ht, rfl⟩)
/-- What stays on the level below lies on one side of all that is compacted. -/
theorem Sel.side (h : Sel vt l k) (I : Inv F next vt) {u : Tab} (hu : u ∈ rest vt (Tab.all k l vt)) (hk : u.level = (k : Int) + 1) :
    (∀ s ∈ Tab.all k l vt, klt s.last u.first = true) ∨ (∀ s ∈ Tab.all k l vt, klt u.last s.first = true) := by
  rcases I.phase with h0 | ⟨hp, _, h3⟩
  · rw [(h.none h0).2.2] at hu; cases hu
  · have huv := (rest_mem.1 hu).1
    have hun := (rest_mem.1 hu).2
    rcases h.of with ⟨h1, h2⟩ | ⟨h1, t, htm, h2⟩
    · obtain ⟨t, ht⟩ := List.exists_mem_of_ne_nil _ h.ne
      have := h.sub t ht
      have := hp t this.1
      omega
    · subst h2
      have htv := at_mem.1 htm
      have hno : ¬ (klt t.last u.first = false ∧ klt u.last t.first = false) := fun hc => hun (List.mem_map.2 ⟨u, h.all_mem.2 (.inr ⟨huv, hk, by rw [hi_one]; exact hc.1, by rw [lo_one]; exact hc.2⟩), rfl⟩)
      have hof : ∀ o ∈ vt, o.level = (k : Int) + 1 → o.file ≠ u.file → Far o u := fun o ho hl he => pw_of (fun h => Lev.symm h) h3 ho huv (fun e => he (by rw [e])) (by rw [hl, hk])
      have hmem : ∀ s ∈ Tab.all k [t] vt, s = t ∨ (s ∈ vt ∧ s.level = (k : Int) + 1 ∧ klt t.last s.first = false ∧ klt s.last t.first = false ∧ s.file ≠ u.file) := fun s hs => by
        rcases h.all_mem.1 hs with h5 | ⟨h5, h6, h7, h8⟩
        · exact .inl (List.mem_singleton.1 h5)
        · rw [hi_one] at h7
          rw [lo_one] at h8
          exact .inr ⟨h5, h6, h7, h8, fun e => hun (List.mem_map.2 ⟨s, hs, e⟩)⟩
      cases hc : klt t.last u.first with
      | true =>
        refine .inl fun s hs => ?_
        rcases hmem s hs with e | ⟨s1, s2, s3, s4, s5⟩
        · rw [e]; exact hc
        · rcases hof s s1 s2 s5 with h9 | h9
          · exact h9
          · -- u.last < s.first ≤ t.last < u.first
            have h10 := klt_kle h9 s3
            have h11 := klt_trans h10 hc
            have h12 := (I.ok u huv).fl
            rw [h11] at h12; cases h12
      | false =>
        have hd : klt u.last t.first = true := by
          cases hd : klt u.last t.first with
          | true => rfl
          | false => exact absurd ⟨hc, hd⟩ hno
        refine .inr fun s hs => ?_
        rcases hmem s hs with e | ⟨s1, s2, s3, s4, s5⟩
        · rw [e]; exact hd
        · rcases hof s s1 s2 s5 with h9 | h9
          · -- s.last < u.first ≤ u.last < t.first ≤ s.last
            have h10 := klt_kle h9 (I.ok u huv).fl
            have h11 := klt_trans h10 hd
            rw [h11] at s4; cases s4
          · exact h9
end
end Ca
end Go.Proofs.Ytlipgaefflecaaa
end

section
set_option linter.unusedVariables false
set_option linter.unusedSimpArgs false
namespace Go.Proofs.Ytlipgaefflecaaa
open Go.RowKit

section
variable {P : Program} {md : Region.Mode} {Q : Exit → Act → World → Prop} {S : World → Prop} {l : List Oper} {ts : List Nat}

/-- Behind the heads the tail follows in its order. -/
def tailL (P : Program) (l : List Oper) (Q : Exit → Act → World → Prop) (ts : List Nat) (listed : Array Bool) (a : Act) (w : World) : Prop :=
  seqL .any l.toArray ts listed = true ∧ wpList P l.toArray Q (opsAt l ts) a w
def stepsB (ops : Array Oper) (ts : List Nat) (t0 : Nat) : Bool :=
  Region.noSelect ops && sink2 .any ops (Array.replicate ops.size false) ts t0 && chain2 .any ops ts t0 && ts.all (fun k => decide (k < ops.size))
/-- The heads, n of them, S holding behind each; then the tail ts (t0 first). -/
theorem wp_region_steps {id : Nat} {a : Act} {w : World} (ts : List Nat) (t0 n : Nat) (hm : P.follows .mixedOrders = true) (hB : stepsB l.toArray ts t0 = true) (hn : n + ts.length = l.toArray.size)
    (S : World → Prop) (h : anyT P .any l.toArray Q S ts (tailL P l Q ts) n (Array.replicate l.toArray.size false) a w.drew) : (Code.region id l.toArray true).wp P Q a w := by
  simp only [stepsB, Bool.and_eq_true] at hB
  obtain ⟨⟨⟨hsel, hs⟩, hc⟩, hlt⟩ := hB
  have hlt' : ∀ k ∈ ts, k < l.length := fun k hk => by simpa using List.all_eq_true.1 hlt k hk
  have key := anyT_head (g := ts.length) (L := tailL P l Q ts) (fun listed a w hL => wpAny_seqL l ts listed a w hL.1 hlt' hL.2) _ _ _ _ h
  rw [hn] at key
  exact wp_region_any hm key
def hinvB (ops : Array Oper) (ts : List Nat) (listed : Array Bool) : Bool := decide (listed.size = ops.size) && closedB .any ops listed && ts.all (fun t => !listed.getD t true)
theorem hinv_of {ops : Array Oper} {listed : Array Bool} (h : hinvB ops ts listed = true) : HInv .any ops (Array.replicate ops.size false) ts listed := by
  simp only [hinvB, Bool.and_eq_true, decide_eq_true_eq] at h
  obtain ⟨⟨h1, h2⟩, h3⟩ := h
  refine ⟨h1, fun j oj hj hl e he hb => ?_, fun t ht hts => ?_, fun j hj => ?_⟩
  · have h4 := List.all_eq_true.1 h2 j (List.mem_range.2 (Array.getElem?_eq_some_iff.1 hj).1)
    rw [hl, hj] at h4
    simp only [Bool.not_true, Bool.false_or] at h4
    have h5 := Array.all_eq_true'.1 h4 e he
    rw [hb] at h5
    simpa using h5
  · have := List.all_eq_true.1 h3 t (by unfold inTail at ht; simpa using ht)
    simpa using this
  · rw [getD_replicate_false] at hj; cases hj
def pullB (ops : Array Oper) (ts : List Nat) (t0 : Nat) (rs : List Nat) (listed : Array Bool) : Bool :=
  stepsB ops ts t0 && hinvB ops ts listed && takeL .any ops rs listed && rs.all (fun k => decide (k < ops.size) && !inTail ts k)
/-- Heads that tell the same in every world of S are pulled ahead. -/
theorem anyT_pull (rs : List Nat) (t0 n : Nat) {listed : Array Bool} {a : Act} {w : World} (hQ : ∀ c a d v w, Q (.panic c) (Act.put a d v) w → Q (.panic c) a w) (hB : pullB l.toArray ts t0 rs listed = true) (hS : S w)
    (h : heldL P l.toArray S (fun a' => anyT P .any l.toArray Q S ts (tailL P l Q ts) n (setL listed rs) a' w) (opsAt l rs) a) : anyT P .any l.toArray Q S ts (tailL P l Q ts) (rs.length + n) listed a w := by
  simp only [pullB, stepsB, Bool.and_eq_true] at hB
  obtain ⟨⟨⟨⟨⟨⟨hsel, hs⟩, hc⟩, _⟩, hi⟩, hT⟩, hk⟩ := hB
  have inv := hinv_of hi
  clear hi
  induction rs generalizing listed a with
  | nil => rw [List.length_nil, Nat.zero_add]; exact h
  | cons k rs ih =>
    simp only [takeL, Bool.and_eq_true] at hT
    obtain ⟨⟨hr, hf⟩, hT'⟩ := hT
    simp only [List.all_cons, Bool.and_eq_true, decide_eq_true_eq, Bool.not_eq_true'] at hk
    obtain ⟨⟨hk1, hk2⟩, hk3⟩ := hk
    have hkl : k < l.length := by simpa using hk1
    have h0 : l.toArray[k]? = some (l[k]'hkl) := by simp [hkl]
    have h' : heldL P l.toArray S (fun a' => anyT P .any l.toArray Q S ts (tailL P l Q ts) n (setL (listed.setIfInBounds k true) rs) a' w) (l[k]'hkl :: opsAt l rs) a := by
      unfold opsAt at h
      rw [List.filterMap_cons, List.getElem?_eq_getElem hkl] at h
      exact h
    obtain ⟨v, hy, hK⟩ := h'
    rw [List.length_cons, show rs.length + 1 + n = (rs.length + n) + 1 by omega]
    exact anyT_first h0 (Region.noSelect_spec hsel) (fun c a w => hQ c a _ _ w) hs hc hk2 (fun listed' a' w' hL => seqL_ready hL.1) (rs.length + n) listed a w inv (Region.free_spec h0 hf) (by simpa using hr) hy hS
      (ih hK (List.all_eq_true.2 (by simpa using hk3)) hT' (inv.set (by simpa using hr) hk2))
theorem step_op {L : Array Bool → Act → World → Prop} {k f : Nat} {listed : Array Bool} {a : Act} {w : World} {o : Oper} (h0 : l[k]? = some o) (hw : Region.wanted o (yielded l.toArray a.tmps) = true)
    (h : ∀ K : Act → World → Prop, (∀ a w, S w → anyT P .any l.toArray Q S ts L f (listed.setIfInBounds k true) a w → K a w) → o.wp P a w K Q) :
    wpOp P l.toArray Q k (fun a' w' => S w' ∧ anyT P .any l.toArray Q S ts L f (listed.setIfInBounds k true) a' w') a w := by
  unfold wpOp
  simp only [List.getElem?_toArray, h0]
  rw [if_pos hw]
  exact .inl (h _ fun a w h1 h2 => ⟨h1, h2⟩)
/-- One comes next. -/
theorem anyT_one {L : Array Bool → Act → World → Prop} (k : Nat) {f : Nat} {listed : Array Bool} {a : Act} {w : World} {o : Oper} (h0 : l[k]? = some o) (hr : (Region.ready .any l.toArray listed == [k] && !inTail ts k) = true) (hw : Region.wanted o (yielded l.toArray a.tmps) = true)
    (h : ∀ K : Act → World → Prop, (∀ a w, S w → anyT P .any l.toArray Q S ts L f (listed.setIfInBounds k true) a w → K a w) → o.wp P a w K Q) : anyT P .any l.toArray Q S ts L (f + 1) listed a w := by
  simp only [Bool.and_eq_true, beq_iff_eq, Bool.not_eq_true'] at hr
  refine ⟨fun e => (by rw [hr.1] at e; cases e), fun i hi => ?_⟩
  rw [hr.1] at hi
  have : i = k := by simpa using hi
  subst this
  exact ⟨hr.2, step_op h0 hw h⟩
/-- Either of two may come next. -/
theorem anyT_two {L : Array Bool → Act → World → Prop} (k j : Nat) {f : Nat} {listed : Array Bool} {a : Act} {w : World} {o o' : Oper} (h0 : l[k]? = some o) (h0' : l[j]? = some o') (hr : (Region.ready .any l.toArray listed == [k, j] && !inTail ts k && !inTail ts j) = true)
    (hw : Region.wanted o (yielded l.toArray a.tmps) = true) (hw' : Region.wanted o' (yielded l.toArray a.tmps) = true)
    (h : ∀ K : Act → World → Prop, (∀ a w, S w → anyT P .any l.toArray Q S ts L f (listed.setIfInBounds k true) a w → K a w) → o.wp P a w K Q)
    (h' : ∀ K : Act → World → Prop, (∀ a w, S w → anyT P .any l.toArray Q S ts L f (listed.setIfInBounds j true) a w → K a w) → o'.wp P a w K Q) : anyT P .any l.toArray Q S ts L (f + 1) listed a w := by
  simp only [Bool.and_eq_true, beq_iff_eq, Bool.not_eq_true'] at hr
  refine ⟨fun e => (by rw [hr.1.1] at e; cases e), fun i hi => ?_⟩
  rw [hr.1.1] at hi
  have : i = k ∨ i = j := by simpa using hi
  rcases this with rfl | rfl
  · exact ⟨hr.1.2, step_op h0 hw h⟩
  · exact ⟨hr.2, step_op h0' hw' h'⟩
/-- The heads are done. -/
theorem anyT_done {listed : Array Bool} {a : Act} {w : World} (hB : seqL .any l.toArray ts listed = true) (h : wpList P l.toArray Q (opsAt l ts) a w) : anyT P .any l.toArray Q S ts (tailL P l Q ts) 0 listed a w := ⟨hB, h⟩
end
end Go.Proofs.Ytlipgaefflecaaa
end
