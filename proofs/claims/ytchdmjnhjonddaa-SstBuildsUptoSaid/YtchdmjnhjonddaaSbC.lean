/- Sorted tables: eight bytes of a number; rows of blocks; the index. -/
import Derived.Test.YtchdmjnhjonddaaSbB
set_option maxRecDepth 100000
set_option linter.unusedVariables false
set_option linter.unusedSimpArgs false
namespace Go.Proofs.Ytchdmjnhjonddaa
open Go.RowKit

/-! eight -/
theorem low_snoc : ∀ (k v : Nat), Codec.low (k + 1) v = Codec.low k v ++ [UInt8.ofNat (v / 256 ^ k)]
  | 0, v => by simp [Codec.low]
  | k + 1, v => by
    have h := low_snoc k (v / 256)
    rw [show Codec.low (k + 1 + 1) v = UInt8.ofNat v :: Codec.low (k + 1) (v / 256) from rfl, h]
    rw [show Codec.low (k + 1) v = UInt8.ofNat v :: Codec.low k (v / 256) from rfl, List.cons_append, Nat.div_div_eq_div_mul, Nat.pow_succ, Nat.mul_comm]
/-! Rows whose elements are plain cells. -/
structure Cel (α : Type) where
  f : α → List Value
  s : Nat
  len : ∀ x, (f x).length = s
  one : ∀ x, ∀ u ∈ f x, u.oneCell' = true
theorem flat_at {α : Type} [Inhabited α] (C : Cel α) : ∀ (l : List α) (i j : Nat), i < l.length → j < C.s → (l.flatMap C.f)[i * C.s + j]? = (C.f (nth l i))[j]?
  | [], i, j, h, _ => by simp at h
  | x :: l, 0, j, _, hj => by
    rw [List.flatMap_cons, Nat.zero_mul, Nat.zero_add, List.getElem?_append_left (by rw [C.len]; exact hj)]
    rfl
  | x :: l, i + 1, j, h, hj => by
    rw [List.flatMap_cons, List.getElem?_append_right (by rw [C.len, Nat.succ_mul]; omega), C.len, show (i + 1) * C.s + j - C.s = i * C.s + j by rw [Nat.succ_mul]; omega, flat_at C l i j (by simpa using h) hj]
    rfl
theorem flat_len {α : Type} (C : Cel α) (l : List α) : (l.flatMap C.f).length = l.length * C.s := by
  induction l with
  | nil => simp
  | cons x l ih => rw [List.flatMap_cons, List.length_append, ih, C.len, List.length_cons, Nat.succ_mul]; omega
def Acc {α : Type} (C : Cel α) (T : TypeId) (w : World) (B : Nat) (a : Option Addr) (n c : Nat) (l : List α) : Prop := l.length = n ∧ w.ownsRow B T C.s (.slice a n c) n (l.flatMap C.f)
theorem Acc.nil {α : Type} (C : Cel α) (T : TypeId) (w : World) (B : Nat) : Acc C T w B none 0 0 [] := ⟨rfl, World.ownsRow_nil w B _ _⟩
theorem Acc.below {α : Type} {C : Cel α} {T : TypeId} {w w' : World} {B : Nat} {a : Option Addr} {n c : Nat} {l : List α} (h : Acc C T w B a n c l) (k : Below w.heap.size w w') : Acc C T w' B a n c l := ⟨h.1, own_below h.2 k⟩
theorem Acc.mono {α : Type} {C : Cel α} {T : TypeId} {w : World} {B B' : Nat} {a : Option Addr} {n c : Nat} {l : List α} (h : Acc C T w B a n c l) (k : B' ≤ B) : Acc C T w B' a n c l := ⟨h.1, own_mono h.2 k⟩
theorem Acc.new {α : Type} {C : Cel α} {T : TypeId} {w : World} {B : Nat} {a : Option Addr} {n c : Nat} {l : List α} (h : Acc C T w B a n c l) : ∀ z, a = some z → B ≤ z.block ∧ z.block < w.heap.size := by
  intro z hz
  subst hz
  exact World.ownsRow.lt h.2 z.block rfl
/-- A row of plain cells that is read. -/
def Rd {α : Type} [Inhabited α] (C : Cel α) (w : World) (a : Option Addr) (n c : Nat) (l : List α) : Prop := l.length = n ∧ n ≤ c ∧ c ≤ maxLen ∧ ∀ i, i < n → ∃ b off, a = some ⟨b, off, none⟩ ∧ ∀ j v, (C.f (nth l i))[j]? = some v → w.cell? ⟨b, off + i * C.s + j, none⟩ = some v
theorem Rd.below {α : Type} [Inhabited α] {C : Cel α} {w w' : World} {a : Option Addr} {n c : Nat} {l : List α} (h : Rd C w a n c l) (k : Below w.heap.size w w') : Rd C w' a n c l :=
  ⟨h.1, h.2.1, h.2.2.1, fun i hi => by obtain ⟨b, off, e, g⟩ := h.2.2.2 i hi; exact ⟨b, off, e, fun j v hj => cell_later k (g j v hj)⟩⟩
theorem Acc.rd {α : Type} [Inhabited α] {C : Cel α} {T : TypeId} {w : World} {B : Nat} {a : Option Addr} {n c : Nat} {l : List α} (hs : 0 < C.s) (h : Acc C T w B a n c l) : Rd C w a n c l := by
  refine ⟨h.1, (own_cap h.2).2.1, (own_cap h.2).2.2, fun i hi => ?_⟩
  have hr := Row.of_own h.2
  have hil : i < l.length := by rw [h.1]; exact hi
  have h0 : ∃ v0, (C.f (nth l i))[0]? = some v0 := ⟨_, List.getElem?_eq_getElem (by rw [C.len]; exact hs)⟩
  obtain ⟨v0, h0⟩ := h0
  obtain ⟨b, off, rfl, _⟩ := hr (i * C.s + 0) v0 (by rw [flat_at C l i 0 hil hs]; exact h0)
  refine ⟨b, off, rfl, fun j v hj => ?_⟩
  have hjs : j < C.s := by have := (List.getElem?_eq_some_iff.1 hj).1; rw [C.len] at this; exact this
  obtain ⟨b', off', e, g⟩ := hr (i * C.s + j) v (by rw [flat_at C l i j hil hjs]; exact hj)
  cases e
  rw [Nat.add_assoc]
  exact g
section
variable {α : Type} {w : World} {ops : Array Oper} {rest : List Oper} {o : Oper} {a : Act} {Q : Exit → Act → World → Prop}
/-- append of one element. -/
theorem app_cel (C : Cel α) (hgd : Region.wanted o (yielded ops a.tmps) = true) (s x : Operand) (t T : TypeId) (ho : o.op = .call { callee := .builtin .append, args := #[s, x], argTypes := #[t, t] })
    (ht : Try.prog.underlying t = some (.slice T)) {z : Value} {by_ : Nat} (hi : (Try.prog.info? T).map (fun i => (i.zero, i.size, i.bytes)) = some (some z, C.s, by_)) (hz : z.cells.size = C.s) (hs0 : 0 < C.s) (hby : by_ ≤ 100)
    (B : Nat) {aq : Option Addr} {n c : Nat} {l : List α} (hs : a.eval s = .slice aq n c) (hacc : Acc C T w B aq n c l)
    {k : Nat} {e : α} (hx : a.eval x = .slice (some ⟨k, 0, none⟩) 1 1) (hcell : ∀ j v, (C.f e)[j]? = some v → w.cell? ⟨k, j, none⟩ = some v) (hb : n ≤ 1000000000) (hB : B ≤ w.heap.size)
    (h : ∀ a' c' w', Acc C T w' B a' (n + 1) c' (l ++ [e]) → Below B w w' → Evol w aq w' a' → wpList Try.prog ops Q rest (a.put o.dst (.slice a' (n + 1) c')) w') : wpList Try.prog ops Q (o :: rest) a w := by
  obtain ⟨i, hi', h0, h1, h2⟩ := info_parts hi
  have hr : Row w (some ⟨k, 0, none⟩) (C.f e) := fun j v hj => ⟨k, 0, rfl, by rw [Nat.zero_add]; exact hcell j v hj⟩
  refine wpList_app_own hgd s x t ho B T i z C.s by_ ht hi' h0 h1 h2 hz hs0 aq n c (l.flatMap C.f) hs hacc.2 (some ⟨k, 0, none⟩) 1 1 (C.f e) hx hr (by rw [C.len]; omega) (C.one e) ?_ (by simp only [maxLen]; omega) hB ?_
  · have := Nat.mul_le_mul (show n + 1 ≤ 1000000001 by omega) hby
    omega
  intro a' c' w' g1 g2
  exact h a' c' w' ⟨by simp [hacc.1], by rw [List.flatMap_append]; simpa using g1⟩ (g2.below hB (fun x hx => by subst hx; exact (World.ownsRow.lt hacc.2 x.block rfl).1)) g2
end
/-- A block: its first key, where it begins, how long it is. -/
structure Bk where
  first : List UInt8
  pos : Nat
  len : Nat
instance : Inhabited Bk := ⟨⟨[], 0, 0⟩⟩
def celB : Cel Bk := ⟨fun b => [.string (bstr b.first), .int .i64 b.pos, .int .i64 b.len], 3, fun _ => rfl, fun x u hu => by
  simp only [List.mem_cons, List.not_mem_nil, or_false] at hu
  rcases hu with rfl | rfl | rfl <;> rfl⟩
def celR : Cel Bk := ⟨fun b => [.int .i64 b.pos, .int .i64 b.len, .string (bstr b.first)], 3, fun _ => rfl, fun x u hu => by
  simp only [List.mem_cons, List.not_mem_nil, or_false] at hu
  rcases hu with rfl | rfl | rfl <;> rfl⟩
theorem infoBk : (Try.prog.info? 88).map (fun i => (i.zero, i.size, i.bytes)) = some (some (.agg #[.string ByteArray.empty, .int .i64 0, .int .i64 0]), 3, 32) := by kernel_rfl
theorem infoBr : (Try.prog.info? 97).map (fun i => (i.zero, i.size, i.bytes)) = some (some (.agg #[.int .i64 0, .int .i64 0, .string ByteArray.empty]), 3, 32) := by kernel_rfl
/-! The index, plain. -/
def Sst.ix (b : Bk) : List UInt8 := Sst.lp b.first ++ Codec.enc b.pos ++ Codec.enc b.len
def Sst.index (l : List Bk) : List UInt8 := (l.map Sst.ix).flatten
theorem index_snoc (l : List Bk) {i : Nat} (hi : i < l.length) : Sst.index (l.take (i + 1)) = Sst.index (l.take i) ++ Sst.ix (nth l i) := by
  unfold Sst.index; rw [take_snoc l hi]; simp
/-- Blocks that are not too great. -/
def BkOk (l : List Bk) : Prop := ∀ b ∈ l, b.first.length ≤ 100000 ∧ b.pos ≤ 1000000000 ∧ b.len ≤ 1000000000
theorem BkOk.at {l : List Bk} (h : BkOk l) {i : Nat} (hi : i < l.length) : (nth l i).first.length ≤ 100000 ∧ (nth l i).pos ≤ 1000000000 ∧ (nth l i).len ≤ 1000000000 := by rw [nth_eq _ hi]; exact h _ (List.getElem_mem _)
theorem ix_len {b : Bk} (h : b.first.length ≤ 100000 ∧ b.pos ≤ 1000000000 ∧ b.len ≤ 1000000000) : (Sst.ix b).length ≤ 100030 := by
  have h1 := Codec.enc_len10 (v := b.first.length) (by omega)
  have h2 := Codec.enc_len10 (v := b.pos) (by omega)
  have h3 := Codec.enc_len10 (v := b.len) (by omega)
  unfold Sst.ix Sst.lp
  simp only [List.length_append]
  omega
theorem index_len {l : List Bk} (h : BkOk l) : ∀ i, i ≤ l.length → (Sst.index (l.take i)).length ≤ i * 100030
  | 0, _ => by simp [Sst.index]
  | i + 1, hi => by
    rw [index_snoc l (by omega), List.length_append]
    have h1 := index_len h i (by omega)
    have h2 := ix_len (h.at (i := i) (by omega))
    omega
end Go.Proofs.Ytchdmjnhjonddaa
