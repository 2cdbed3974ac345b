/- Make: the writes of an extent. -/
import Derived.Test.YtkbfefooaajhkaaDoorExB
set_option maxRecDepth 100000
set_option linter.unusedVariables false
set_option linter.unusedSimpArgs false
namespace Go.Proofs.YtkbfefooaajhkaaDoor
open Go.RowKit

theorem own_block' {B e s n : Nat} {a : Option Addr} {k c : Nat} {cs : List Value} {w : World} (h : w.ownsRow B e s (.slice a k c) n cs) : (Value.slice a k c).ownBlock = a.map (·.block) := by
  rcases h.2 with ⟨h1, _⟩ | ⟨g, cap, cur, h1, _⟩
  · cases h1; rfl
  · cases h1; rfl
/-- Rows of unlike types lie apart. -/
theorem own_ne {w : World} {B B' e e' s s' n n' c c' : Nat} {a a' : Option Addr} {cs cs' : List Value} (h : w.ownsRow B e s (.slice a n c) n cs) (h' : w.ownsRow B' e' s' (.slice a' n' c') n' cs') (hne : e ≠ e') : ∀ x y, a = some x → a' = some y → x.block ≠ y.block := by
  rintro x y rfl rfl
  rcases h.2 with ⟨h1, _⟩ | ⟨g, cap, cur, h1, _, hg, _⟩
  · cases h1
  · rcases h'.2 with ⟨h2, _⟩ | ⟨g', cap', cur', h2, _, hg', _⟩
    · cases h2
    · cases h1; cases h2
      intro e0
      simp only at e0
      subst e0
      rw [hg] at hg'
      simp at hg'
      exact hne hg'.2
theorem own_evol {w w' : World} {B e s n c : Nat} {a a1 ao ao' : Option Addr} {cs : List Value} (h : w.ownsRow B e s (.slice a n c) n cs) (k : Evol w ao w' ao') (hne : ∀ x y, a = some x → ao = some y → x.block ≠ y.block) : w'.ownsRow B e s (.slice a n c) n cs := by
  refine ⟨h.1, ?_⟩
  rcases h.2 with g | ⟨g, cap, cur, g1, g2, g3, g4⟩
  · exact .inl g
  · refine .inr ⟨g, cap, cur, g1, g2, ?_, g4⟩
    cases g1
    rw [k.1.block g (Array.getElem?_eq_some_iff.1 g3).1 (fun e => by
      cases ao with
      | none => cases e
      | some y => exact hne _ y rfl rfl (by simpa using e))]
    exact g3
/-- A row of writes of the call's own, and so are their values, each of its own block. -/
structure MadeW (w : World) (B : Nat) (a : Option Addr) (n c : Nat) (l : List Wr) : Prop where
  len : l.length = n
  row : ∃ cs, w.ownsRow B 33 3 (.slice a n c) n cs ∧ ∃ (A : Nat → Option Addr) (C : Nat → Nat), (∀ i, i < n → (∀ j v, (wrCells (nth l i) (A i) (C i))[j]? = some v → cs[i * 3 + j]? = some v) ∧ Own w B (A i) (nth l i).val.length (C i) (nth l i).val) ∧
    ∀ i j x y, i < j → j < n → A i = some x → A j = some y → x.block < y.block
theorem MadeW.nil (w : World) (B : Nat) : MadeW w B none 0 0 [] := ⟨rfl, [], World.ownsRow_nil w B _ _, fun _ => none, fun _ => 0, fun i hi => by omega, fun i j x y _ hj => by omega⟩
theorem MadeW.below {w w' : World} {B n c : Nat} {a : Option Addr} {l : List Wr} (h : MadeW w B a n c l) (hb : Below w.heap.size w w') : MadeW w' B a n c l := by
  obtain ⟨cs, h1, A, C, h2, h3⟩ := h.row
  exact ⟨h.len, cs, own_below h1 hb, A, C, fun i hi => ⟨(h2 i hi).1, (h2 i hi).2.below hb⟩, h3⟩
theorem MadeW.mono {w : World} {B B' n c : Nat} {a : Option Addr} {l : List Wr} (h : MadeW w B a n c l) (hB : B' ≤ B) : MadeW w B' a n c l := by
  obtain ⟨cs, h1, A, C, h2, h3⟩ := h.row
  exact ⟨h.len, cs, own_mono h1 hB, A, C, fun i hi => ⟨(h2 i hi).1, (h2 i hi).2.mono hB⟩, h3⟩
theorem MadeW.acc {w : World} {B n c : Nat} {a : Option Addr} {l : List Wr} (h : MadeW w B a n c l) : AccW w B a n c l := by
  obtain ⟨cs, h1, A, C, h2, h3⟩ := h.row
  exact ⟨h.len, cs, h1, fun i hi => ⟨A i, C i, (h2 i hi).1, (h2 i hi).2.bs, fun _ => own_ne (h2 i hi).2 h1 (by decide)⟩⟩
/-- Behind the append. -/
theorem MadeW.snoc {w0 w w' : World} {B n c c' : Nat} {a a' : Option Addr} {l : List Wr} {cs : List Value} {A : Nat → Option Addr} {C : Nat → Nat} {e : Wr} {ae : Option Addr} {ce : Nat} (hl : l.length = n)
    (h1 : w0.ownsRow B 33 3 (.slice a n c) n cs) (h2 : ∀ i, i < n → (∀ j v, (wrCells (nth l i) (A i) (C i))[j]? = some v → cs[i * 3 + j]? = some v) ∧ Own w0 B (A i) (nth l i).val.length (C i) (nth l i).val)
    (h3 : ∀ i j x y, i < j → j < n → A i = some x → A j = some y → x.block < y.block) (hb : Below w0.heap.size w0 w) (hB : B ≤ w0.heap.size)
    (he : Own w w0.heap.size ae e.val.length ce e.val) (h : w'.ownsRow B 33 3 (.slice a' (n + 1) c') (n + 1) (cs ++ wrCells e ae ce)) (hev : Evol w a w' a') : MadeW w' B a' (n + 1) c' (l ++ [e]) := by
  have hcl : cs.length = n * 3 := h1.1
  have h1w := own_below h1 hb
  refine ⟨by simp [hl], cs ++ wrCells e ae ce, h, fun i => if i < n then A i else ae, fun i => if i < n then C i else ce, fun i hi => ?_, fun i j x y hij hj hx hy => ?_⟩
  · show (∀ j v, (wrCells (nth (l ++ [e]) i) (if i < n then A i else ae) (if i < n then C i else ce))[j]? = some v → _) ∧ Own w' B (if i < n then A i else ae) _ (if i < n then C i else ce) _
    by_cases ei : i < n
    · rw [if_pos ei, if_pos ei, nth_append_left _ _ (by omega)]
      have ho := (h2 i ei).2.below hb
      refine ⟨fun j v hj => ?_, own_evol (a1 := none) ho hev (own_ne ho h1w (by decide))⟩
      rw [List.getElem?_append_left (List.getElem?_eq_some_iff.1 ((h2 i ei).1 j v hj)).1]
      exact (h2 i ei).1 j v hj
    · obtain rfl : i = n := by omega
      have en : nth (l ++ [e]) i = e := by rw [nth_eq _ (by simp; omega)]; simp [← hl]
      rw [if_neg ei, if_neg ei, en]
      refine ⟨fun j v hj => by rw [List.getElem?_append_right (by omega), hcl, Nat.add_sub_cancel_left]; exact hj, ?_⟩
      exact (own_evol (a1 := none) he hev (own_ne he h1w (by decide)) : Own _ _ _ _ _ _).mono hB
  · replace hx : (if i < n then A i else ae) = some x := hx
    replace hy : (if j < n then A j else ae) = some y := hy
    by_cases ej : j < n
    · rw [if_pos ej] at hy
      rw [if_pos (by omega)] at hx
      exact h3 i j x y hij ej hx hy
    · rw [if_neg ej] at hy
      rw [if_pos (by omega)] at hx
      have := ((h2 i (by omega)).2.new x hx).2
      have := (he.new y hy).1
      omega
section
variable {w0 w : World} {ops : Array Oper} {rest : List Oper} {o : Oper} {a : Act} {Q : Exit → Act → World → Prop}
/-- append of a write that is made. -/
theorem app_made (hgd : Region.wanted o (yielded ops a.tmps) = true) (s x : Operand) (ho : o.op = .call { callee := .builtin .append, args := #[s, x], argTypes := #[25, 25] })
    (B : Nat) {aq : Option Addr} {n c : Nat} {l : List Wr} (hs : a.eval s = .slice aq n c) (hacc : MadeW w0 B aq n c l) (hb : Below w0.heap.size w0 w) (hB : B ≤ w0.heap.size)
    {k : Nat} {e : Wr} {ae : Option Addr} {ce : Nat} (hx : a.eval x = .slice (some ⟨k, 0, none⟩) 1 1) (hcell : WrAt w k 0 e ae ce) (he : Own w w0.heap.size ae e.val.length ce e.val) (hn : n ≤ 2000000000)
    (h : ∀ a' c' w', MadeW w' B a' (n + 1) c' (l ++ [e]) → Below B w w' → Evol w aq w' a' → wpList Tryd.prog ops Q rest (a.put o.dst (.slice a' (n + 1) c')) w') : wpList Tryd.prog ops Q (o :: rest) a w := by
  obtain ⟨i, hi, h0, h1, h2⟩ := info_parts infoW
  obtain ⟨cs, hown, A, C, hA, hC⟩ := hacc.row
  have hr : Row w (some ⟨k, 0, none⟩) (wrCells e ae ce) := fun j v hj => ⟨k, 0, rfl, hcell.cells j v hj⟩
  refine wpList_app_own hgd s x 25 ho B 33 i (.agg #[.string ByteArray.empty, .bool false, .slice none 0 0]) 3 48 Tryd.underlying25 hi h0 h1 h2 rfl (by decide) aq n c cs hs (own_below hown hb) (some ⟨k, 0, none⟩) 1 1 (wrCells e ae ce) hx hr rfl (wrCells_one e ae ce) (by omega) (by simp only [maxLen]; omega) (Nat.le_trans hB hb.size) ?_
  intro a' c' w' g1 g2
  exact h a' c' w' (MadeW.snoc hacc.len hown hA hC hb hB he g1 g2) (g2.below (Nat.le_trans hB hb.size) (fun x hx => by subst hx; exact (World.ownsRow.lt hown x.block rfl).1)) g2
end
/-- One write that is written out. -/
theorem MadeW.one {w : World} {B : Nat} {e : Wr} {ae : Option Addr} {ce : Nat} {k : Nat} (hk : k = w.heap.size) (hB : B ≤ w.heap.size) (he : Own w B ae e.val.length ce e.val) :
    MadeW (w.alloc (.cells #[.string (bstr e.key), .bool e.gone, .slice ae e.val.length ce] 33)) B (some ⟨k, 0, none⟩) 1 1 [e] := by
  subst hk
  refine ⟨rfl, wrCells e ae ce, ⟨rfl, .inr ⟨w.heap.size, 1, _, rfl, hB, heap_alloc_new w _, Nat.le_refl _, by simp [maxLen], rfl, rfl⟩⟩, fun _ => ae, fun _ => ce, fun i hi => ?_, fun i j x y hij hj => by omega⟩
  obtain rfl : i = 0 := by omega
  exact ⟨fun j v hj => by rw [Nat.zero_mul, Nat.zero_add]; exact hj, he.alloc _⟩
/-! Plain. -/
def Ex.piece (data : List UInt8) (chunk k : Nat) : List UInt8 := (data.drop (k * chunk)).take chunk
def Ex.head (data : List UInt8) (chunk : Nat) : Hd := ⟨data.length, chunk, 1, Codec.sum data⟩
def Ex.cw (id : Nat) (data : List UInt8) (chunk k : Nat) : Wr := ⟨Ex.ck id k, false, Codec.four (Codec.sum (Ex.piece data chunk k)) ++ Ex.piece data chunk k⟩
def Ex.make (id : Nat) (data : List UInt8) (chunk : Nat) : List Wr := ⟨Ex.key id, false, (Ex.head data chunk).bytes⟩ :: (List.range (Ex.head data chunk).n).map (Ex.cw id data chunk)
def Ex.makeTo (id : Nat) (data : List UInt8) (chunk k : Nat) : List Wr := ⟨Ex.key id, false, (Ex.head data chunk).bytes⟩ :: (List.range k).map (Ex.cw id data chunk)
theorem makeTo_succ (id : Nat) (data : List UInt8) (chunk k : Nat) : Ex.makeTo id data chunk (k + 1) = Ex.makeTo id data chunk k ++ [Ex.cw id data chunk k] := by
  unfold Ex.makeTo; rw [List.range_succ, List.map_append]; rfl
theorem n_mul {size chunk k : Nat} (hc : 1 ≤ chunk) (h : k < (size + chunk - 1) / chunk) : k * chunk < size := by
  rw [Nat.lt_div_iff_mul_lt hc] at h
  omega
theorem low_nat {k : Nat} (h : k < 4294967296) : Ex.low (k : Int) = k := by unfold Ex.low; omega
/-- Rows of writes told with a number. -/
def RetW (l : List Wr) (er : Int) (w : World) (e : Ending) (w' : World) : Prop := ∃ a n c, e = .returned (.tuple #[.slice a n c, .int .i64 er]) ∧ MadeW w' w.heap.size a n c l ∧ Below w.heap.size w w'
end Go.Proofs.YtkbfefooaajhkaaDoor
