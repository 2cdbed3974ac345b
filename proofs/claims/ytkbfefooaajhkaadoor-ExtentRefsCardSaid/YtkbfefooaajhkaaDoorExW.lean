/- Rows of writes that are read, and that a call owns. -/
import Derived.Test.YtkbfefooaajhkaaDoorXdE
import Derived.Test.YtkbfefooaajhkaaDoorRound
set_option maxRecDepth 100000
set_option linter.unusedVariables false
set_option linter.unusedSimpArgs false
namespace Go.Proofs.YtkbfefooaajhkaaDoor
open Go.RowKit

/-- A write: the key's bytes, whether it is gone, the value's bytes. -/
structure Wr where
  key : List UInt8
  gone : Bool
  val : List UInt8
instance : Inhabited Wr := ⟨⟨[], false, []⟩⟩
theorem Wr.ext' {a b : Wr} (h1 : a.key = b.key) (h3 : a.gone = b.gone) (h4 : a.val = b.val) : a = b := by cases a; cases b; simp_all
instance : DecidableEq Wr := fun a b => decidable_of_iff (a.key = b.key ∧ a.gone = b.gone ∧ a.val = b.val) ⟨fun h => Wr.ext' h.1 h.2.1 h.2.2, fun h => by subst h; exact ⟨rfl, rfl, rfl⟩⟩
/-- A write as a value. -/
def wv (e : Wr) (a : Option Addr) (c : Nat) : Value := .agg #[.string (bstr e.key), .bool e.gone, .slice a e.val.length c]
theorem load_wr (w : World) (e : Wr) (a : Option Addr) (c : Nat) : True := trivial
/-- The cells of a write. -/
structure WrAt (w : World) (b o : Nat) (e : Wr) (a : Option Addr) (c : Nat) : Prop where
  key : w.cell? ⟨b, o, none⟩ = some (.string (bstr e.key))
  gone : w.cell? ⟨b, o + 1, none⟩ = some (.bool e.gone)
  val : w.cell? ⟨b, o + 2, none⟩ = some (.slice a e.val.length c)
theorem WrAt.below {w w' : World} {b o : Nat} {e : Wr} {a : Option Addr} {c : Nat} (h : WrAt w b o e a c) (k : Below w.heap.size w w') : WrAt w' b o e a c :=
  ⟨cell_later k h.key, cell_later k h.gone, cell_later k h.val⟩
/-- A slice of writes that is read. -/
def Ws (w : World) (a : Option Addr) (n c : Nat) (l : List Wr) : Prop :=
  l.length = n ∧ n ≤ c ∧ c ≤ maxLen ∧ ∀ i, i < n → ∃ b off ai ci, a = some ⟨b, off, none⟩ ∧ WrAt w b (off + i * 3) (nth l i) ai ci ∧ Bs w ai (nth l i).val.length ci (nth l i).val
theorem Ws.below {w w' : World} {a : Option Addr} {n c : Nat} {l : List Wr} (h : Ws w a n c l) (k : Below w.heap.size w w') : Ws w' a n c l :=
  ⟨h.1, h.2.1, h.2.2.1, fun i hi => by obtain ⟨b, off, ai, ci, h1, h2, h3⟩ := h.2.2.2 i hi; exact ⟨b, off, ai, ci, h1, h2.below k, h3.below k⟩⟩
theorem Ws.le {w : World} {a : Option Addr} {n c : Nat} {l : List Wr} (h : Ws w a n c l) : n ≤ 9223372036854775807 ∧ c ≤ 9223372036854775807 := by
  have := h.2.1; have := h.2.2.1; simp only [maxLen] at *; omega
theorem Ws.nil (w : World) : Ws w none 0 0 [] := ⟨rfl, Nat.le_refl _, by simp [maxLen], fun i hi => by omega⟩

theorem Ws.vals {w : World} {a : Option Addr} {n c : Nat} {l : List Wr} (h : Ws w a n c l) {i : Nat} (hi : i < n) :
    ∃ b off ai ci, a = some ⟨b, off, none⟩ ∧ WrAt w b (off + i * 3) (nth l i) ai ci ∧ Bs w ai (nth l i).val.length ci (nth l i).val := h.2.2.2 i hi
theorem wr_ext_nth {l m : List Wr} (hl : l.length = m.length) (h : ∀ k, k < l.length → nth l k = nth m k) : l = m := by
  apply List.ext_getElem hl
  intro i h1 h2
  have := h i h1
  rwa [nth_eq _ h1, nth_eq _ h2] at this
theorem own_keep {w w' : World} {B e s n : Nat} {v : Value} {cs : List Value} (h : w.ownsRow B e s v n cs) (hb : ∀ g, B ≤ g → w'.heap[g]? = w.heap[g]?) : w'.ownsRow B e s v n cs := by
  refine ⟨h.1, ?_⟩
  rcases h.2 with h | ⟨g, cap, cur, h1, h2, h3, h4⟩
  · exact .inl h
  · exact .inr ⟨g, cap, cur, h1, h2, by rw [hb g h2]; exact h3, h4⟩
theorem infoW : (Tryd.prog.info? 33).map (fun i => (i.zero, i.size, i.bytes)) = some (some (.agg #[.string ByteArray.empty, .bool false, .slice none 0 0]), 3, 48) := by kernel_rfl
def wrCells (e : Wr) (a : Option Addr) (c : Nat) : List Value := [.string (bstr e.key), .bool e.gone, .slice a e.val.length c]
theorem wrCells_one (e : Wr) (a : Option Addr) (c : Nat) : ∀ u ∈ wrCells e a c, u.oneCell' = true := by
  intro u hu
  simp only [wrCells, List.mem_cons, List.not_mem_nil, or_false] at hu
  rcases hu with rfl | rfl | rfl <;> rfl
theorem WrAt.cells {w : World} {b o : Nat} {e : Wr} {a : Option Addr} {c : Nat} (h : WrAt w b o e a c) : ∀ j v, (wrCells e a c)[j]? = some v → w.cell? ⟨b, o + j, none⟩ = some v := by
  intro j v hj
  match j, hj with
  | 0, hj => cases hj; exact h.key
  | 1, hj => cases hj; exact h.gone
  | 2, hj => cases hj; exact h.val
  | j + 3, hj => simp [wrCells] at hj
theorem WrAt.of_cells {w : World} {b o : Nat} {e : Wr} {a : Option Addr} {c : Nat} (h : ∀ j v, (wrCells e a c)[j]? = some v → w.cell? ⟨b, o + j, none⟩ = some v) : WrAt w b o e a c := ⟨h 0 _ rfl, h 1 _ rfl, h 2 _ rfl⟩
/-- What is known of a write's cells within a row: its value's bytes lie elsewhere. -/
def WrIn (w : World) (a : Option Addr) (cs : List Value) (i : Nat) (e : Wr) : Prop :=
  ∃ ai ci, (∀ j v, (wrCells e ai ci)[j]? = some v → cs[i * 3 + j]? = some v) ∧ Bs w ai e.val.length ci e.val ∧ (0 < e.val.length → ∀ x y, ai = some x → a = some y → x.block ≠ y.block)
/-- A row of writes that is the call's own. -/
structure AccW (w : World) (B : Nat) (a : Option Addr) (n c : Nat) (l : List Wr) : Prop where
  len : l.length = n
  row : ∃ cs, w.ownsRow B 33 3 (.slice a n c) n cs ∧ ∀ i, i < n → WrIn w a cs i (nth l i)
theorem AccW.nil (w : World) (B : Nat) : AccW w B none 0 0 [] := ⟨rfl, [], World.ownsRow_nil w B _ _, fun i hi => by omega⟩
theorem AccW.below {w w' : World} {B n c : Nat} {a : Option Addr} {l : List Wr} (h : AccW w B a n c l) (hb : Below w.heap.size w w') : AccW w' B a n c l := by
  obtain ⟨cs, h1, h2⟩ := h.row
  exact ⟨h.len, cs, own_below h1 hb, fun i hi => by obtain ⟨ai, ci, g1, g2, g3⟩ := h2 i hi; exact ⟨ai, ci, g1, g2.below hb, g3⟩⟩
theorem AccW.mono {w : World} {B B' n c : Nat} {a : Option Addr} {l : List Wr} (h : AccW w B a n c l) (hB : B' ≤ B) : AccW w B' a n c l := by
  obtain ⟨cs, h1, h2⟩ := h.row
  exact ⟨h.len, cs, own_mono h1 hB, h2⟩
theorem AccW.cap {w : World} {B n c : Nat} {a : Option Addr} {l : List Wr} (h : AccW w B a n c l) : n ≤ c ∧ c ≤ maxLen := by
  obtain ⟨cs, h1, _⟩ := h.row
  exact (own_cap h1).2
theorem AccW.new {w : World} {B n c : Nat} {a : Option Addr} {l : List Wr} (h : AccW w B a n c l) : ∀ z, a = some z → B ≤ z.block ∧ z.block < w.heap.size := by
  obtain ⟨cs, h1, _⟩ := h.row
  intro z hz
  subst hz
  exact World.ownsRow.lt h1 z.block rfl
theorem AccW.ws {w : World} {B n c : Nat} {a : Option Addr} {l : List Wr} (h : AccW w B a n c l) : Ws w a n c l := by
  obtain ⟨cs, h1, h2⟩ := h.row
  refine ⟨h.len, h.cap.1, h.cap.2, fun i hi => ?_⟩
  obtain ⟨ai, ci, g1, g2, _⟩ := h2 i hi
  have hr := Row.of_own h1
  obtain ⟨b, off, rfl, k0⟩ := hr (i * 3 + 0) _ (g1 0 _ rfl)
  refine ⟨b, off, ai, ci, rfl, WrAt.of_cells fun j v hj => ?_, g2⟩
  obtain ⟨b', off', e, k⟩ := hr (i * 3 + j) v (g1 j v hj)
  cases e
  rw [Nat.add_assoc]
  exact k
theorem WrIn.step {w w' : World} {a a' : Option Addr} {cs cs2 : List Value} {i : Nat} {e : Wr} (h : WrIn w a cs i e) (hev : Evol w a w' a') : WrIn w' a' (cs ++ cs2) i e := by
  obtain ⟨ai, ci, g1, g2, g3⟩ := h
  refine ⟨ai, ci, fun j v hj => ?_, g2.evol hev g3, fun h0 x y hx hy e => ?_⟩
  · have := g1 j v hj
    rw [List.getElem?_append_left (List.getElem?_eq_some_iff.1 this).1]
    exact this
  · have hold := g2.old h0 x hx
    rcases hev.2 y hy with k1 | k1
    · cases a with
      | none => cases k1
      | some z =>
        have k2 : z.block = y.block := by simpa using k1
        exact g3 h0 x z hx rfl (by rw [e, k2])
    · omega
/-- Behind the append. -/
theorem AccW.snoc {w w' : World} {B n c c' : Nat} {a a' : Option Addr} {l : List Wr} {cs : List Value} {e : Wr} {ae : Option Addr} {ce : Nat}
    (hl : l.length = n) (h1 : w.ownsRow B 33 3 (.slice a n c) n cs) (h2 : ∀ i, i < n → WrIn w a cs i (nth l i))
    (he : Bs w ae e.val.length ce e.val) (hne : 0 < e.val.length → ∀ x y, ae = some x → a = some y → x.block ≠ y.block)
    (h : w'.ownsRow B 33 3 (.slice a' (n + 1) c') (n + 1) (cs ++ wrCells e ae ce)) (hev : Evol w a w' a') : AccW w' B a' (n + 1) c' (l ++ [e]) := by
  have hcl : cs.length = n * 3 := h1.1
  refine ⟨by simp [hl], cs ++ wrCells e ae ce, h, fun i hi => ?_⟩
  by_cases ei : i = n
  · subst ei
    have h3 : WrIn w a (cs ++ wrCells e ae ce) i e := ⟨ae, ce, fun j v hj => by rw [List.getElem?_append_right (by omega), hcl, Nat.add_sub_cancel_left]; exact hj, he, hne⟩
    have := h3.step (cs2 := []) hev
    rw [List.append_nil] at this
    rw [nth_eq _ (by simp; omega)]
    simpa [hl] using this
  · rw [nth_append_left _ _ (by omega)]
    exact (h2 i (by omega)).step hev
section
variable {w : World} {ops : Array Oper} {rest : List Oper} {o : Oper} {a : Act} {Q : Exit → Act → World → Prop}
/-- append of one entry. -/
theorem app_wr (hgd : Region.wanted o (yielded ops a.tmps) = true) (s x : Operand) (ho : o.op = .call { callee := .builtin .append, args := #[s, x], argTypes := #[25, 25] })
    (B : Nat) {aq : Option Addr} {n c : Nat} {l : List Wr} (hs : a.eval s = .slice aq n c) (hacc : AccW w B aq n c l)
    {k : Nat} {e : Wr} {ae : Option Addr} {ce : Nat} (hx : a.eval x = .slice (some ⟨k, 0, none⟩) 1 1) (hcell : WrAt w k 0 e ae ce) (he : Bs w ae e.val.length ce e.val)
    (hne : 0 < e.val.length → ∀ x y, ae = some x → aq = some y → x.block ≠ y.block) (hb : n ≤ 1000000000) (hB : B ≤ w.heap.size)
    (h : ∀ a' c' w', AccW w' B a' (n + 1) c' (l ++ [e]) → Below B w w' → Evol w aq w' a' → wpList Tryd.prog ops Q rest (a.put o.dst (.slice a' (n + 1) c')) w') : wpList Tryd.prog ops Q (o :: rest) a w := by
  obtain ⟨i, hi, h0, h1, h2⟩ := info_parts infoW
  obtain ⟨cs, hown, hin⟩ := hacc.row
  have hr : Row w (some ⟨k, 0, none⟩) (wrCells e ae ce) := fun j v hj => ⟨k, 0, rfl, hcell.cells j v hj⟩
  refine wpList_app_own hgd s x 25 ho B 33 i (.agg #[.string ByteArray.empty, .bool false, .slice none 0 0]) 3 48 Tryd.underlying25 hi h0 h1 h2 rfl (by decide) aq n c cs hs hown (some ⟨k, 0, none⟩) 1 1 (wrCells e ae ce) hx hr rfl (wrCells_one e ae ce) (by omega) (by simp only [maxLen]; omega) hB ?_
  intro a' c' w' g1 g2
  exact h a' c' w' (AccW.snoc hacc.len hown hin he hne g1 g2) (g2.below hB (fun x hx => by subst hx; exact (World.ownsRow.lt hown x.block rfl).1)) g2
end

end Go.Proofs.YtkbfefooaajhkaaDoor
