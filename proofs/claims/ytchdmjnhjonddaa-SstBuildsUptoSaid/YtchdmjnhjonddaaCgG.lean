/- Rows of entries that a call owns and appends to; boxes. -/
import Derived.Test.YtchdmjnhjonddaaCgC
import Derived.Test.YtchdmjnhjonddaaRound
set_option maxRecDepth 100000
set_option linter.unusedSimpArgs false
namespace Go.Proofs.Ytchdmjnhjonddaa
open Go.RowKit
set_option linter.unusedVariables false

theorem own_keep {w w' : World} {B e s n : Nat} {v : Value} {cs : List Value} (h : w.ownsRow B e s v n cs) (hb : ∀ g, B ≤ g → w'.heap[g]? = w.heap[g]?) : w'.ownsRow B e s v n cs := by
  refine ⟨h.1, ?_⟩
  rcases h.2 with h | ⟨g, cap, cur, h1, h2, h3, h4⟩
  · exact .inl h
  · exact .inr ⟨g, cap, cur, h1, h2, by rw [hb g h2]; exact h3, h4⟩
theorem infoE : (Try.prog.info? 61).map (fun i => (i.zero, i.size, i.bytes)) = some (some (.agg #[.string ByteArray.empty, .int .u64 0, .bool false, .slice none 0 0]), 4, 56) := by kernel_rfl
def entCells (e : Ent) (a : Option Addr) (c : Nat) : List Value := [.string (bstr e.key), .int .u64 e.seq, .bool e.gone, .slice a e.val.length c]
theorem entCells_one (e : Ent) (a : Option Addr) (c : Nat) : ∀ u ∈ entCells e a c, u.oneCell' = true := by
  intro u hu
  simp only [entCells, List.mem_cons, List.not_mem_nil, or_false] at hu
  rcases hu with rfl | rfl | rfl | rfl <;> rfl
theorem EntAt.cells {w : World} {b o : Nat} {e : Ent} {a : Option Addr} {c : Nat} (h : EntAt w b o e a c) : ∀ j v, (entCells e a c)[j]? = some v → w.cell? ⟨b, o + j, none⟩ = some v := by
  intro j v hj
  match j, hj with
  | 0, hj => cases hj; exact h.key
  | 1, hj => cases hj; exact h.seq
  | 2, hj => cases hj; exact h.gone
  | 3, hj => cases hj; exact h.val
  | j + 4, hj => simp [entCells] at hj
theorem EntAt.of_cells {w : World} {b o : Nat} {e : Ent} {a : Option Addr} {c : Nat} (h : ∀ j v, (entCells e a c)[j]? = some v → w.cell? ⟨b, o + j, none⟩ = some v) : EntAt w b o e a c := ⟨h 0 _ rfl, h 1 _ rfl, h 2 _ rfl, h 3 _ rfl⟩
/-- What is known of an entry's cells within a row: its value's bytes lie elsewhere. -/
def EntIn (w : World) (a : Option Addr) (cs : List Value) (i : Nat) (e : Ent) : Prop :=
  ∃ ai ci, (∀ j v, (entCells e ai ci)[j]? = some v → cs[i * 4 + j]? = some v) ∧ Bs w ai e.val.length ci e.val ∧ (0 < e.val.length → ∀ x y, ai = some x → a = some y → x.block ≠ y.block)
/-- A row of entries that is the call's own. -/
structure AccE (w : World) (B : Nat) (a : Option Addr) (n c : Nat) (l : List Ent) : Prop where
  len : l.length = n
  row : ∃ cs, w.ownsRow B 61 4 (.slice a n c) n cs ∧ ∀ i, i < n → EntIn w a cs i (nth l i)
theorem AccE.nil (w : World) (B : Nat) : AccE w B none 0 0 [] := ⟨rfl, [], World.ownsRow_nil w B _ _, fun i hi => by omega⟩
theorem AccE.below {w w' : World} {B n c : Nat} {a : Option Addr} {l : List Ent} (h : AccE w B a n c l) (hb : Below w.heap.size w w') : AccE w' B a n c l := by
  obtain ⟨cs, h1, h2⟩ := h.row
  exact ⟨h.len, cs, own_below h1 hb, fun i hi => by obtain ⟨ai, ci, g1, g2, g3⟩ := h2 i hi; exact ⟨ai, ci, g1, g2.below hb, g3⟩⟩
theorem AccE.mono {w : World} {B B' n c : Nat} {a : Option Addr} {l : List Ent} (h : AccE w B a n c l) (hB : B' ≤ B) : AccE w B' a n c l := by
  obtain ⟨cs, h1, h2⟩ := h.row
  exact ⟨h.len, cs, own_mono h1 hB, h2⟩
theorem AccE.cap {w : World} {B n c : Nat} {a : Option Addr} {l : List Ent} (h : AccE w B a n c l) : n ≤ c ∧ c ≤ maxLen := by
  obtain ⟨cs, h1, _⟩ := h.row
  exact (own_cap h1).2
theorem AccE.new {w : World} {B n c : Nat} {a : Option Addr} {l : List Ent} (h : AccE w B a n c l) : ∀ z, a = some z → B ≤ z.block ∧ z.block < w.heap.size := by
  obtain ⟨cs, h1, _⟩ := h.row
  intro z hz
  subst hz
  exact World.ownsRow.lt h1 z.block rfl
theorem AccE.es {w : World} {B n c : Nat} {a : Option Addr} {l : List Ent} (h : AccE w B a n c l) : Es w a n c l := by
  obtain ⟨cs, h1, h2⟩ := h.row
  refine ⟨h.len, h.cap.1, h.cap.2, fun i hi => ?_⟩
  obtain ⟨ai, ci, g1, g2, _⟩ := h2 i hi
  have hr := Row.of_own h1
  obtain ⟨b, off, rfl, k0⟩ := hr (i * 4 + 0) _ (g1 0 _ rfl)
  refine ⟨b, off, ai, ci, rfl, EntAt.of_cells fun j v hj => ?_, g2⟩
  obtain ⟨b', off', e, k⟩ := hr (i * 4 + j) v (g1 j v hj)
  cases e
  rw [Nat.add_assoc]
  exact k
theorem EntIn.step {w w' : World} {a a' : Option Addr} {cs cs2 : List Value} {i : Nat} {e : Ent} (h : EntIn w a cs i e) (hev : Evol w a w' a') : EntIn w' a' (cs ++ cs2) i e := by
  obtain ⟨ai, ci, g1, g2, g3⟩ := h
  refine ⟨ai, ci, fun j v hj => ?_, g2.evol hev g3, fun h0 x y hx hy e => ?_⟩
  · have := g1 j v hj
    rw [List.getElem?_append_left (List.getElem?_eq_some_iff.1 this).1]
    exact this
  · have hold := g2.old h0 x hx
    rcases hev.2 y hy with k1 | k1
    · cases a with
      | none => cases k1
      | some z =>
        have k2 : z.block = y.block := by simpa using k1
        exact g3 h0 x z hx rfl (by rw [e, k2])
    · omega
/-- Behind the append. -/
theorem AccE.snoc {w w' : World} {B n c c' : Nat} {a a' : Option Addr} {l : List Ent} {cs : List Value} {e : Ent} {ae : Option Addr} {ce : Nat}
    (hl : l.length = n) (h1 : w.ownsRow B 61 4 (.slice a n c) n cs) (h2 : ∀ i, i < n → EntIn w a cs i (nth l i))
    (he : Bs w ae e.val.length ce e.val) (hne : 0 < e.val.length → ∀ x y, ae = some x → a = some y → x.block ≠ y.block)
    (h : w'.ownsRow B 61 4 (.slice a' (n + 1) c') (n + 1) (cs ++ entCells e ae ce)) (hev : Evol w a w' a') : AccE w' B a' (n + 1) c' (l ++ [e]) := by
  have hcl : cs.length = n * 4 := h1.1
  refine ⟨by simp [hl], cs ++ entCells e ae ce, h, fun i hi => ?_⟩
  by_cases ei : i = n
  · subst ei
    have h3 : EntIn w a (cs ++ entCells e ae ce) i e := ⟨ae, ce, fun j v hj => by rw [List.getElem?_append_right (by omega), hcl, Nat.add_sub_cancel_left]; exact hj, he, hne⟩
    have := h3.step (cs2 := []) hev
    rw [List.append_nil] at this
    rw [nth_eq _ (by simp; omega)]
    simpa [hl] using this
  · rw [nth_append_left _ _ (by omega)]
    exact (h2 i (by omega)).step hev
section
variable {w : World} {ops : Array Oper} {rest : List Oper} {o : Oper} {a : Act} {Q : Exit → Act → World → Prop}
/-- append of one entry. -/
theorem app_ent (hgd : Region.wanted o (yielded ops a.tmps) = true) (s x : Operand) (ho : o.op = .call { callee := .builtin .append, args := #[s, x], argTypes := #[33, 33] })
    (B : Nat) {aq : Option Addr} {n c : Nat} {l : List Ent} (hs : a.eval s = .slice aq n c) (hacc : AccE w B aq n c l)
    {k : Nat} {e : Ent} {ae : Option Addr} {ce : Nat} (hx : a.eval x = .slice (some ⟨k, 0, none⟩) 1 1) (hcell : EntAt w k 0 e ae ce) (he : Bs w ae e.val.length ce e.val)
    (hne : 0 < e.val.length → ∀ x y, ae = some x → aq = some y → x.block ≠ y.block) (hb : n ≤ 1000000000) (hB : B ≤ w.heap.size)
    (h : ∀ a' c' w', AccE w' B a' (n + 1) c' (l ++ [e]) → Below B w w' → Evol w aq w' a' → wpList Try.prog ops Q rest (a.put o.dst (.slice a' (n + 1) c')) w') : wpList Try.prog ops Q (o :: rest) a w := by
  obtain ⟨i, hi, h0, h1, h2⟩ := info_parts infoE
  obtain ⟨cs, hown, hin⟩ := hacc.row
  have hr : Row w (some ⟨k, 0, none⟩) (entCells e ae ce) := fun j v hj => ⟨k, 0, rfl, hcell.cells j v hj⟩
  refine wpList_app_own hgd s x 33 ho B 61 i (.agg #[.string ByteArray.empty, .int .u64 0, .bool false, .slice none 0 0]) 4 56 Try.underlying33 hi h0 h1 h2 rfl (by decide) aq n c cs hs hown (some ⟨k, 0, none⟩) 1 1 (entCells e ae ce) hx hr rfl (entCells_one e ae ce) (by omega) (by simp only [maxLen]; omega) hB ?_
  intro a' c' w' g1 g2
  exact h a' c' w' (AccE.snoc hacc.len hown hin he hne g1 g2) (g2.below hB (fun x hx => by subst hx; exact (World.ownsRow.lt hown x.block rfl).1)) g2
end

/-! Boxes, and rows of entries beside them. -/
theorem keeps_below {W W' : World} (h : Below W.heap.size W W') : KeepsOthers W W' :=
  ⟨h.size, fun k o hk _ => (h.block k (Array.getElem?_eq_some_iff.1 hk).1).trans hk⟩
theorem Boxed.below {W W' : World} {B : Nat} {t : TypeId} {v : Value} (h : Boxed W B t v) (hb : Below W.heap.size W W') : Boxed W' B t v := (hb.block B h.lt).trans h
theorem own_block {B e s n : Nat} {a : Option Addr} {k c : Nat} {cs : List Value} {w : World} (h : w.ownsRow B e s (.slice a k c) n cs) : (Value.slice a k c).ownBlock = a.map (·.block) := by
  rcases h.2 with ⟨h1, _⟩ | ⟨g, cap, cur, h1, _⟩
  · cases h1; rfl
  · cases h1; rfl
theorem AccE.not_box {w : World} {B n c Bx : Nat} {a : Option Addr} {l : List Ent} {t : TypeId} {v : Value} (h : AccE w B a n c l) (hb : Boxed w Bx t v) (ht : t ≠ 61) : some Bx ≠ a.map (·.block) := by
  obtain ⟨cs, h1, _⟩ := h.row
  have := hb.not_row ht h1
  rwa [own_block h1] at this
theorem Boxed.evol {w w' : World} {B n c Bx : Nat} {a a' : Option Addr} {l : List Ent} {t : TypeId} {v : Value} (hb : Boxed w Bx t v) (h : AccE w B a n c l) (ht : t ≠ 61) (k : Evol w a w' a') : Boxed w' Bx t v :=
  hb.kept k.1 (h.not_box hb ht)
/-- What is no cells stays beside an append. -/
theorem AccE.keeps {w w' : World} {B n c : Nat} {a a' : Option Addr} {l : List Ent} (h : AccE w B a n c l) (k : Evol w a w' a') : KeepsOthers w w' := by
  refine KeepsOthers.of_grownBy k.1 fun j o ej hj => ?_
  obtain ⟨cs, h1, _⟩ := h.row
  rcases h1.2 with ⟨h2, _⟩ | ⟨g, cap, cur, h2, _, hgb, _⟩
  · cases h2; cases ej
  · cases h2
    obtain rfl : g = j := by simpa using ej
    rw [hgb] at hj; cases hj; rfl
theorem Row.setBox {w : World} {a : Option Addr} {cs : List Value} {Bx : Nat} {t : TypeId} {u v : Value} (h : Row w a cs) (hb : Boxed w Bx t u) (hu : ∀ x ∈ cs, x ≠ u) : Row (w.setCell ⟨Bx, 0, none⟩ v) a cs := by
  intro j x hx
  obtain ⟨b, off, rfl, hc⟩ := h j x hx
  refine ⟨b, off, rfl, ?_⟩
  by_cases e : b = Bx
  · subst e
    exfalso
    have h1 : w.heap[b]? = some (.cells #[u] t (0, 0)) := hb
    simp only [World.cell?, h1] at hc
    have : off + j = 0 := by
      rcases Nat.eq_zero_or_pos (off + j) with h | h
      · exact h
      · simp [Array.getElem?_eq_none (show (#[u] : Array Value).size ≤ off + j by simp; omega)] at hc
    rw [this] at hc
    simp at hc
    exact hu x (List.mem_of_getElem? hx) hc.symm
  · rw [← hc]
    exact World.cell?_of_block (Below.heap_setCell _ _ _ _ e)
theorem Bs.setBox {w : World} {a : Option Addr} {n c : Nat} {l : List UInt8} {Bx : Nat} {t : TypeId} {p : Option Addr} {m k : Nat} {v : Value} (h : Bs w a n c l) (hb : Boxed w Bx t (.slice p m k)) : Bs (w.setCell ⟨Bx, 0, none⟩ v) a n c l :=
  ⟨h.1, h.2.1, h.2.2.1, h.2.2.2.setBox hb (fun x hx e => by
    unfold vs at hx
    obtain ⟨b, _, rfl⟩ := List.mem_map.1 hx
    cases e)⟩
theorem AccE.setBox {w : World} {B n c Bx : Nat} {a : Option Addr} {l : List Ent} {t : TypeId} {p : Option Addr} {m k : Nat} {v : Value} (h : AccE w B a n c l) (hb : Boxed w Bx t (.slice p m k)) (ht : t ≠ 61) : AccE (w.setCell ⟨Bx, 0, none⟩ v) B a n c l := by
  obtain ⟨cs, h1, h2⟩ := h.row
  refine ⟨h.len, cs, h1.kept (grownBy_setCell' w Bx v) (.inr (hb.not_row ht h1).symm), fun i hi => ?_⟩
  obtain ⟨ai, ci, g1, g2, g3⟩ := h2 i hi
  exact ⟨ai, ci, g1, g2.setBox hb, g3⟩
theorem Boxed.other {w : World} {B B2 : Nat} {t : TypeId} {u v : Value} (h : Boxed w B t u) (hne : B2 ≠ B) : Boxed (w.setCell ⟨B2, 0, none⟩ v) B t u :=
  h.kept (grownBy_setCell' w B2 v) (by simp; omega)
/-- Behind the turn of a block that is no cells. -/
theorem Row.turned {W W' : World} {a : Option Addr} {cs : List Value} {row : Option Nat} (h : Row W a cs) (hg : W.grownBy W' row) (hr : ∀ r, row = some r → ∃ o : Obj, W.heap[r]? = some o ∧ o.isCells = false) : Row W' a cs := by
  intro j v hj
  obtain ⟨b, off, rfl, hc⟩ := h j v hj
  exact ⟨b, off, rfl, cell_kept hc hg hr⟩
theorem Bs.turned {W W' : World} {a : Option Addr} {n c : Nat} {l : List UInt8} {row : Option Nat} (h : Bs W a n c l) (hg : W.grownBy W' row) (hr : ∀ r, row = some r → ∃ o : Obj, W.heap[r]? = some o ∧ o.isCells = false) : Bs W' a n c l :=
  ⟨h.1, h.2.1, h.2.2.1, h.2.2.2.turned hg hr⟩
theorem own_turned {W W' : World} {B e s n : Nat} {v : Value} {cs : List Value} {row : Option Nat} (h : W.ownsRow B e s v n cs) (hg : W.grownBy W' row) (hr : ∀ r, row = some r → ∃ o : Obj, W.heap[r]? = some o ∧ o.isCells = false) : W'.ownsRow B e s v n cs := by
  refine h.kept hg ?_
  rcases h.2 with ⟨rfl, _⟩ | ⟨g, cap, cur, rfl, _, hgb, _⟩
  · exact .inl rfl
  · refine .inr fun e' => ?_
    obtain ⟨o, ho, hc⟩ := hr g (by simpa [Value.ownBlock] using e'.symm)
    rw [hgb] at ho; cases ho; cases hc
theorem AccE.turned {W W' : World} {B n c : Nat} {a : Option Addr} {l : List Ent} {row : Option Nat} (h : AccE W B a n c l) (hg : W.grownBy W' row) (hr : ∀ r, row = some r → ∃ o : Obj, W.heap[r]? = some o ∧ o.isCells = false) : AccE W' B a n c l := by
  obtain ⟨cs, h1, h2⟩ := h.row
  exact ⟨h.len, cs, own_turned h1 hg hr, fun i hi => by obtain ⟨ai, ci, g1, g2, g3⟩ := h2 i hi; exact ⟨ai, ci, g1, g2.turned hg hr, g3⟩⟩
theorem Boxed.turned {W W' : World} {B : Nat} {t : TypeId} {v : Value} {row : Option Nat} (h : Boxed W B t v) (hg : W.grownBy W' row) (hr : ∀ r, row = some r → ∃ o : Obj, W.heap[r]? = some o ∧ o.isCells = false) : Boxed W' B t v := by
  refine h.kept hg fun e' => ?_
  obtain ⟨o, ho, hc⟩ := hr B e'.symm
  rw [show W.heap[B]? = _ from h] at ho; cases ho; cases hc
theorem Es.turned {W W' : World} {n c : Nat} {a : Option Addr} {l : List Ent} {row : Option Nat} (h : Es W a n c l) (hg : W.grownBy W' row) (hr : ∀ r, row = some r → ∃ o : Obj, W.heap[r]? = some o ∧ o.isCells = false) : Es W' a n c l :=
  ⟨h.1, h.2.1, h.2.2.1, fun i hi => by
    obtain ⟨b, off, ai, ci, rfl, h2, h3⟩ := h.2.2.2 i hi
    exact ⟨b, off, ai, ci, rfl, ⟨cell_kept h2.key hg hr, cell_kept h2.seq hg hr, cell_kept h2.gone hg hr, cell_kept h2.val hg hr⟩, h3.turned hg hr⟩⟩
/-- A part of a slice of entries. -/
theorem Es.part {w : World} {a : Option Addr} {n c : Nat} {l : List Ent} (h : Es w a n c l) {lo hi mx : Nat} (h1 : lo ≤ hi) (h2 : hi ≤ n) (h3 : hi ≤ mx) (h4 : mx ≤ c) : Es w (subAn a mx lo 4) (hi - lo) (mx - lo) ((l.take hi).drop lo) := by
  have hl := h.1
  refine ⟨by simp; omega, by omega, by have := h.2.2.1; omega, fun i hi' => ?_⟩
  obtain ⟨b, off, ai, ci, rfl, g2, g3⟩ := h.2.2.2 (lo + i) (by omega)
  have e1 : nth ((l.take hi).drop lo) i = nth l (lo + i) := by
    rw [nth_eq _ (by simp; omega), nth_eq _ (by omega)]
    simp
  have e2 : subAn (some ⟨b, off, none⟩) mx lo 4 = some ⟨b, off + lo * 4, none⟩ := by
    unfold subAn
    rw [if_neg (by omega)]
    simp [Addr.add_lit]
  refine ⟨b, off + lo * 4, ai, ci, e2, ?_, ?_⟩
  · rw [e1, show off + lo * 4 + i * 4 = off + (lo + i) * 4 by omega]; exact g2
  · rw [e1]; exact g3
end Go.Proofs.Ytchdmjnhjonddaa
