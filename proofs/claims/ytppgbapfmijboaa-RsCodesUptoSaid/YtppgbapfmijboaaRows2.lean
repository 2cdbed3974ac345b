/- Rows of slices that a call owns and appends to; what they read. -/
import Derived.Test.YtppgbapfmijboaaBytes
set_option linter.unusedVariables false
set_option linter.unusedSimpArgs false
namespace Go.Proofs.Ytppgbapfmijboaa
open Go.RowKit

theorem infoSs : (Try.prog.info? 22).map (fun i => (i.zero, i.size, i.bytes)) = some (some (.slice none 0 0), 1, 24) := by kernel_rfl
/-- A row of slices of the call's own. -/
def OwnV (w : World) (B : Nat) (a : Option Addr) (n c : Nat) (cs : List Value) : Prop := w.ownsRow B 22 1 (.slice a n c) n cs
theorem OwnV.nil (w : World) (B : Nat) : OwnV w B none 0 0 [] := World.ownsRow_nil w B _ _
theorem OwnV.below {w w' : World} {B n c : Nat} {a : Option Addr} {cs : List Value} (h : OwnV w B a n c cs) (hb : Below w.heap.size w w') : OwnV w' B a n c cs := own_below h hb
theorem OwnV.len {w : World} {B n c : Nat} {a : Option Addr} {cs : List Value} (h : OwnV w B a n c cs) : cs.length = n ∧ n ≤ c ∧ c ≤ maxLen := ⟨by simpa using h.1, (own_cap h).2⟩
theorem OwnV.new {w : World} {B n c : Nat} {a : Option Addr} {cs : List Value} (h : OwnV w B a n c cs) : ∀ z, a = some z → B ≤ z.block ∧ z.block < w.heap.size := by
  intro z hz
  subst hz
  exact World.ownsRow.lt h z.block rfl

section
variable {w : World} {ops : Array Oper} {rest : List Oper} {o : Oper} {a : Act} {Q : Exit → Act → World → Prop}
/-- append of one slice to such a row. -/
theorem app_row (hgd : Region.wanted o (yielded ops a.tmps) = true) (s x : Operand) (ho : o.op = .call { callee := .builtin .append, args := #[s, x], argTypes := #[28, 28] })
    (B : Nat) {aq : Option Addr} {n c : Nat} {cs : List Value} (hs : a.eval s = .slice aq n c) (hown : OwnV w B aq n c cs)
    {k : Nat} {v : Value} (hx : a.eval x = .slice (some ⟨k, 0, none⟩) 1 1) (hcell : w.cell? ⟨k, 0, none⟩ = some v) (hv : v.oneCell' = true) (hb : n ≤ 1000000000000) (hB : B ≤ w.heap.size)
    (h : ∀ a' c' w', OwnV w' B a' (n + 1) c' (cs ++ [v]) → Below B w w' → Evol w aq w' a' → wpList Try.prog ops Q rest (a.put o.dst (.slice a' (n + 1) c')) w') : wpList Try.prog ops Q (o :: rest) a w := by
  obtain ⟨i, hi, h0, h1, h2⟩ := info_parts infoSs
  have hr : Row w (some ⟨k, 0, none⟩) [v] := by
    intro j u hj
    cases j with
    | zero => simp at hj; subst hj; exact ⟨k, 0, rfl, hcell⟩
    | succ j => simp at hj
  refine wpList_app_own hgd s x 28 ho B 22 i (.slice none 0 0) 1 24 Try.underlying28 hi h0 h1 h2 rfl (by decide) aq n c cs hs hown (some ⟨k, 0, none⟩) 1 1 [v] hx hr (by simp) (by intro u hu; simp at hu; subst hu; exact hv) (by omega) (by simp only [maxLen]; omega) hB ?_
  intro a' c' w' g1 g2
  exact h a' c' w' g1 (g2.below hB (fun x hx => by subst hx; exact (World.ownsRow.lt hown x.block rfl).1)) g2
end

/-- A list of slices that is gathered: the row is the call's own; the elements lie elsewhere. -/
structure Acc (w : World) (B : Nat) (a : Option Addr) (n c : Nat) (ls : List (List UInt8)) : Prop where
  len : ls.length = n
  row : ∃ cs, OwnV w B a n c cs ∧ ∀ i, i < n → ∃ ai ni ci, cs[i]? = some (.slice ai ni ci) ∧ Bs w ai ni ci (nth ls i) ∧ (0 < ni → ∀ x y, ai = some x → a = some y → x.block ≠ y.block)
theorem Acc.nil (w : World) (B : Nat) : Acc w B none 0 0 [] := ⟨rfl, [], OwnV.nil w B, fun i hi => by omega⟩
theorem Acc.below {w w' : World} {B n c : Nat} {a : Option Addr} {ls : List (List UInt8)} (h : Acc w B a n c ls) (hb : Below w.heap.size w w') : Acc w' B a n c ls := by
  obtain ⟨cs, h1, h2⟩ := h.row
  exact ⟨h.len, cs, h1.below hb, fun i hi => by
    obtain ⟨ai, ni, ci, g1, g2, g3⟩ := h2 i hi
    exact ⟨ai, ni, ci, g1, g2.below hb, g3⟩⟩
theorem Acc.cap {w : World} {B n c : Nat} {a : Option Addr} {ls : List (List UInt8)} (h : Acc w B a n c ls) : n ≤ c ∧ c ≤ maxLen := by
  obtain ⟨cs, h1, _⟩ := h.row
  exact h1.len.2
theorem Acc.new {w : World} {B n c : Nat} {a : Option Addr} {ls : List (List UInt8)} (h : Acc w B a n c ls) : ∀ z, a = some z → B ≤ z.block ∧ z.block < w.heap.size := by
  obtain ⟨cs, h1, _⟩ := h.row
  exact h1.new
theorem Acc.bss {w : World} {B n c : Nat} {a : Option Addr} {ls : List (List UInt8)} (h : Acc w B a n c ls) : Bss w a n c ls := by
  obtain ⟨cs, h1, h2⟩ := h.row
  refine ⟨h.len, h1.len.2.1, h1.len.2.2, fun i hi => ?_⟩
  obtain ⟨ai, ni, ci, g1, g2, _⟩ := h2 i hi
  obtain ⟨b, off, e1, e2⟩ := Row.of_own h1 i _ g1
  exact ⟨b, off, ai, ni, ci, e1, e2, g2⟩
/-- Behind the append. -/
theorem Acc.snoc {w w' : World} {B n c c' : Nat} {a a' : Option Addr} {ls : List (List UInt8)} {cs : List Value} {ae : Option Addr} {ne ce : Nat} {l : List UInt8}
    (hl : ls.length = n) (h1 : OwnV w B a n c cs) (h2 : ∀ i, i < n → ∃ ai ni ci, cs[i]? = some (.slice ai ni ci) ∧ Bs w ai ni ci (nth ls i) ∧ (0 < ni → ∀ x y, ai = some x → a = some y → x.block ≠ y.block))
    (he : Bs w ae ne ce l) (hne : 0 < ne → ∀ x y, ae = some x → a = some y → x.block ≠ y.block)
    (h : OwnV w' B a' (n + 1) c' (cs ++ [.slice ae ne ce])) (hev : Evol w a w' a') : Acc w' B a' (n + 1) c' (ls ++ [l]) := by
  have step : ∀ {ai : Option Addr} {ni ci : Nat} {m : List UInt8}, Bs w ai ni ci m → (0 < ni → ∀ x y, ai = some x → a = some y → x.block ≠ y.block) → Bs w' ai ni ci m ∧ (0 < ni → ∀ x y, ai = some x → a' = some y → x.block ≠ y.block) := by
    intro ai ni ci m g2 g3
    refine ⟨g2.evol hev g3, fun h0 x y hx hy e => ?_⟩
    have hold := g2.old h0 x hx
    rcases hev.2 y hy with k1 | k1
    · cases a with
      | none => cases k1
      | some z =>
        have k2 : z.block = y.block := by simpa using k1
        exact g3 h0 x z hx rfl (by rw [e, k2])
    · omega
  have hcl := h1.len.1
  refine ⟨by simp [hl], cs ++ [.slice ae ne ce], h, fun i hi => ?_⟩
  by_cases e : i = n
  · subst e
    obtain ⟨k1, k2⟩ := step he hne
    refine ⟨ae, ne, ce, by rw [← hcl]; simp, ?_, k2⟩
    rw [nth_eq _ (by simp; omega)]
    simpa [hl] using k1
  · obtain ⟨ai, ni, ci, g1, g2, g3⟩ := h2 i (by omega)
    obtain ⟨k1, k2⟩ := step g2 g3
    refine ⟨ai, ni, ci, by rw [List.getElem?_append_left (by omega)]; exact g1, ?_, k2⟩
    rw [nth_append_left _ _ (by omega)]
    exact k1
section
variable {w : World} {ops : Array Oper} {rest : List Oper} {o : Oper} {a : Act} {Q : Exit → Act → World → Prop}
theorem app_acc (hgd : Region.wanted o (yielded ops a.tmps) = true) (s x : Operand) (ho : o.op = .call { callee := .builtin .append, args := #[s, x], argTypes := #[28, 28] })
    (B : Nat) {aq : Option Addr} {n c : Nat} {ls : List (List UInt8)} (hs : a.eval s = .slice aq n c) (hacc : Acc w B aq n c ls)
    {k : Nat} {ae : Option Addr} {ne ce : Nat} {l : List UInt8} (hx : a.eval x = .slice (some ⟨k, 0, none⟩) 1 1) (hcell : w.cell? ⟨k, 0, none⟩ = some (.slice ae ne ce)) (he : Bs w ae ne ce l)
    (hne : 0 < ne → ∀ x y, ae = some x → aq = some y → x.block ≠ y.block) (hb : n ≤ 1000000000000) (hB : B ≤ w.heap.size)
    (h : ∀ a' c' w', Acc w' B a' (n + 1) c' (ls ++ [l]) → Below B w w' → wpList Try.prog ops Q rest (a.put o.dst (.slice a' (n + 1) c')) w') : wpList Try.prog ops Q (o :: rest) a w := by
  obtain ⟨cs, h1, h2⟩ := hacc.row
  refine app_row hgd s x ho B hs h1 hx hcell rfl hb hB fun a' c' w' g1 g2 g3 => ?_
  exact h a' c' w' (Acc.snoc hacc.len h1 h2 he hne g1 g3) g2
end
end Go.Proofs.Ytppgbapfmijboaa
