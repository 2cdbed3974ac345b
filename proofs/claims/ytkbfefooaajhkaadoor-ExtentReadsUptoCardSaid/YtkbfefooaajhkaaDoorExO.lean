/- From a row's readings to writes; their bulk. -/
import Derived.Test.YtkbfefooaajhkaaDoorExWr
import Derived.Test.YtkbfefooaajhkaaDoorBulkB
import Derived.Deep.Fields
import Derived.ChangeSame
namespace Go.Proofs.YtkbfefooaajhkaaDoor
open Go.ChangeShapes Go.WideShapes Go.ChangeAt Go.RowKit Go.Deep
set_option linter.unusedVariables false
set_option maxRecDepth 100000

def wrL (e : Wr) (a : Option Addr) (c : Nat) : List Value := [.string (bstr e.key), .bool e.gone, .slice a e.val.length c]
/-- What a write's datum says of its sizes. -/
def WrD {H : Type} (d : DataW H) (e : Wr) : Prop := ∃ dv, d = .agg [.lit (.string e.key), .lit (.bool e.gone), dv] ∧ SizeOf dv e.val.length
def WrsD {H : Type} (d : DataW H) (l : List Wr) : Prop := (d = .nil ∧ l = []) ∨ ∃ elems spare, d = .slice elems spare ∧ elems.length = l.length ∧ ∀ i, i < l.length → ∃ x, elems[i]? = some x ∧ WrD x (nth l i)
theorem cellsW_ : Tryd.prog.cellsOf 33 = 3 := by kernel_rfl
theorem open_wr_trod {H : Type} {enc : TypeId × Value → H} {W : World} {fuel : Nat} {cs : List Value} {x : DataW H × List MemPlace} (h : DataW.trod enc Tryd.prog W 0 (fun _ => true) true fuel 33 cs = some x) :
    ∃ (e : Wr) (a : Option Addr) (c : Nat), cs = [.string (bstr e.key), .bool e.gone, .slice a e.val.length c] ∧ Bs W a e.val.length c e.val ∧ WrD x.1 e := by
  obtain ⟨ys, n, _, hy, hlen, hyl, hf⟩ := DataW.trod_struct Tryd.underlying33 h
  rw [cellsW_] at hlen
  match cs, hlen, ys, hyl with
  | [c0, c2, c3], _, [y0, y2, y3], _ =>
    have h0 : DataW.trod enc Tryd.prog W 0 (fun _ => true) true n 9 (([c0, c2, c3].drop 0).take (Tryd.prog.cellsOf 9)) = [y0, y2, y3][0]? := hf 0 _ rfl
    have h2 : DataW.trod enc Tryd.prog W 0 (fun _ => true) true n 4 (([c0, c2, c3].drop 1).take (Tryd.prog.cellsOf 4)) = [y0, y2, y3][1]? := hf 1 _ rfl
    have h3 : DataW.trod enc Tryd.prog W 0 (fun _ => true) true n 22 (([c0, c2, c3].drop 2).take (Tryd.prog.cellsOf 22)) = [y0, y2, y3][2]? := hf 2 _ rfl
    rw [show Tryd.prog.cellsOf 9 = 1 by kernel_rfl] at h0
    rw [show Tryd.prog.cellsOf 4 = 1 by kernel_rfl] at h2
    rw [show Tryd.prog.cellsOf 22 = 1 by kernel_rfl] at h3
    simp only [List.drop_zero, List.drop_succ_cons, List.take_succ_cons, List.take_zero, List.getElem?_cons_zero, List.getElem?_cons_succ] at h0 h2 h3
    obtain ⟨s, e0, e0', _⟩ := DataW.trod_string Tryd.underlying9 h0
    obtain ⟨b, e2, e2'⟩ := DataW.trod_bool Tryd.underlying4 h2
    obtain ⟨y, p⟩ := y3
    obtain ⟨a, m, c, l, e3, hb, hs⟩ := open_bytes_trod h3
    cases e0; cases e2; cases e3
    obtain rfl : m = l.length := hb.1.symm
    refine ⟨⟨s.data.toList, b, l⟩, a, c, ?_, hb, ?_⟩
    · have : bstr s.data.toList = s := by cases s; rfl
      rw [this]
    · refine ⟨y, ?_, hs⟩
      rw [hy, e0', e2']
      rfl
/-- A slice of writes. -/
theorem open_wrs_trod {H : Type} {enc : TypeId × Value → H} {W : World} {fuel : Nat} {v : Value} {d : DataW H} {p : List MemPlace} (h : DataW.trod enc Tryd.prog W 0 (fun _ => true) true fuel 25 [v] = some (d, p)) :
    ∃ a n c l, v = .slice a n c ∧ Ws W a n c l ∧ WrsD d l := by
  rcases open_slice Tryd.underlying25 h with ⟨hcs, hd⟩ | ⟨x, len, cap, m, n, D, Pl, hcs, _, hl, hm, hmm, hd, hel⟩
  · simp at hcs
    exact ⟨none, 0, 0, [], hcs, Ws.nil W, .inl ⟨congrArg Prod.fst hd, rfl⟩⟩
  · simp at hcs
    simp only [if_true] at hmm
    rw [cellsW_] at hd hel
    simp only [Prod.mk.injEq] at hd
    obtain ⟨l, hll, hR⟩ := choose_list len (fun i e => ∃ b off ai ci, (some x : Option Addr) = some ⟨b, off, none⟩ ∧ WrAt W b (off + i * 3) e ai ci ∧ Bs W ai e.val.length ci e.val ∧ WrD (D i) e) (by
      intro i hi
      obtain ⟨cs', hc, ht⟩ := hel i (by omega)
      obtain ⟨e, a, c, h1, h2, h3⟩ := open_wr_trod ht
      obtain ⟨_, hcl, hat⟩ := World.cells?_some hc
      subst h1
      have h0 := hat 0 (by omega)
      have hk : ∀ j v, (wrL e a c)[j]? = some v → W.cell? ((x.add (i * 3)).add j) = some v := fun j v hj => by
        have hj4 : j < 3 := by
          have := (List.getElem?_eq_some_iff.1 hj).1
          simpa [wrL] using this
        rw [hat j hj4]
        exact hj
      obtain ⟨cs0, hc0, ht0⟩ := hel 0 (by omega)
      obtain ⟨e', a', c', h1', _, _⟩ := open_wr_trod ht0
      obtain ⟨_, _, hat0⟩ := World.cells?_some hc0
      subst h1'
      have hz := hat0 0 (by omega)
      rw [Nat.zero_mul, Addr.add_zero', Addr.add_zero'] at hz
      have hsp := World.cell?_spot hz
      obtain ⟨b, off, spot⟩ := x
      simp at hsp
      subst hsp
      refine ⟨e, b, off, a, c, rfl, ⟨?_, ?_, ?_⟩, h2, h3⟩
      · have := hk 0 _ rfl; simpa [Addr.add_lit] using this
      · have := hk 1 _ rfl; simpa [Addr.add_lit] using this
      · have := hk 2 _ rfl; simpa [Addr.add_lit] using this)
    refine ⟨some x, len, cap, l, hcs, ⟨hll, hl, hm, fun i hi => ?_⟩, .inr ⟨_, _, hd.1, by simp [hll], fun i hi => ?_⟩⟩
    · obtain ⟨b, off, ai, ci, h1, h2, h3, _⟩ := hR i hi
      exact ⟨b, off, ai, ci, h1, h2, h3⟩
    · rw [hll] at hi
      obtain ⟨b, off, ai, ci, _, _, _, h4⟩ := hR i hi
      exact ⟨D i, by simp [hi], h4⟩
theorem open_wrs {H : Type} {enc : TypeId × Value → H} {W : World} {d : DataW H} {p : List MemPlace} {a : Option Addr} {n c : Nat}
    (h : DataW.Trod enc Tryd.prog W 0 (fun _ => true) true 25 (.slice a n c) d p) : ∃ l, Ws W a n c l ∧ WrsD d l := by
  obtain ⟨fuel, hf⟩ := h
  simp [Value.cells] at hf
  obtain ⟨a', n', c', l, h1, h2, h3⟩ := open_wrs_trod hf
  cases h1
  exact ⟨l, h2, h3⟩
theorem bulk_wr {H : Type} {d : DataW H} {e : Wr} (h : WrD d e) : e.key.length + e.val.length + 4 ≤ Rows.uptoBulk d := by
  obtain ⟨dv, rfl, hs⟩ := h
  have := bulk_size hs
  simp only [Rows.uptoBulk, Rows.uptoBulkAll]
  omega
theorem bulk_wrl {H : Type} : ∀ (elems : List (DataW H)) (l : List Wr), (∀ i, i < l.length → ∃ x, elems[i]? = some x ∧ WrD x (nth l i)) → Wr.costs l + l.length ≤ Rows.uptoBulkAll elems := by
  intro elems
  induction elems with
  | nil =>
    intro l h
    cases l with
    | nil => simp [Wr.costs]
    | cons e l => obtain ⟨x, hx, _⟩ := h 0 (by simp); simp at hx
  | cons x elems ih =>
    intro l h
    cases l with
    | nil => simp [Wr.costs]
    | cons e l =>
      obtain ⟨y, hy, hs⟩ := h 0 (by simp)
      simp at hy
      subst hy
      have e0 : nth (e :: l) 0 = e := rfl
      rw [e0] at hs
      have h1 := bulk_wr hs
      have h2 := ih l (fun i hi => by
        obtain ⟨z, hz, hs'⟩ := h (i + 1) (by simp; omega)
        exact ⟨z, by simpa using hz, hs'⟩)
      unfold Wr.costs Wr.cost at *
      simp only [Rows.uptoBulkAll, List.map_cons, List.sum_cons, List.length_cons]
      omega
theorem bulk_wrs {H : Type} {d : DataW H} {l : List Wr} (h : WrsD d l) : Wr.costs l + l.length + 1 ≤ Rows.uptoBulk d := by
  rcases h with ⟨rfl, rfl⟩ | ⟨elems, spare, rfl, _, he⟩
  · simp [Rows.uptoBulk, Wr.costs]
  · have := bulk_wrl elems l he
    simp only [Rows.uptoBulk]
    omega
end Go.Proofs.YtkbfefooaajhkaaDoor
