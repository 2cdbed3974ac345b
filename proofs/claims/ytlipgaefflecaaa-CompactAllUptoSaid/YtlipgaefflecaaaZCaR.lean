/- From a row's readings to a shape. -/
import Derived.Test.YtlipgaefflecaaaZCpO
import Derived.Test.YtlipgaefflecaaaZCpK
import Derived.Deep.Fields
import Derived.ChangeSame
import Derived.Test.YtlipgaefflecaaaZBase
import Derived.Test.YtlipgaefflecaaaZCgV
set_option linter.unusedVariables false
set_option linter.unusedSimpArgs false
section
namespace Go.Proofs.Ytlipgaefflecaaa
open Go.ChangeShapes Go.WideShapes Go.ChangeAt Go.RowKit Go.Deep
set_option linter.unusedVariables false

theorem cellsS_ : Try.prog.cellsOf 24 = 3 := by kernel_rfl
set_option maxRecDepth 100000 in
/-- A shape that is handed in. -/
theorem open_shape {H : Type} {enc : TypeId × Value → H} {W : World} {b0 : Nat} {v : Value} {d : DataW H} {p : List MemPlace} (hv : Value.okWide Try.prog W .any b0 24 v) (h : DataW.Trod enc Try.prog W 0 (fun _ => true) true 24 v d p) :
    ∃ z b t : Int, v = shv z b t := by
  obtain ⟨cs, rfl, hsz⟩ := okWide_struct Try.underlying24 hv
  obtain ⟨fuel, hf⟩ := h
  obtain ⟨ys, n, _, hy, hlen, hyl, hf'⟩ := DataW.trod_struct Try.underlying24 hf
  rw [cellsS_] at hlen
  simp only [Value.cells] at hlen hf'
  obtain ⟨l⟩ := cs
  simp only at hlen hf'
  match l, hlen, ys, hyl with
  | [c0, c1, c2], _, [y0, y1, y2], _ =>
    have h0 : DataW.trod enc Try.prog W 0 (fun _ => true) true n 3 (([c0, c1, c2].drop 0).take (Try.prog.cellsOf 3)) = [y0, y1, y2][0]? := hf' 0 _ rfl
    have h1 : DataW.trod enc Try.prog W 0 (fun _ => true) true n 3 (([c0, c1, c2].drop 1).take (Try.prog.cellsOf 3)) = [y0, y1, y2][1]? := hf' 1 _ rfl
    have h2 : DataW.trod enc Try.prog W 0 (fun _ => true) true n 3 (([c0, c1, c2].drop 2).take (Try.prog.cellsOf 3)) = [y0, y1, y2][2]? := hf' 2 _ rfl
    rw [show Try.prog.cellsOf 3 = 1 by kernel_rfl] at h0 h1 h2
    simp only [List.drop_zero, List.drop_succ_cons, List.take_succ_cons, List.take_zero, List.getElem?_cons_zero, List.getElem?_cons_succ] at h0 h1 h2
    obtain ⟨z0, e0, _⟩ := DataW.trod_int Try.underlying3 h0
    obtain ⟨z1, e1, _⟩ := DataW.trod_int Try.underlying3 h1
    obtain ⟨z2, e2, _⟩ := DataW.trod_int Try.underlying3 h2
    cases e0; cases e1; cases e2
    exact ⟨z0, z1, z2, rfl⟩
end Go.Proofs.Ytlipgaefflecaaa
end

section
namespace Go.Proofs.Ytlipgaefflecaaa
open Go.RowKit

theorem bulk_one {H : Type} (d : DataW H) : 1 ≤ Rows.uptoBulk d := by
  cases d with
  | lit l => cases l <;> simp [Rows.uptoBulk]
  | nil => simp [Rows.uptoBulk]
  | ptr d => simp [Rows.uptoBulk]
  | slice elems spare => simp [Rows.uptoBulk]
  | agg parts => simp [Rows.uptoBulk]
  | iface t d => simp [Rows.uptoBulk]
  | map entries => simp [Rows.uptoBulk]
  | held h => simp [Rows.uptoBulk]
theorem bulk_part {H : Type} {d : DataW H} {l : List (DataW H)} (h : d ∈ l) : Rows.uptoBulk d ≤ Rows.uptoBulkAll l := by
  induction l with
  | nil => cases h
  | cons x r ih =>
    simp only [Rows.uptoBulkAll]
    cases List.mem_cons.1 h with
    | inl e => subst e; omega
    | inr e => have := ih e; omega
theorem bulk_length {H : Type} (l : List (DataW H)) : l.length ≤ Rows.uptoBulkAll l := by
  induction l with
  | nil => simp [Rows.uptoBulkAll]
  | cons x r ih => have := bulk_one x; simp only [Rows.uptoBulkAll, List.length_cons]; omega
theorem bulk_bound {H : Type} {l : List (DataW H)} (hk : Rows.uptoSmall H l = true) : Rows.uptoBulkAll l ≤ 1048576 := of_decide_eq_true hk
theorem bulk_size {H : Type} {d : DataW H} {n : Nat} (h : SizeOf d n) : n + 1 ≤ Rows.uptoBulk d := by
  rcases h with ⟨rfl, rfl⟩ | ⟨elems, spare, rfl, rfl⟩
  · simp [Rows.uptoBulk]
  · have := bulk_length elems; simp only [Rows.uptoBulk]; omega
end Go.Proofs.Ytlipgaefflecaaa
end

section
set_option maxRecDepth 100000
set_option linter.unusedSimpArgs false
namespace Go.Proofs.Ytlipgaefflecaaa
open Go.ChangeShapes Go.WideShapes Go.ChangeAt Go.RowKit Go.Deep
set_option linter.unusedVariables false

def entL (e : Ent) (a : Option Addr) (c : Nat) : List Value := [.string (bstr e.key), .int .u64 e.seq, .bool e.gone, .slice a e.val.length c]
/-- What an entry's datum says of its sizes. -/
def EntD {H : Type} (d : DataW H) (e : Ent) : Prop := ∃ z dv, d = .agg [.lit (.string e.key), .lit (.int .u64 z), .lit (.bool e.gone), dv] ∧ SizeOf dv e.val.length ∧ U64 e.seq
def EntsD {H : Type} (d : DataW H) (l : List Ent) : Prop := (d = .nil ∧ l = []) ∨ ∃ elems spare, d = .slice elems spare ∧ elems.length = l.length ∧ ∀ i, i < l.length → ∃ x, elems[i]? = some x ∧ EntD x (nth l i)
theorem cellsE_ : Try.prog.cellsOf 57 = 4 := by kernel_rfl
theorem open_ent_trod {H : Type} {enc : TypeId × Value → H} {W : World} {fuel : Nat} {cs : List Value} {x : DataW H × List MemPlace} (h : DataW.trod enc Try.prog W 0 (fun _ => true) true fuel 57 cs = some x) :
    ∃ (e : Ent) (a : Option Addr) (c : Nat), cs = [.string (bstr e.key), .int .u64 e.seq, .bool e.gone, .slice a e.val.length c] ∧ Bs W a e.val.length c e.val ∧ EntD x.1 e := by
  obtain ⟨ys, n, _, hy, hlen, hyl, hf⟩ := DataW.trod_struct Try.underlying57 h
  rw [cellsE_] at hlen
  match cs, hlen, ys, hyl with
  | [c0, c1, c2, c3], _, [y0, y1, y2, y3], _ =>
    have h0 : DataW.trod enc Try.prog W 0 (fun _ => true) true n 9 (([c0, c1, c2, c3].drop 0).take (Try.prog.cellsOf 9)) = [y0, y1, y2, y3][0]? := hf 0 _ rfl
    have h1 : DataW.trod enc Try.prog W 0 (fun _ => true) true n 25 (([c0, c1, c2, c3].drop 1).take (Try.prog.cellsOf 25)) = [y0, y1, y2, y3][1]? := hf 1 _ rfl
    have h2 : DataW.trod enc Try.prog W 0 (fun _ => true) true n 4 (([c0, c1, c2, c3].drop 2).take (Try.prog.cellsOf 4)) = [y0, y1, y2, y3][2]? := hf 2 _ rfl
    have h3 : DataW.trod enc Try.prog W 0 (fun _ => true) true n 55 (([c0, c1, c2, c3].drop 3).take (Try.prog.cellsOf 55)) = [y0, y1, y2, y3][3]? := hf 3 _ rfl
    rw [show Try.prog.cellsOf 9 = 1 by kernel_rfl] at h0
    rw [show Try.prog.cellsOf 25 = 1 by kernel_rfl] at h1
    rw [show Try.prog.cellsOf 4 = 1 by kernel_rfl] at h2
    rw [show Try.prog.cellsOf 55 = 1 by kernel_rfl] at h3
    simp only [List.drop_zero, List.drop_succ_cons, List.take_succ_cons, List.take_zero, List.getElem?_cons_zero, List.getElem?_cons_succ] at h0 h1 h2 h3
    obtain ⟨s, e0, e0', _⟩ := DataW.trod_string Try.underlying9 h0
    obtain ⟨z, e1, e1', hz⟩ := DataW.trod_int Try.underlying25 h1
    obtain ⟨b, e2, e2'⟩ := DataW.trod_bool Try.underlying4 h2
    obtain ⟨y, p⟩ := y3
    obtain ⟨a, m, c, l, e3, hb, hs⟩ := open_bytes_trod h3
    obtain ⟨k, rfl, uk⟩ := u64_of_wf hz
    cases e0; cases e1; cases e2; cases e3
    obtain rfl : m = l.length := hb.1.symm
    refine ⟨⟨s.data.toList, k, b, l⟩, a, c, ?_, hb, ?_⟩
    · have : bstr s.data.toList = s := by cases s; rfl
      rw [this]
    · refine ⟨(k : Int), y, ?_, hs, uk⟩
      rw [hy, e0', e1', e2']
      rfl
theorem open_ent {H : Type} {enc : TypeId × Value → H} {W : World} {b0 : Nat} {v : Value} {d : DataW H} {p : List MemPlace} (hv : Value.okWide Try.prog W .any b0 57 v) (h : DataW.Trod enc Try.prog W 0 (fun _ => true) true 57 v d p) :
    ∃ (e : Ent) (a : Option Addr) (c : Nat), v = ev e a c ∧ Bs W a e.val.length c e.val ∧ EntD d e := by
  obtain ⟨cs, rfl, hsz⟩ := okWide_struct Try.underlying57 hv
  obtain ⟨fuel, hf⟩ := h
  obtain ⟨ys, n, _, hy, hlen, hyl, hf'⟩ := DataW.trod_struct Try.underlying57 hf
  obtain ⟨e, a, c, h1, h2, h3⟩ := open_ent_trod hf
  refine ⟨e, a, c, ?_, h2, h3⟩
  simp only [Value.cells] at h1
  obtain ⟨l⟩ := cs
  simp only at h1
  subst h1
  rfl
/-- A slice of entries. -/
theorem open_ents_trod {H : Type} {enc : TypeId × Value → H} {W : World} {fuel : Nat} {v : Value} {d : DataW H} {p : List MemPlace} (h : DataW.trod enc Try.prog W 0 (fun _ => true) true fuel 33 [v] = some (d, p)) :
    ∃ a n c l, v = .slice a n c ∧ Es W a n c l ∧ EntsD d l := by
  rcases open_slice Try.underlying33 h with ⟨hcs, hd⟩ | ⟨x, len, cap, m, n, D, Pl, hcs, _, hl, hm, hmm, hd, hel⟩
  · simp at hcs
    exact ⟨none, 0, 0, [], hcs, Es.nil W, .inl ⟨congrArg Prod.fst hd, rfl⟩⟩
  · simp at hcs
    simp only [if_true] at hmm
    rw [cellsE_] at hd hel
    simp only [Prod.mk.injEq] at hd
    obtain ⟨l, hll, hR⟩ := choose_list len (fun i e => ∃ b off ai ci, (some x : Option Addr) = some ⟨b, off, none⟩ ∧ EntAt W b (off + i * 4) e ai ci ∧ Bs W ai e.val.length ci e.val ∧ EntD (D i) e) (by
      intro i hi
      obtain ⟨cs', hc, ht⟩ := hel i (by omega)
      obtain ⟨e, a, c, h1, h2, h3⟩ := open_ent_trod ht
      obtain ⟨_, hcl, hat⟩ := World.cells?_some hc
      subst h1
      have h0 := hat 0 (by omega)
      have hk : ∀ j v, (entL e a c)[j]? = some v → W.cell? ((x.add (i * 4)).add j) = some v := fun j v hj => by
        have hj4 : j < 4 := by
          have := (List.getElem?_eq_some_iff.1 hj).1
          simpa [entL] using this
        rw [hat j hj4]
        exact hj
      obtain ⟨cs0, hc0, ht0⟩ := hel 0 (by omega)
      obtain ⟨e', a', c', h1', _, _⟩ := open_ent_trod ht0
      obtain ⟨_, _, hat0⟩ := World.cells?_some hc0
      subst h1'
      have hz := hat0 0 (by omega)
      rw [Nat.zero_mul, Addr.add_zero', Addr.add_zero'] at hz
      have hsp := World.cell?_spot hz
      obtain ⟨b, off, spot⟩ := x
      simp at hsp
      subst hsp
      refine ⟨e, b, off, a, c, rfl, ⟨?_, ?_, ?_, ?_⟩, h2, h3⟩
      · have := hk 0 _ rfl; simpa [Addr.add_lit] using this
      · have := hk 1 _ rfl; simpa [Addr.add_lit] using this
      · have := hk 2 _ rfl; simpa [Addr.add_lit] using this
      · have := hk 3 _ rfl; simpa [Addr.add_lit] using this)
    refine ⟨some x, len, cap, l, hcs, ⟨hll, hl, hm, fun i hi => ?_⟩, .inr ⟨_, _, hd.1, by simp [hll], fun i hi => ?_⟩⟩
    · obtain ⟨b, off, ai, ci, h1, h2, h3, _⟩ := hR i hi
      exact ⟨b, off, ai, ci, h1, h2, h3⟩
    · rw [hll] at hi
      obtain ⟨b, off, ai, ci, _, _, _, h4⟩ := hR i hi
      exact ⟨D i, by simp [hi], h4⟩
theorem open_ents {H : Type} {enc : TypeId × Value → H} {W : World} {d : DataW H} {p : List MemPlace} {a : Option Addr} {n c : Nat}
    (h : DataW.Trod enc Try.prog W 0 (fun _ => true) true 33 (.slice a n c) d p) : ∃ l, Es W a n c l ∧ EntsD d l := by
  obtain ⟨fuel, hf⟩ := h
  simp [Value.cells] at hf
  obtain ⟨a', n', c', l, h1, h2, h3⟩ := open_ents_trod hf
  cases h1
  exact ⟨l, h2, h3⟩
theorem bulk_ent {H : Type} {d : DataW H} {e : Ent} (h : EntD d e) : e.key.length + e.val.length + 5 ≤ Rows.uptoBulk d := by
  obtain ⟨z, dv, rfl, hs, _⟩ := h
  have := bulk_size hs
  simp only [Rows.uptoBulk, Rows.uptoBulkAll]
  omega
theorem bulk_entl {H : Type} : ∀ (elems : List (DataW H)) (l : List Ent), (∀ i, i < l.length → ∃ x, elems[i]? = some x ∧ EntD x (nth l i)) → Ent.tot l + l.length ≤ Rows.uptoBulkAll elems := by
  intro elems
  induction elems with
  | nil =>
    intro l h
    cases l with
    | nil => simp [Ent.tot]
    | cons e l => obtain ⟨x, hx, _⟩ := h 0 (by simp); simp at hx
  | cons x elems ih =>
    intro l h
    cases l with
    | nil => simp [Ent.tot]
    | cons e l =>
      obtain ⟨y, hy, hs⟩ := h 0 (by simp)
      simp at hy
      subst hy
      have e0 : nth (e :: l) 0 = e := rfl
      rw [e0] at hs
      have h1 := bulk_ent hs
      have h2 := ih l (fun i hi => by
        obtain ⟨z, hz, hs'⟩ := h (i + 1) (by simp; omega)
        exact ⟨z, by simpa using hz, hs'⟩)
      unfold Ent.tot at *
      simp only [Rows.uptoBulkAll, List.map_cons, List.sum_cons, List.length_cons]
      omega
theorem bulk_ents {H : Type} {d : DataW H} {l : List Ent} (h : EntsD d l) : Ent.tot l + l.length + 1 ≤ Rows.uptoBulk d := by
  rcases h with ⟨rfl, rfl⟩ | ⟨elems, spare, rfl, _, he⟩
  · simp [Rows.uptoBulk, Ent.tot]
  · have := bulk_entl elems l he
    simp only [Rows.uptoBulk]
    omega
theorem ents_u64 {H : Type} {d : DataW H} {l : List Ent} (h : EntsD d l) : ∀ e ∈ l, U64 e.seq := fun e he => by
  rcases h with ⟨_, rfl⟩ | ⟨elems, spare, _, _, hh⟩
  · cases he
  · obtain ⟨i, hi, rfl⟩ := List.getElem_of_mem he
    obtain ⟨x, _, z, dv, _, _, hu⟩ := hh i hi
    rw [nth_eq _ hi] at hu
    exact hu
end Go.Proofs.Ytlipgaefflecaaa
end

section
set_option maxRecDepth 100000
set_option linter.unusedSimpArgs false
namespace Go.Proofs.Ytlipgaefflecaaa
open Go.ChangeShapes Go.WideShapes Go.ChangeAt Go.RowKit Go.Deep
set_option linter.unusedVariables false

def ListsD {H : Type} (d : DataW H) (ls : List (List Ent)) : Prop := (d = .nil ∧ ls = []) ∨ ∃ elems spare, d = .slice elems spare ∧ elems.length = ls.length ∧ ∀ i, i < ls.length → ∃ x, elems[i]? = some x ∧ EntsD x (nth ls i)
theorem cellsEs_ : Try.prog.cellsOf 33 = 1 := by kernel_rfl
theorem open_lists {H : Type} {enc : TypeId × Value → H} {W : World} {d : DataW H} {p : List MemPlace} {a : Option Addr} {n c : Nat}
    (h : DataW.Trod enc Try.prog W 0 (fun _ => true) true 22 (.slice a n c) d p) : ∃ ls, Ess W a n c ls ∧ ListsD d ls := by
  obtain ⟨fuel, hf⟩ := h
  simp [Value.cells] at hf
  rcases open_slice1 Try.underlying22 cellsEs_ hf with ⟨hcs, hd⟩ | ⟨x, len, cap, m, k, V, D, Pl, hcs, _, hl, hm, hmm, hd, hel⟩
  · simp at hcs hd
    obtain ⟨rfl, rfl, rfl⟩ := hcs
    exact ⟨[], Ess.nil W, .inl ⟨hd.1, rfl⟩⟩
  · simp at hcs
    obtain ⟨rfl, rfl, rfl⟩ := hcs
    simp only [if_true] at hmm
    simp only [Prod.mk.injEq] at hd
    obtain ⟨ls, hls, hR⟩ := choose_list n (fun i l => ∃ b off ai ni ci, (some x : Option Addr) = some ⟨b, off, none⟩ ∧ W.cell? ⟨b, off + i, none⟩ = some (.slice ai ni ci) ∧ Es W ai ni ci l ∧ EntsD (D i) l) (by
      intro i hi
      obtain ⟨hc, ht⟩ := hel i (by omega)
      obtain ⟨h0, _⟩ := hel 0 (by omega)
      obtain ⟨a', n', c', l, hv, hb, hs⟩ := open_ents_trod ht
      rw [Addr.add_zero'] at h0
      have hsp := World.cell?_spot h0
      obtain ⟨b, off, spot⟩ := x
      simp at hsp
      subst hsp
      rw [Addr.add_lit] at hc
      exact ⟨l, b, off, a', n', c', rfl, by rw [hc, hv], hb, hs⟩)
    refine ⟨ls, ⟨hls, hl, hm, fun i hi => ?_⟩, .inr ⟨_, _, hd.1, by simp [hls], fun i hi => ?_⟩⟩
    · obtain ⟨b, off, ai, ni, ci, h1, h2, h3, _⟩ := hR i hi
      exact ⟨b, off, ai, ni, ci, h1, h2, h3⟩
    · rw [hls] at hi
      obtain ⟨b, off, ai, ni, ci, _, _, _, h4⟩ := hR i hi
      exact ⟨D i, by simp [hi], h4⟩
theorem bulk_listl {H : Type} : ∀ (elems : List (DataW H)) (ls : List (List Ent)), (∀ i, i < ls.length → ∃ x, elems[i]? = some x ∧ EntsD x (nth ls i)) → Ent.totL ls + ls.length ≤ Rows.uptoBulkAll elems := by
  intro elems
  induction elems with
  | nil =>
    intro l h
    cases l with
    | nil => simp [Ent.totL]
    | cons e l => obtain ⟨x, hx, _⟩ := h 0 (by simp); simp at hx
  | cons x elems ih =>
    intro l h
    cases l with
    | nil => simp [Ent.totL]
    | cons e l =>
      obtain ⟨y, hy, hs⟩ := h 0 (by simp)
      simp at hy
      subst hy
      have e0 : nth (e :: l) 0 = e := rfl
      rw [e0] at hs
      have h1 := bulk_ents hs
      have h2 := ih l (fun i hi => by
        obtain ⟨z, hz, hs'⟩ := h (i + 1) (by simp; omega)
        exact ⟨z, by simpa using hz, hs'⟩)
      unfold Ent.totL at *
      simp only [Rows.uptoBulkAll, List.map_cons, List.sum_cons, List.length_cons]
      omega
theorem bulk_lists {H : Type} {d : DataW H} {ls : List (List Ent)} (h : ListsD d ls) : Ent.totL ls + ls.length + 1 ≤ Rows.uptoBulk d := by
  rcases h with ⟨rfl, rfl⟩ | ⟨elems, spare, rfl, _, he⟩
  · simp [Rows.uptoBulk, Ent.totL]
  · have := bulk_listl elems ls he
    simp only [Rows.uptoBulk]
    omega
end Go.Proofs.Ytlipgaefflecaaa
end
