/- From a row's readings to commands, members, configurations. -/
import Derived.Test.YtincllchoflpmaaMsM
import Derived.Test.YtincllchoflpmaaOpen
import Derived.Deep.Fields
import Derived.ChangeSame
namespace Go.Proofs.Ytincllchoflpmaa
open Go.ChangeShapes Go.WideShapes Go.ChangeAt Go.RowKit Go.Deep
set_option linter.unusedVariables false

theorem xs_of {W : World} {a : Option Addr} {n c : Nat} {l : List Cm} (hl : l.length = n) (h1 : n ≤ c) (h2 : c ≤ maxLen) (hg : ∀ i, i < n → ∃ b off, a = some ⟨b, off, none⟩ ∧ CmAt W b (off + i * 4) (nth l i)) : Xs W a n c l := by
  refine ⟨hl, h1, h2, fun j v hj => ?_⟩
  have hjl := (List.getElem?_eq_some_iff.1 hj).1
  rw [xv_len] at hjl
  have hi : j / 4 < l.length := by omega
  obtain ⟨b, off, e, hc⟩ := hg (j / 4) (by omega)
  have hq := xv_get l (j / 4) (j % 4) hi (by omega)
  rw [show j / 4 * 4 + j % 4 = j by omega, hj] at hq
  refine ⟨b, off, e, ?_⟩
  rcases (by omega : j % 4 = 0 ∨ j % 4 = 1 ∨ j % 4 = 2 ∨ j % 4 = 3) with h | h | h | h
  · rw [h] at hq; cases hq; rw [show off + j = off + j / 4 * 4 by omega]; exact hc.kind
  · rw [h] at hq; cases hq; rw [show off + j = off + j / 4 * 4 + 1 by omega]; exact hc.node
  · rw [h] at hq; cases hq; rw [show off + j = off + j / 4 * 4 + 2 by omega]; exact hc.birth
  · rw [h] at hq; cases hq; rw [show off + j = off + j / 4 * 4 + 3 by omega]; exact hc.epoch
theorem ms_of {W : World} {a : Option Addr} {n c : Nat} {l : List Mb} (hl : l.length = n) (h1 : n ≤ c) (h2 : c ≤ maxLen) (hg : ∀ i, i < n → ∃ b off, a = some ⟨b, off, none⟩ ∧ MbAt W b (off + i * 3) (nth l i)) : Ms W a n c l := by
  refine ⟨hl, h1, h2, fun j v hj => ?_⟩
  have hjl := (List.getElem?_eq_some_iff.1 hj).1
  rw [mv_len] at hjl
  have hi : j / 3 < l.length := by omega
  obtain ⟨b, off, e, hc⟩ := hg (j / 3) (by omega)
  have hq := mv_get l (j / 3) (j % 3) hi (by omega)
  rw [show j / 3 * 3 + j % 3 = j by omega, hj] at hq
  refine ⟨b, off, e, ?_⟩
  rcases (by omega : j % 3 = 0 ∨ j % 3 = 1 ∨ j % 3 = 2) with h | h | h
  · rw [h] at hq; cases hq; rw [show off + j = off + j / 3 * 3 by omega]; exact hc.node
  · rw [h] at hq; cases hq; rw [show off + j = off + j / 3 * 3 + 1 by omega]; exact hc.birth
  · rw [h] at hq; cases hq; rw [show off + j = off + j / 3 * 3 + 2 by omega]; exact hc.whole
theorem cellsC_ : Try.prog.cellsOf 45 = 4 := by kernel_rfl
theorem cellsM_ : Try.prog.cellsOf 48 = 3 := by kernel_rfl
theorem cellsG_ : Try.prog.cellsOf 41 = 3 := by kernel_rfl
theorem cells1_ : Try.prog.cellsOf 3 = 1 := by kernel_rfl
set_option maxRecDepth 100000 in
theorem open_cmd_trod {H : Type} {enc : TypeId × Value → H} {W : World} {fuel : Nat} {cs : List Value} {x : DataW H × List MemPlace} (h : DataW.trod enc Try.prog W 0 (fun _ => true) true fuel 45 cs = some x) :
    ∃ e : Cm, cs = xcells e := by
  obtain ⟨ys, n, _, hy, hlen, hyl, hf⟩ := DataW.trod_struct Try.underlying45 h
  rw [cellsC_] at hlen
  match cs, hlen, ys, hyl with
  | [c0, c1, c2, c3], _, [y0, y1, y2, y3], _ =>
    have h0 : DataW.trod enc Try.prog W 0 (fun _ => true) true n 3 (([c0, c1, c2, c3].drop 0).take (Try.prog.cellsOf 3)) = [y0, y1, y2, y3][0]? := hf 0 _ rfl
    have h1 : DataW.trod enc Try.prog W 0 (fun _ => true) true n 3 (([c0, c1, c2, c3].drop 1).take (Try.prog.cellsOf 3)) = [y0, y1, y2, y3][1]? := hf 1 _ rfl
    have h2 : DataW.trod enc Try.prog W 0 (fun _ => true) true n 3 (([c0, c1, c2, c3].drop 2).take (Try.prog.cellsOf 3)) = [y0, y1, y2, y3][2]? := hf 2 _ rfl
    have h3 : DataW.trod enc Try.prog W 0 (fun _ => true) true n 3 (([c0, c1, c2, c3].drop 3).take (Try.prog.cellsOf 3)) = [y0, y1, y2, y3][3]? := hf 3 _ rfl
    rw [cells1_] at h0 h1 h2 h3
    simp only [List.drop_zero, List.drop_succ_cons, List.take_succ_cons, List.take_zero, List.getElem?_cons_zero, List.getElem?_cons_succ] at h0 h1 h2 h3
    obtain ⟨z0, e0, _⟩ := DataW.trod_int Try.underlying3 h0
    obtain ⟨z1, e1, _⟩ := DataW.trod_int Try.underlying3 h1
    obtain ⟨z2, e2, _⟩ := DataW.trod_int Try.underlying3 h2
    obtain ⟨z3, e3, _⟩ := DataW.trod_int Try.underlying3 h3
    cases e0; cases e1; cases e2; cases e3
    exact ⟨⟨z0, z1, z2, z3⟩, rfl⟩
set_option maxRecDepth 100000 in
theorem open_mb_trod {H : Type} {enc : TypeId × Value → H} {W : World} {fuel : Nat} {cs : List Value} {x : DataW H × List MemPlace} (h : DataW.trod enc Try.prog W 0 (fun _ => true) true fuel 48 cs = some x) :
    ∃ e : Mb, cs = mcells e := by
  obtain ⟨ys, n, _, hy, hlen, hyl, hf⟩ := DataW.trod_struct Try.underlying48 h
  rw [cellsM_] at hlen
  match cs, hlen, ys, hyl with
  | [c0, c1, c2], _, [y0, y1, y2], _ =>
    have h0 : DataW.trod enc Try.prog W 0 (fun _ => true) true n 3 (([c0, c1, c2].drop 0).take (Try.prog.cellsOf 3)) = [y0, y1, y2][0]? := hf 0 _ rfl
    have h1 : DataW.trod enc Try.prog W 0 (fun _ => true) true n 3 (([c0, c1, c2].drop 1).take (Try.prog.cellsOf 3)) = [y0, y1, y2][1]? := hf 1 _ rfl
    have h2 : DataW.trod enc Try.prog W 0 (fun _ => true) true n 4 (([c0, c1, c2].drop 2).take (Try.prog.cellsOf 4)) = [y0, y1, y2][2]? := hf 2 _ rfl
    rw [cells1_] at h0 h1
    rw [show Try.prog.cellsOf 4 = 1 by kernel_rfl] at h2
    simp only [List.drop_zero, List.drop_succ_cons, List.take_succ_cons, List.take_zero, List.getElem?_cons_zero, List.getElem?_cons_succ] at h0 h1 h2
    obtain ⟨z0, e0, _⟩ := DataW.trod_int Try.underlying3 h0
    obtain ⟨z1, e1, _⟩ := DataW.trod_int Try.underlying3 h1
    obtain ⟨z2, e2, _⟩ := DataW.trod_bool Try.underlying4 h2
    cases e0; cases e1; cases e2
    exact ⟨⟨z0, z1, z2⟩, rfl⟩
theorem open_cmds {H : Type} {enc : TypeId × Value → H} {W : World} {d : DataW H} {p : List MemPlace} {a : Option Addr} {n c : Nat}
    (h : DataW.Trod enc Try.prog W 0 (fun _ => true) true 37 (.slice a n c) d p) : ∃ l, Xs W a n c l ∧ SizeOf d n := by
  obtain ⟨fuel, hf⟩ := h
  simp [Value.cells] at hf
  rcases open_slice Try.underlying37 hf with ⟨hcs, hd⟩ | ⟨x, len, cap, m, n', D, Pl, hcs, _, hl, hm, hmm, hd, hel⟩
  · simp at hcs hd
    obtain ⟨⟨rfl, rfl, rfl⟩, rfl, rfl⟩ := And.intro hcs hd
    exact ⟨[], ⟨rfl, Nat.le_refl _, by simp [maxLen], Row.nil _ _⟩, .inl ⟨rfl, rfl⟩⟩
  · simp at hcs
    obtain ⟨rfl, rfl, rfl⟩ := hcs
    simp only [if_true] at hmm
    rw [cellsC_] at hd hel
    simp only [Prod.mk.injEq] at hd
    obtain ⟨l, hll, hR⟩ := choose_list n (fun i e => ∃ b off, (some x : Option Addr) = some ⟨b, off, none⟩ ∧ CmAt W b (off + i * 4) e) (by
      intro i hi
      obtain ⟨cs', hc, ht⟩ := hel i (by omega)
      obtain ⟨e, h1⟩ := open_cmd_trod ht
      obtain ⟨_, hcl, hat⟩ := World.cells?_some hc
      subst h1
      have hk : ∀ j v, (xcells e)[j]? = some v → W.cell? ((x.add (i * 4)).add j) = some v := fun j v hj => by
        have hj4 : j < 4 := by
          have := (List.getElem?_eq_some_iff.1 hj).1
          simpa [xcells] using this
        rw [hat j hj4]
        exact hj
      obtain ⟨cs0, hc0, ht0⟩ := hel 0 (by omega)
      obtain ⟨e', h1'⟩ := open_cmd_trod ht0
      obtain ⟨_, _, hat0⟩ := World.cells?_some hc0
      subst h1'
      have hz := hat0 0 (by omega)
      rw [Nat.zero_mul, Addr.add_zero', Addr.add_zero'] at hz
      have hsp := World.cell?_spot hz
      obtain ⟨b, off, spot⟩ := x
      simp at hsp
      subst hsp
      refine ⟨e, b, off, rfl, ⟨?_, ?_, ?_, ?_⟩⟩
      · have := hk 0 _ rfl; simpa [Addr.add_lit] using this
      · have := hk 1 _ rfl; simpa [Addr.add_lit] using this
      · have := hk 2 _ rfl; simpa [Addr.add_lit] using this
      · have := hk 3 _ rfl; simpa [Addr.add_lit] using this)
    exact ⟨l, xs_of hll hl hm hR, .inr ⟨_, _, hd.1, by simp⟩⟩
set_option maxRecDepth 100000 in
theorem open_mbs_trod {H : Type} {enc : TypeId × Value → H} {W : World} {fuel : Nat} {v : Value} {y : DataW H × List MemPlace} (h : DataW.trod enc Try.prog W 0 (fun _ => true) true fuel 38 [v] = some y) :
    ∃ a n c l, v = .slice a n c ∧ Ms W a n c l := by
  rcases open_slice Try.underlying38 h with ⟨hcs, hd⟩ | ⟨x, n, cap, m, n', D, Pl, hcs, _, hl, hm, hmm, hd, hel⟩
  · simp at hcs
    exact ⟨none, 0, 0, [], hcs, Ms.nil W⟩
  · simp at hcs
    subst hcs
    simp only [if_true] at hmm
    rw [cellsM_] at hd hel
    obtain ⟨l, hll, hR⟩ := choose_list n (fun i e => ∃ b off, (some x : Option Addr) = some ⟨b, off, none⟩ ∧ MbAt W b (off + i * 3) e) (by
      intro i hi
      obtain ⟨cs', hc, ht⟩ := hel i (by omega)
      obtain ⟨e, h1⟩ := open_mb_trod ht
      obtain ⟨_, hcl, hat⟩ := World.cells?_some hc
      subst h1
      have hk : ∀ j v, (mcells e)[j]? = some v → W.cell? ((x.add (i * 3)).add j) = some v := fun j v hj => by
        have hj4 : j < 3 := by
          have := (List.getElem?_eq_some_iff.1 hj).1
          simpa [mcells] using this
        rw [hat j hj4]
        exact hj
      obtain ⟨cs0, hc0, ht0⟩ := hel 0 (by omega)
      obtain ⟨e', h1'⟩ := open_mb_trod ht0
      obtain ⟨_, _, hat0⟩ := World.cells?_some hc0
      subst h1'
      have hz := hat0 0 (by omega)
      rw [Nat.zero_mul, Addr.add_zero', Addr.add_zero'] at hz
      have hsp := World.cell?_spot hz
      obtain ⟨b, off, spot⟩ := x
      simp at hsp
      subst hsp
      refine ⟨e, b, off, rfl, ⟨?_, ?_, ?_⟩⟩
      · have := hk 0 _ rfl; simpa [Addr.add_lit] using this
      · have := hk 1 _ rfl; simpa [Addr.add_lit] using this
      · have := hk 2 _ rfl; simpa [Addr.add_lit] using this)
    exact ⟨some x, n, cap, l, rfl, ms_of hll hl hm hR⟩
set_option maxRecDepth 100000 in
theorem open_cmd {H : Type} {enc : TypeId × Value → H} {W : World} {b0 : Nat} {v : Value} {d : DataW H} {p : List MemPlace} (hv : Value.okWide Try.prog W .any b0 45 v) (h : DataW.Trod enc Try.prog W 0 (fun _ => true) true 45 v d p) :
    ∃ x : Cm, v = xval x := by
  obtain ⟨cs, rfl, hsz⟩ := okWide_struct Try.underlying45 hv
  obtain ⟨fuel, hf⟩ := h
  obtain ⟨e, h1⟩ := open_cmd_trod hf
  refine ⟨e, ?_⟩
  simp only [Value.cells] at h1
  obtain ⟨l⟩ := cs
  simp only at h1
  subst h1
  rfl
set_option maxRecDepth 100000 in
theorem open_ints_trod {H : Type} {enc : TypeId × Value → H} {W : World} {fuel : Nat} {v : Value} {y : DataW H × List MemPlace} (h : DataW.trod enc Try.prog W 0 (fun _ => true) true fuel 39 [v] = some y) :
    ∃ a n c l, v = .slice a n c ∧ Is W a n c l := by
  have hk : ∃ a n c, v = .slice a n c := by
    rcases open_slice Try.underlying39 h with ⟨hcs, hd⟩ | ⟨x, n, cap, m, n', D, Pl, hcs, _⟩
    · simp at hcs; exact ⟨_, _, _, hcs⟩
    · simp at hcs; exact ⟨_, _, _, hcs⟩
  obtain ⟨a, n, c, rfl⟩ := hk
  obtain ⟨l, h1, _⟩ := open_intlist (d := y.1) (p := y.2) ⟨fuel, by simpa [Value.cells] using h⟩
  exact ⟨a, n, c, l, rfl, h1⟩
set_option maxRecDepth 100000 in
/-- A configuration that is handed in. -/
theorem open_cfg {H : Type} {enc : TypeId × Value → H} {W : World} {b0 : Nat} {v : Value} {d : DataW H} {p : List MemPlace} (hv : Value.okWide Try.prog W .any b0 41 v) (h : DataW.Trod enc Try.prog W 0 (fun _ => true) true 41 v d p) :
    ∃ (c : Cf) (ac ast : Option Addr) (cc cs : Nat), v = cval c ac cc ast cs ∧ CfR W c ac cc ast cs := by
  obtain ⟨cs, rfl, hsz⟩ := okWide_struct Try.underlying41 hv
  obtain ⟨fuel, hf⟩ := h
  obtain ⟨ys, n, _, hy, hlen, hyl, hf'⟩ := DataW.trod_struct Try.underlying41 hf
  rw [cellsG_] at hlen
  simp only [Value.cells] at hlen hf'
  obtain ⟨l⟩ := cs
  simp only at hlen hf'
  match l, hlen, ys, hyl with
  | [c0, c1, c2], _, [y0, y1, y2], _ =>
    have h0 : DataW.trod enc Try.prog W 0 (fun _ => true) true n 3 (([c0, c1, c2].drop 0).take (Try.prog.cellsOf 3)) = [y0, y1, y2][0]? := hf' 0 _ rfl
    have h1 : DataW.trod enc Try.prog W 0 (fun _ => true) true n 38 (([c0, c1, c2].drop 1).take (Try.prog.cellsOf 38)) = [y0, y1, y2][1]? := hf' 1 _ rfl
    have h2 : DataW.trod enc Try.prog W 0 (fun _ => true) true n 39 (([c0, c1, c2].drop 2).take (Try.prog.cellsOf 39)) = [y0, y1, y2][2]? := hf' 2 _ rfl
    rw [cells1_] at h0
    rw [show Try.prog.cellsOf 38 = 1 by kernel_rfl] at h1
    rw [show Try.prog.cellsOf 39 = 1 by kernel_rfl] at h2
    simp only [List.drop_zero, List.drop_succ_cons, List.take_succ_cons, List.take_zero, List.getElem?_cons_zero, List.getElem?_cons_succ] at h0 h1 h2
    obtain ⟨z0, e0, _⟩ := DataW.trod_int Try.underlying3 h0
    obtain ⟨a1, n1, k1, l1, e1, hm⟩ := open_mbs_trod h1
    obtain ⟨a2, n2, k2, l2, e2, hi⟩ := open_ints_trod h2
    cases e0; cases e1; cases e2
    obtain rfl : n1 = l1.length := hm.1.symm
    obtain rfl : n2 = l2.length := hi.1.symm
    exact ⟨⟨z0, l1, l2⟩, a1, a2, k1, k2, rfl, hm, hi⟩
end Go.Proofs.Ytincllchoflpmaa
