/- What the bound of an Upto statement gives: sizes of what is read. -/
import Derived.Test.YtjigfinpbdglnaaGreatDoorZOpenB
import Derived.Test.YtjigfinpbdglnaaGreatDoorZScG
import Derived.Deep.Fields
import Derived.ChangeSame
import Derived.Test.YtjigfinpbdglnaaGreatDoorCards
import Derived.Test.YtjigfinpbdglnaaGreatDoorTie
import Derived.Test.YtjigfinpbdglnaaGreatDoorZSoK
import Derived.WalkKit
import Derived.ProofKit
import Derived.OpenShut
import Derived.Deep.DeepHandedRow
import Derived.Lib.LaidTab
import Derived.LaidHandle
set_option linter.unusedVariables false
set_option linter.unusedSimpArgs false
section
namespace Go.Proofs.YtjigfinpbdglnaaGreatDoor
open Go.RowKit

theorem bulk_one {H : Type} (d : DataW H) : 1 ≤ Rows.uptoBulk d := by
  cases d with
  | lit l => cases l <;> simp [Rows.uptoBulk]
  | nil => simp [Rows.uptoBulk]
  | ptr d => simp [Rows.uptoBulk]
  | slice elems spare => simp [Rows.uptoBulk]
  | agg parts => simp [Rows.uptoBulk]
  | iface t d => simp [Rows.uptoBulk]
  | map entries => simp [Rows.uptoBulk]
  | held h => simp [Rows.uptoBulk]
theorem bulk_part {H : Type} {d : DataW H} {l : List (DataW H)} (h : d ∈ l) : Rows.uptoBulk d ≤ Rows.uptoBulkAll l := by
  induction l with
  | nil => cases h
  | cons x r ih =>
    simp only [Rows.uptoBulkAll]
    cases List.mem_cons.1 h with
    | inl e => subst e; omega
    | inr e => have := ih e; omega
theorem bulk_length {H : Type} (l : List (DataW H)) : l.length ≤ Rows.uptoBulkAll l := by
  induction l with
  | nil => simp [Rows.uptoBulkAll]
  | cons x r ih => have := bulk_one x; simp only [Rows.uptoBulkAll, List.length_cons]; omega
theorem bulk_bound {H : Type} {l : List (DataW H)} (hk : Rows.uptoSmall H l = true) : Rows.uptoBulkAll l ≤ 1048576 := of_decide_eq_true hk
theorem bulk_size {H : Type} {d : DataW H} {n : Nat} (h : SizeOf d n) : n + 1 ≤ Rows.uptoBulk d := by
  rcases h with ⟨rfl, rfl⟩ | ⟨elems, spare, rfl, rfl⟩
  · simp [Rows.uptoBulk]
  · have := bulk_length elems; simp only [Rows.uptoBulk]; omega
end Go.Proofs.YtjigfinpbdglnaaGreatDoor
end

section
set_option maxRecDepth 100000
set_option linter.unusedSimpArgs false
namespace Go.Proofs.YtjigfinpbdglnaaGreatDoor
open Go.ChangeShapes Go.WideShapes Go.ChangeAt Go.RowKit Go.Deep
set_option linter.unusedVariables false

def entL (e : Ent) (a : Option Addr) (c : Nat) : List Value := [.string (bstr e.key), .int .u64 e.seq, .bool e.gone, .slice a e.val.length c]
/-- What an entry's datum says of its sizes. -/
def EntD {H : Type} (d : DataW H) (e : Ent) : Prop := ∃ z dv, d = .agg [.lit (.string e.key), .lit (.int .u64 z), .lit (.bool e.gone), dv] ∧ SizeOf dv e.val.length ∧ U64 e.seq
def EntsD {H : Type} (d : DataW H) (l : List Ent) : Prop := (d = .nil ∧ l = []) ∨ ∃ elems spare, d = .slice elems spare ∧ elems.length = l.length ∧ ∀ i, i < l.length → ∃ x, elems[i]? = some x ∧ EntD x (nth l i)
theorem cellsE_ : Tryz.prog.cellsOf 37 = 4 := by kernel_rfl
theorem open_ent_trod {H : Type} {enc : TypeId × Value → H} {W : World} {fuel : Nat} {cs : List Value} {x : DataW H × List MemPlace} (h : DataW.trod enc Tryz.prog W 0 (fun _ => true) true fuel 37 cs = some x) :
    ∃ (e : Ent) (a : Option Addr) (c : Nat), cs = [.string (bstr e.key), .int .u64 e.seq, .bool e.gone, .slice a e.val.length c] ∧ Bs W a e.val.length c e.val ∧ EntD x.1 e := by
  obtain ⟨ys, n, _, hy, hlen, hyl, hf⟩ := DataW.trod_struct Tryz.underlying37 h
  rw [cellsE_] at hlen
  match cs, hlen, ys, hyl with
  | [c0, c1, c2, c3], _, [y0, y1, y2, y3], _ =>
    have h0 : DataW.trod enc Tryz.prog W 0 (fun _ => true) true n 9 (([c0, c1, c2, c3].drop 0).take (Tryz.prog.cellsOf 9)) = [y0, y1, y2, y3][0]? := hf 0 _ rfl
    have h1 : DataW.trod enc Tryz.prog W 0 (fun _ => true) true n 31 (([c0, c1, c2, c3].drop 1).take (Tryz.prog.cellsOf 31)) = [y0, y1, y2, y3][1]? := hf 1 _ rfl
    have h2 : DataW.trod enc Tryz.prog W 0 (fun _ => true) true n 4 (([c0, c1, c2, c3].drop 2).take (Tryz.prog.cellsOf 4)) = [y0, y1, y2, y3][2]? := hf 2 _ rfl
    have h3 : DataW.trod enc Tryz.prog W 0 (fun _ => true) true n 22 (([c0, c1, c2, c3].drop 3).take (Tryz.prog.cellsOf 22)) = [y0, y1, y2, y3][3]? := hf 3 _ rfl
    rw [show Tryz.prog.cellsOf 9 = 1 by kernel_rfl] at h0
    rw [show Tryz.prog.cellsOf 31 = 1 by kernel_rfl] at h1
    rw [show Tryz.prog.cellsOf 4 = 1 by kernel_rfl] at h2
    rw [show Tryz.prog.cellsOf 22 = 1 by kernel_rfl] at h3
    simp only [List.drop_zero, List.drop_succ_cons, List.take_succ_cons, List.take_zero, List.getElem?_cons_zero, List.getElem?_cons_succ] at h0 h1 h2 h3
    obtain ⟨s, e0, e0', _⟩ := DataW.trod_string Tryz.underlying9 h0
    obtain ⟨z, e1, e1', hz⟩ := DataW.trod_int Tryz.underlying31 h1
    obtain ⟨b, e2, e2'⟩ := DataW.trod_bool Tryz.underlying4 h2
    obtain ⟨y, p⟩ := y3
    obtain ⟨a, m, c, l, e3, hb, hs⟩ := open_bytes_trod h3
    obtain ⟨k, rfl, uk⟩ := u64_of_wf hz
    cases e0; cases e1; cases e2; cases e3
    obtain rfl : m = l.length := hb.1.symm
    refine ⟨⟨s.data.toList, k, b, l⟩, a, c, ?_, hb, ?_⟩
    · have : bstr s.data.toList = s := by cases s; rfl
      rw [this]
    · refine ⟨(k : Int), y, ?_, hs, uk⟩
      rw [hy, e0', e1', e2']
      rfl
theorem open_ent {H : Type} {enc : TypeId × Value → H} {W : World} {b0 : Nat} {v : Value} {d : DataW H} {p : List MemPlace} (hv : Value.okWide Tryz.prog W .any b0 37 v) (h : DataW.Trod enc Tryz.prog W 0 (fun _ => true) true 37 v d p) :
    ∃ (e : Ent) (a : Option Addr) (c : Nat), v = ev e a c ∧ Bs W a e.val.length c e.val ∧ EntD d e := by
  obtain ⟨cs, rfl, hsz⟩ := okWide_struct Tryz.underlying37 hv
  obtain ⟨fuel, hf⟩ := h
  obtain ⟨ys, n, _, hy, hlen, hyl, hf'⟩ := DataW.trod_struct Tryz.underlying37 hf
  obtain ⟨e, a, c, h1, h2, h3⟩ := open_ent_trod hf
  refine ⟨e, a, c, ?_, h2, h3⟩
  simp only [Value.cells] at h1
  obtain ⟨l⟩ := cs
  simp only at h1
  subst h1
  rfl
/-- A slice of entries. -/
theorem open_ents_trod {H : Type} {enc : TypeId × Value → H} {W : World} {fuel : Nat} {v : Value} {d : DataW H} {p : List MemPlace} (h : DataW.trod enc Tryz.prog W 0 (fun _ => true) true fuel 30 [v] = some (d, p)) :
    ∃ a n c l, v = .slice a n c ∧ Es W a n c l ∧ EntsD d l := by
  rcases open_slice Tryz.underlying30 h with ⟨hcs, hd⟩ | ⟨x, len, cap, m, n, D, Pl, hcs, _, hl, hm, hmm, hd, hel⟩
  · simp at hcs
    exact ⟨none, 0, 0, [], hcs, Es.nil W, .inl ⟨congrArg Prod.fst hd, rfl⟩⟩
  · simp at hcs
    simp only [if_true] at hmm
    rw [cellsE_] at hd hel
    simp only [Prod.mk.injEq] at hd
    obtain ⟨l, hll, hR⟩ := choose_list len (fun i e => ∃ b off ai ci, (some x : Option Addr) = some ⟨b, off, none⟩ ∧ EntAt W b (off + i * 4) e ai ci ∧ Bs W ai e.val.length ci e.val ∧ EntD (D i) e) (by
      intro i hi
      obtain ⟨cs', hc, ht⟩ := hel i (by omega)
      obtain ⟨e, a, c, h1, h2, h3⟩ := open_ent_trod ht
      obtain ⟨_, hcl, hat⟩ := World.cells?_some hc
      subst h1
      have h0 := hat 0 (by omega)
      have hk : ∀ j v, (entL e a c)[j]? = some v → W.cell? ((x.add (i * 4)).add j) = some v := fun j v hj => by
        have hj4 : j < 4 := by
          have := (List.getElem?_eq_some_iff.1 hj).1
          simpa [entL] using this
        rw [hat j hj4]
        exact hj
      obtain ⟨cs0, hc0, ht0⟩ := hel 0 (by omega)
      obtain ⟨e', a', c', h1', _, _⟩ := open_ent_trod ht0
      obtain ⟨_, _, hat0⟩ := World.cells?_some hc0
      subst h1'
      have hz := hat0 0 (by omega)
      rw [Nat.zero_mul, Addr.add_zero', Addr.add_zero'] at hz
      have hsp := World.cell?_spot hz
      obtain ⟨b, off, spot⟩ := x
      simp at hsp
      subst hsp
      refine ⟨e, b, off, a, c, rfl, ⟨?_, ?_, ?_, ?_⟩, h2, h3⟩
      · have := hk 0 _ rfl; simpa [Addr.add_lit] using this
      · have := hk 1 _ rfl; simpa [Addr.add_lit] using this
      · have := hk 2 _ rfl; simpa [Addr.add_lit] using this
      · have := hk 3 _ rfl; simpa [Addr.add_lit] using this)
    refine ⟨some x, len, cap, l, hcs, ⟨hll, hl, hm, fun i hi => ?_⟩, .inr ⟨_, _, hd.1, by simp [hll], fun i hi => ?_⟩⟩
    · obtain ⟨b, off, ai, ci, h1, h2, h3, _⟩ := hR i hi
      exact ⟨b, off, ai, ci, h1, h2, h3⟩
    · rw [hll] at hi
      obtain ⟨b, off, ai, ci, _, _, _, h4⟩ := hR i hi
      exact ⟨D i, by simp [hi], h4⟩
theorem open_ents {H : Type} {enc : TypeId × Value → H} {W : World} {d : DataW H} {p : List MemPlace} {a : Option Addr} {n c : Nat}
    (h : DataW.Trod enc Tryz.prog W 0 (fun _ => true) true 30 (.slice a n c) d p) : ∃ l, Es W a n c l ∧ EntsD d l := by
  obtain ⟨fuel, hf⟩ := h
  simp [Value.cells] at hf
  obtain ⟨a', n', c', l, h1, h2, h3⟩ := open_ents_trod hf
  cases h1
  exact ⟨l, h2, h3⟩
theorem bulk_ent {H : Type} {d : DataW H} {e : Ent} (h : EntD d e) : e.key.length + e.val.length + 5 ≤ Rows.uptoBulk d := by
  obtain ⟨z, dv, rfl, hs, _⟩ := h
  have := bulk_size hs
  simp only [Rows.uptoBulk, Rows.uptoBulkAll]
  omega
theorem bulk_entl {H : Type} : ∀ (elems : List (DataW H)) (l : List Ent), (∀ i, i < l.length → ∃ x, elems[i]? = some x ∧ EntD x (nth l i)) → Ent.tot l + l.length ≤ Rows.uptoBulkAll elems := by
  intro elems
  induction elems with
  | nil =>
    intro l h
    cases l with
    | nil => simp [Ent.tot]
    | cons e l => obtain ⟨x, hx, _⟩ := h 0 (by simp); simp at hx
  | cons x elems ih =>
    intro l h
    cases l with
    | nil => simp [Ent.tot]
    | cons e l =>
      obtain ⟨y, hy, hs⟩ := h 0 (by simp)
      simp at hy
      subst hy
      have e0 : nth (e :: l) 0 = e := rfl
      rw [e0] at hs
      have h1 := bulk_ent hs
      have h2 := ih l (fun i hi => by
        obtain ⟨z, hz, hs'⟩ := h (i + 1) (by simp; omega)
        exact ⟨z, by simpa using hz, hs'⟩)
      unfold Ent.tot at *
      simp only [Rows.uptoBulkAll, List.map_cons, List.sum_cons, List.length_cons]
      omega
theorem bulk_ents {H : Type} {d : DataW H} {l : List Ent} (h : EntsD d l) : Ent.tot l + l.length + 1 ≤ Rows.uptoBulk d := by
  rcases h with ⟨rfl, rfl⟩ | ⟨elems, spare, rfl, _, he⟩
  · simp [Rows.uptoBulk, Ent.tot]
  · have := bulk_entl elems l he
    simp only [Rows.uptoBulk]
    omega
theorem ents_u64 {H : Type} {d : DataW H} {l : List Ent} (h : EntsD d l) : ∀ e ∈ l, U64 e.seq := fun e he => by
  rcases h with ⟨_, rfl⟩ | ⟨elems, spare, _, _, hh⟩
  · cases he
  · obtain ⟨i, hi, rfl⟩ := List.getElem_of_mem he
    obtain ⟨x, _, z, dv, _, _, hu⟩ := hh i hi
    rw [nth_eq _ hi] at hu
    exact hu
end Go.Proofs.YtjigfinpbdglnaaGreatDoor
end

section
set_option linter.unusedVariables false
namespace Go.Proofs.YtjigfinpbdglnaaGreatDoor
open Go.RowKit

theorem gPowType_ : (Tryz.prog.globals[1]?).map (·.type) = some 185 := by kernel_rfl
theorem cellsPow_ : Tryz.prog.cellsOf 185 = 20 := by kernel_rfl
theorem cellsU64_ : Tryz.prog.cellsOf 31 = 1 := by kernel_rfl
theorem laid_third {P : Program} {W : World} {x y z : String × DataW Unit} {rest : List (String × DataW Unit)} (h : laidMet P (x :: y :: z :: rest) W) :
    ∃ g t cs fuel p, P.globalNamed z.1 = some g ∧ (P.globals[g]?).map (·.type) = some t ∧ W.var? P z.1 = some cs ∧ DataW.trod (fun _ => ()) P W 0 (fun _ => true) false fuel t cs.toList = some (z.2, p) := by
  obtain ⟨n, d⟩ := x
  obtain ⟨n', d'⟩ := y
  obtain ⟨n'', d''⟩ := z
  obtain ⟨ps, ⟨g, t, cs, fuel, p, q, _, _, _, _, ⟨g', t', cs', fuel', p', q', _, _, _, _, ⟨g'', t'', cs'', fuel'', p'', q'', h1, h2, h3, h4, _, _⟩, _⟩, _⟩, _⟩ := h
  exact ⟨g'', t'', cs'', fuel'', p'', h1, h2, h3, h4⟩
theorem hasET_ : Tryz.prog.globalNamed "errors.errorType" = some 0 := by kernel_rfl
theorem hasRT_ : (Tryz.prog.cutTypes.find? (·.1 == "internal/reflectlite.rtype")).map (·.2) = some 151 := by kernel_rfl
theorem oneRow_ : ((List.range Tryz.prog.types.size).filter fun t => Tryz.prog.rowNamed t [101, 114, 114, 111, 114]) = [55] := by kernel_rfl
theorem laid_of {W : World} (h : laidMetH Tryz.prog [("math/bits.deBruijn32tab", Rows.laid_math_bits_deBruijn32tab), ("math/bits.deBruijn64tab", Rows.laid_math_bits_deBruijn64tab), ("internal/strconv.uint64pow10", Rows.laid_internal_strconv_uint64pow10), ("errors.errorType", Rows.laid_errors_errorType)] W) : Cst W := by
  have h' : laidMet Tryz.prog [("math/bits.deBruijn32tab", Rows.laid_math_bits_deBruijn32tab), ("math/bits.deBruijn64tab", Rows.laid_math_bits_deBruijn64tab), ("internal/strconv.uint64pow10", Lib.tabData .u64 Lib.pow10Tab)] W ∧ handlesMet Tryz.prog [("errors.errorType", Rows.laid_errors_errorType)] W := h
  refine ⟨?_, ?_⟩
  · obtain ⟨name, u, ty, e1, e2, e3, e4, e5⟩ := h'.2 _ (List.mem_singleton.2 rfl)
    have en : name = [101, 114, 114, 111, 114] := (Option.some.inj e1).symm
    subst en
    obtain rfl := Option.some.inj (hasRT_.symm.trans e2)
    have hm : ty ∈ (List.range Tryz.prog.types.size).filter fun t => Tryz.prog.rowNamed t [101, 114, 114, 111, 114] := List.mem_filter.2 ⟨List.mem_range.2 e3, e4⟩
    rw [oneRow_] at hm
    obtain rfl := List.mem_singleton.1 hm
    have hh : typeHandle Tryz.prog 55 = .pointer (some ⟨4, 55, none⟩) := by kernel_rfl
    rw [hh] at e5
    simpa using World.var?_cell hasET_ e5 0
  · obtain ⟨g', t', cs, fuel, p, hg', ht', hvar, hd⟩ := laid_third h'.1
    obtain rfl := Option.some.inj (gPow_.symm.trans hg')
    obtain rfl := Option.some.inj (gPowType_.symm.trans ht')
    unfold Lib.TabIs
    rw [hvar, ← Lib.cells_of_tab Tryz.underlying185 Tryz.underlying31 cellsU64_ cellsPow_ hd]
def putRow (h : Array Obj) (g : Nat) (cs : Array Value) : Array Obj := h.modify g fun
  | .cells _ t frozen => .cells cs t frozen
  | o => o
/-- A world for the witness. -/
noncomputable def laidWorld (os : Os) : World :=
  { World.holding Tryz.prog os ⟨#[], #[], []⟩ with heap := putRow (putRow (putRow (putRow (World.holding Tryz.prog os ⟨#[], #[], []⟩).heap 2 #[.int .u8 0, .int .u8 1, .int .u8 28, .int .u8 2, .int .u8 29, .int .u8 14, .int .u8 24, .int .u8 3, .int .u8 30, .int .u8 22, .int .u8 20, .int .u8 15, .int .u8 25, .int .u8 17, .int .u8 4, .int .u8 8, .int .u8 31, .int .u8 27, .int .u8 13, .int .u8 23, .int .u8 21, .int .u8 19, .int .u8 16, .int .u8 7, .int .u8 26, .int .u8 12, .int .u8 18, .int .u8 6, .int .u8 11, .int .u8 5, .int .u8 10, .int .u8 9]) 3 #[.int .u8 0, .int .u8 1, .int .u8 56, .int .u8 2, .int .u8 57, .int .u8 49, .int .u8 28, .int .u8 3, .int .u8 61, .int .u8 58, .int .u8 42, .int .u8 50, .int .u8 38, .int .u8 29, .int .u8 17, .int .u8 4, .int .u8 62, .int .u8 47, .int .u8 59, .int .u8 36, .int .u8 45, .int .u8 43, .int .u8 51, .int .u8 22, .int .u8 53, .int .u8 39, .int .u8 33, .int .u8 30, .int .u8 24, .int .u8 18, .int .u8 12, .int .u8 5, .int .u8 63, .int .u8 55, .int .u8 48, .int .u8 27, .int .u8 60, .int .u8 41, .int .u8 37, .int .u8 16, .int .u8 46, .int .u8 35, .int .u8 44, .int .u8 21, .int .u8 52, .int .u8 32, .int .u8 23, .int .u8 11, .int .u8 54, .int .u8 26, .int .u8 40, .int .u8 15, .int .u8 34, .int .u8 20, .int .u8 31, .int .u8 10, .int .u8 25, .int .u8 14, .int .u8 19, .int .u8 9, .int .u8 13, .int .u8 8, .int .u8 7, .int .u8 6]) 1 #[.int .u64 1, .int .u64 10, .int .u64 100, .int .u64 1000, .int .u64 10000, .int .u64 100000, .int .u64 1000000, .int .u64 10000000, .int .u64 100000000, .int .u64 1000000000, .int .u64 10000000000, .int .u64 100000000000, .int .u64 1000000000000, .int .u64 10000000000000, .int .u64 100000000000000, .int .u64 1000000000000000, .int .u64 10000000000000000, .int .u64 100000000000000000, .int .u64 1000000000000000000, .int .u64 10000000000000000000]) 0 #[.iface 151 (.agg #[.pointer (some ⟨4, 55, none⟩)])] }
end Go.Proofs.YtjigfinpbdglnaaGreatDoor
end
