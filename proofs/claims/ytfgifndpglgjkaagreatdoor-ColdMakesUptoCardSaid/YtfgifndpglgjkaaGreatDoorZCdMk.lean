/- Cold stripes: ColdMakes. -/
import Derived.Test.YtfgifndpglgjkaaGreatDoorZCdZ
import Derived.Test.YtfgifndpglgjkaaGreatDoorZRows2
import Derived.Test.YtfgifndpglgjkaaGreatDoorZCdJ
import Derived.Deep.Fields
import Derived.ChangeSame
import Derived.Test.YtfgifndpglgjkaaGreatDoorCards
import Derived.Test.YtfgifndpglgjkaaGreatDoorTie
import Derived.Test.YtfgifndpglgjkaaGreatDoorZCdC
import Derived.WalkKit
import Derived.ProofKit
import Derived.OpenShut
import Derived.Deep.DeepHandedRow
import Derived.Lib.LaidTab
set_option linter.unusedVariables false
set_option linter.unusedSimpArgs false
section
set_option maxRecDepth 100000
set_option linter.unusedVariables false
set_option linter.unusedSimpArgs false
namespace Go.Proofs.YtfgifndpglgjkaaGreatDoor
open Go.RowKit

theorem zero_ok : Cd.zero.Ok := ⟨⟨by show (0 : Nat) < _; omega⟩, ⟨by show (0 : Nat) < _; omega⟩, ⟨by show (-9223372036854775808 : Int) ≤ 0; omega, by show (0 : Int) ≤ _; omega⟩, ⟨by show (-9223372036854775808 : Int) ≤ 0; omega, by show (0 : Int) ≤ _; omega⟩, ⟨by show (-9223372036854775808 : Int) ≤ 0; omega, by show (0 : Int) ≤ _; omega⟩⟩
theorem zero_i64 : I64 (0 : Int) := ⟨by omega, by omega⟩
theorem zero_fit : ¬ Rs.fit 0 0 := by unfold Rs.fit; omega
theorem is_nil (w : World) : Is w none 0 0 [] := ⟨rfl, Nat.le_refl _, by simp [maxLen], Row.nil _ _, fun z hz => by cases hz⟩
theorem coldMakes_walk (bk key : List UInt8) (v : Nat) (size : Int) (ad : Option Addr) (nd cd : Nat) (d : List UInt8) (k m : Int) (an : Option Addr) (nn cn : Nat) (l : List Int) (idx : Int) (as_ : Option Addr) (ns cs : Nat) (s : List UInt8) (w : World)
    (hd : Bs w ad nd cd d) (hl : Is w an nn cn l) (hs : Bs w as_ ns cs s) (hv : U64 v) (hk : I64 k) (hm : I64 m) (hi : Cd.I64 idx) (hc : Cst w) (hnd : nd ≤ 2000000) (hns : ns ≤ 2000000) (hnn : nn ≤ 2000000) :
    Calls Tryz.prog 3 #[Cd.hv bk key v size, .slice ad nd cd, .int .i64 k, .int .i64 m, .slice an nn cn, .int .i64 idx, .slice as_ ns cs] w fun e w' => e = .returned (.bool true) ∧ Below w.heap.size w w' := by
  have hdl := hd.1
  by_cases hok : Cd.pok k m nn nd size l
  · obtain ⟨hfit, hn, hall, hsz⟩ := hok
    subst hsz
    have hfit2 := hfit
    unfold Rs.fit at hfit2
    obtain ⟨K, rfl⟩ : ∃ K : Nat, k = (K : Int) := ⟨k.toNat, by omega⟩
    obtain ⟨M, rfl⟩ : ∃ M : Nat, m = (M : Int) := ⟨m.toNat, by omega⟩
    have h1 : 1 ≤ K := by omega
    have h2 : K + M ≤ 255 := by omega
    have hnk : nn = K + M := by omega
    have hft : Cd.Fit (Cd.mk bk key v K M nd d l) K M nd := by
      have h := mk_fit (bk := bk) (key := key) (v := v) (K := K) (M := M) (d := d) (l := l) hv h1 h2 (by rw [hdl]; omega)
      rw [hdl] at h
      exact h
    refine makes_walk bk key v nd ad nd cd K M an nn cn idx as_ ns cs s w hs hv hk hm hi hc (by omega) (by omega) (by omega) (Cd.mk bk key v K M nd d l) nn nn 0 0 (Cd.shs (Cd.mk bk key v K M nd d l) (Rs.all K M d)) hft.ok (by omega) (by omega)
      (fun _ W hW => (point_yes bk key v K M ad nd cd d an nn cn l W (hd.below hW) (hl.below hW) (by omega) h1 h2 hnk hall).mono ?_)
      (fun _ W hW => (rpoint_yes bk key v K M ad nd cd d an nn cn l W (hd.below hW) (hl.below hW) (by omega) h1 h2 hnk hall).mono ?_)
      (fun W a c hW hI => (cshards_yes _ a nn c K M ad nd cd d W (hc.below hW) hft hI (hd.below hW) hnk rfl))
      (fun W a c hW hI => (rshards_yes _ a nn c K M ad nd cd d W hft hI (hd.below hW) hnk rfl))
    · rintro e W' ⟨a, c, rfl, ha, hb⟩
      exact ⟨a, c, rfl, ha.is, hb⟩
    · rintro e W' ⟨a, c, rfl, ha, hb⟩
      exact ⟨a, c, rfl, ha.is, hb⟩
  · refine makes_walk bk key v size ad nd cd k m an nn cn idx as_ ns cs s w hs hv hk hm hi hc (by omega) (by omega) (by omega) Cd.zero 0 0 1 1 [] zero_ok (by omega) (by omega)
      (fun h6 W hW => (point_no bk key v size k m ad nd cd d an nn cn l W (hd.below hW) (hl.below hW) (by omega) (by omega) hk hm hok).mono ?_)
      (fun h6 W hW => (rpoint_no bk key v size k m ad nd cd d an nn cn l W (hd.below hW) (hl.below hW) (by omega) (by omega) hk hm hok).mono ?_)
      (fun W a c hW hI => (cshards_no Cd.zero a 0 c ad nd cd W zero_i64 zero_i64 zero_fit).mono ?_)
      (fun W a c hW hI => (rshards_no Cd.zero a 0 c ad nd cd d W (hd.below hW) zero_i64 zero_i64 zero_fit).mono ?_)
    · rintro e W' ⟨rfl, hb⟩
      exact ⟨none, 0, rfl, is_nil W', hb⟩
    · rintro e W' ⟨rfl, hb⟩
      exact ⟨none, 0, rfl, is_nil W', hb⟩
    · rintro e W' ⟨rfl, hb⟩
      exact ⟨none, 0, rfl, AccB.nil _ _ _ _, hb⟩
    · rintro e W' ⟨rfl, hb⟩
      exact ⟨none, 0, rfl, AccB.nil _ _ _ _, hb⟩
end Go.Proofs.YtfgifndpglgjkaaGreatDoor
end

section
set_option linter.unusedVariables false
set_option linter.unusedSimpArgs false
namespace Go.Proofs.YtfgifndpglgjkaaGreatDoor
open Go.ChangeShapes Go.WideShapes Go.ChangeAt Go.RowKit Go.Deep

theorem cellsBs_ : Tryz.prog.cellsOf 25 = 1 := by kernel_rfl
/-- A slice of slices of bytes; each inner one's size as the datum has it. -/
theorem open_rows {H : Type} {enc : TypeId × Value → H} {W : World} {d : DataW H} {p : List MemPlace} {a : Option Addr} {n c : Nat}
    (h : DataW.Trod enc Tryz.prog W 0 (fun _ => true) true 53 (.slice a n c) d p) :
    ∃ ls, Bss W a n c ls ∧ ((d = .nil ∧ n = 0) ∨ ∃ elems spare, d = .slice elems spare ∧ elems.length = n ∧ ∀ i, i < n → ∃ x, elems[i]? = some x ∧ SizeOf x (nth ls i).length) := by
  obtain ⟨fuel, hf⟩ := h
  simp [Value.cells] at hf
  rcases open_slice1 Tryz.underlying53 cellsBs_ hf with ⟨hcs, hd⟩ | ⟨x, len, cap, m, k, V, D, Pl, hcs, _, hl, hm, hmm, hd, hel⟩
  · simp at hcs hd
    obtain ⟨rfl, rfl, rfl⟩ := hcs
    exact ⟨[], Bss.nil W, .inl ⟨hd.1, rfl⟩⟩
  · simp at hcs
    obtain ⟨rfl, rfl, rfl⟩ := hcs
    simp only [if_true] at hmm
    simp only [Prod.mk.injEq] at hd
    obtain ⟨ls, hls, hR⟩ := choose_list n (fun i l => ∃ b off ai ni ci, (some x : Option Addr) = some ⟨b, off, none⟩ ∧ W.cell? ⟨b, off + i, none⟩ = some (.slice ai ni ci) ∧ Bs W ai ni ci l ∧ SizeOf (D i) l.length) (by
      intro i hi
      obtain ⟨hc, ht⟩ := hel i (by omega)
      obtain ⟨h0, _⟩ := hel 0 (by omega)
      obtain ⟨a', n', c', l, hv, hb, hs⟩ := open_bytes_trod ht
      rw [Addr.add_zero'] at h0
      have hsp := World.cell?_spot h0
      obtain ⟨b, off, spot⟩ := x
      simp at hsp
      subst hsp
      rw [Addr.add_lit] at hc
      exact ⟨l, b, off, a', n', c', rfl, by rw [hc, hv], hb, by rw [hb.1]; exact hs⟩)
    refine ⟨ls, ⟨hls, hl, hm, fun i hi => ?_⟩, .inr ⟨_, _, hd.1, by simp, fun i hi => ?_⟩⟩
    · obtain ⟨b, off, ai, ni, ci, h1, h2, h3, _⟩ := hR i hi
      exact ⟨b, off, ai, ni, ci, h1, h2, h3⟩
    · obtain ⟨b, off, ai, ni, ci, _, _, _, h4⟩ := hR i hi
      exact ⟨D i, by simp [hi], h4⟩

/-- The form's own reach, of a slice of bytes. -/
theorem fits_bytes {H : Type} {ts : List TypeId} {ds : List (DataW H)} (h : (DataW.weightsEach Tryz.prog ts ds).all (· ≤ reachBytes) = true) {j : Nat} {d : DataW H} {n : Nat}
    (ht : (ts[j]?, ds[j]?) = (some 25, some d)) (hs : SizeOf d n) : Fits n := by
  simp only [Prod.mk.injEq] at ht
  rcases hs with ⟨rfl, rfl⟩ | ⟨elems, spare, rfl, rfl⟩
  · exact ⟨by omega⟩
  · have := sized_slice h (j := j) ht.1 ht.2 Tryz.underlying25
    rw [bytes8_] at this
    simp only [reachBytes] at this
    exact ⟨by omega⟩
end Go.Proofs.YtfgifndpglgjkaaGreatDoor
end

section
namespace Go.Proofs.YtfgifndpglgjkaaGreatDoor
open Go.ChangeShapes Go.WideShapes Go.ChangeAt Go.RowKit Go.Deep
set_option linter.unusedVariables false

theorem cellsH_ : Tryz.prog.cellsOf 24 = 4 := by kernel_rfl
set_option maxRecDepth 100000 in
/-- An object that is handed in. -/
theorem open_hot {H : Type} {enc : TypeId × Value → H} {W : World} {b0 : Nat} {v : Value} {d : DataW H} {p : List MemPlace} (hv : Value.okWide Tryz.prog W .any b0 24 v) (h : DataW.Trod enc Tryz.prog W 0 (fun _ => true) true 24 v d p) :
    ∃ (bk ky : List UInt8) (u : Nat) (z : Int), v = Cd.hv bk ky u z ∧ U64 u ∧ I64 z := by
  obtain ⟨cs, rfl, hsz⟩ := okWide_struct Tryz.underlying24 hv
  obtain ⟨fuel, hf⟩ := h
  obtain ⟨ys, n, _, hy, hlen, hyl, hf'⟩ := DataW.trod_struct Tryz.underlying24 hf
  rw [cellsH_] at hlen
  simp only [Value.cells] at hlen hf'
  obtain ⟨l⟩ := cs
  simp only at hlen hf'
  match l, hlen, ys, hyl with
  | [c0, c1, c2, c3], _, [y0, y1, y2, y3], _ =>
    have h0 : DataW.trod enc Tryz.prog W 0 (fun _ => true) true n 9 (([c0, c1, c2, c3].drop 0).take (Tryz.prog.cellsOf 9)) = [y0, y1, y2, y3][0]? := hf' 0 _ rfl
    have h1 : DataW.trod enc Tryz.prog W 0 (fun _ => true) true n 9 (([c0, c1, c2, c3].drop 1).take (Tryz.prog.cellsOf 9)) = [y0, y1, y2, y3][1]? := hf' 1 _ rfl
    have h2 : DataW.trod enc Tryz.prog W 0 (fun _ => true) true n 22 (([c0, c1, c2, c3].drop 2).take (Tryz.prog.cellsOf 22)) = [y0, y1, y2, y3][2]? := hf' 2 _ rfl
    have h3 : DataW.trod enc Tryz.prog W 0 (fun _ => true) true n 3 (([c0, c1, c2, c3].drop 3).take (Tryz.prog.cellsOf 3)) = [y0, y1, y2, y3][3]? := hf' 3 _ rfl
    rw [show Tryz.prog.cellsOf 9 = 1 by kernel_rfl] at h0 h1
    rw [show Tryz.prog.cellsOf 22 = 1 by kernel_rfl] at h2
    rw [show Tryz.prog.cellsOf 3 = 1 by kernel_rfl] at h3
    simp only [List.drop_zero, List.drop_succ_cons, List.take_succ_cons, List.take_zero, List.getElem?_cons_zero, List.getElem?_cons_succ] at h0 h1 h2 h3
    obtain ⟨s0, e0, _, _⟩ := DataW.trod_string Tryz.underlying9 h0
    obtain ⟨s1, e1, _, _⟩ := DataW.trod_string Tryz.underlying9 h1
    obtain ⟨z2, e2, _, w2⟩ := DataW.trod_int Tryz.underlying22 h2
    obtain ⟨z3, e3, _, w3⟩ := DataW.trod_int Tryz.underlying3 h3
    obtain ⟨k, rfl, uk⟩ := u64_of_wf w2
    have b3 := i64_of_wf w3
    cases e0; cases e1; cases e2; cases e3
    refine ⟨s0.data.toList, s1.data.toList, k, z3, ?_, uk, ⟨b3.1, b3.2⟩⟩
    have hs0 : bstr s0.data.toList = s0 := by cases s0; rfl
    have hs1 : bstr s1.data.toList = s1 := by cases s1; rfl
    unfold Cd.hv
    rw [hs0, hs1]
end Go.Proofs.YtfgifndpglgjkaaGreatDoor
end

section
namespace Go.Proofs.YtfgifndpglgjkaaGreatDoor
open Go.RowKit

theorem bulk_one {H : Type} (d : DataW H) : 1 ≤ Rows.uptoBulk d := by
  cases d with
  | lit l => cases l <;> simp [Rows.uptoBulk]
  | nil => simp [Rows.uptoBulk]
  | ptr d => simp [Rows.uptoBulk]
  | slice elems spare => simp [Rows.uptoBulk]
  | agg parts => simp [Rows.uptoBulk]
  | iface t d => simp [Rows.uptoBulk]
  | map entries => simp [Rows.uptoBulk]
  | held h => simp [Rows.uptoBulk]
theorem bulk_part {H : Type} {d : DataW H} {l : List (DataW H)} (h : d ∈ l) : Rows.uptoBulk d ≤ Rows.uptoBulkAll l := by
  induction l with
  | nil => cases h
  | cons x r ih =>
    simp only [Rows.uptoBulkAll]
    cases List.mem_cons.1 h with
    | inl e => subst e; omega
    | inr e => have := ih e; omega
theorem bulk_length {H : Type} (l : List (DataW H)) : l.length ≤ Rows.uptoBulkAll l := by
  induction l with
  | nil => simp [Rows.uptoBulkAll]
  | cons x r ih => have := bulk_one x; simp only [Rows.uptoBulkAll, List.length_cons]; omega
theorem bulk_bound {H : Type} {l : List (DataW H)} (hk : Rows.uptoSmall H l = true) : Rows.uptoBulkAll l ≤ 1048576 := of_decide_eq_true hk
theorem bulk_size {H : Type} {d : DataW H} {n : Nat} (h : SizeOf d n) : n + 1 ≤ Rows.uptoBulk d := by
  rcases h with ⟨rfl, rfl⟩ | ⟨elems, spare, rfl, rfl⟩
  · simp [Rows.uptoBulk]
  · have := bulk_length elems; simp only [Rows.uptoBulk]; omega
end Go.Proofs.YtfgifndpglgjkaaGreatDoor
end

section
namespace Go.Proofs.YtfgifndpglgjkaaGreatDoor
open Go.RowKit

/-- The inner slices of a slice: their lengths together. -/
theorem bulk_rows {H : Type} : ∀ (elems : List (DataW H)) (ls : List (List UInt8)), (∀ i, i < ls.length → ∃ x, elems[i]? = some x ∧ SizeOf x (nth ls i).length) → ls.flatten.length + ls.length ≤ Rows.uptoBulkAll elems := by
  intro elems
  induction elems with
  | nil =>
    intro ls h
    cases ls with
    | nil => simp [Rows.uptoBulkAll]
    | cons l ls => obtain ⟨x, hx, _⟩ := h 0 (by simp); simp at hx
  | cons x elems ih =>
    intro ls h
    cases ls with
    | nil => simp
    | cons l ls =>
      obtain ⟨y, hy, hs⟩ := h 0 (by simp)
      simp at hy
      subst hy
      have e0 : nth (l :: ls) 0 = l := rfl
      rw [e0] at hs
      have h1 := bulk_size hs
      have h2 := ih ls (fun i hi => by
        obtain ⟨z, hz, hs'⟩ := h (i + 1) (by simp; omega)
        exact ⟨z, by simpa using hz, hs'⟩)
      simp only [Rows.uptoBulkAll, List.flatten_cons, List.length_append, List.length_cons]
      omega
theorem bulk_tot {H : Type} {d : DataW H} {n : Nat} {ls : List (List UInt8)} (hl : ls.length = n) (h : (d = .nil ∧ n = 0) ∨ ∃ elems spare, d = .slice elems spare ∧ elems.length = n ∧ ∀ i, i < n → ∃ x, elems[i]? = some x ∧ SizeOf x (nth ls i).length) :
    tot ls + n + 1 ≤ Rows.uptoBulk d := by
  unfold tot
  rcases h with ⟨rfl, rfl⟩ | ⟨elems, spare, rfl, _, he⟩
  · obtain rfl : ls = [] := List.eq_nil_of_length_eq_zero hl
    simp [Rows.uptoBulk]
  · have := bulk_rows elems ls (by rw [hl]; exact he)
    simp only [Rows.uptoBulk]
    omega
end Go.Proofs.YtfgifndpglgjkaaGreatDoor
end

section
set_option linter.unusedVariables false
namespace Go.Proofs.YtfgifndpglgjkaaGreatDoor
open Go.RowKit

theorem gTab_ : Tryz.prog.globalNamed "math/bits.deBruijn64tab" = some 3 := by kernel_rfl
theorem gTabType_ : (Tryz.prog.globals[3]?).map (·.type) = some 181 := by kernel_rfl
theorem cellsTab64_ : Tryz.prog.cellsOf 181 = 64 := by kernel_rfl
theorem cellsB8_ : Tryz.prog.cellsOf 5 = 1 := by kernel_rfl
theorem laid_second {P : Program} {W : World} {x y : String × DataW Unit} {rest : List (String × DataW Unit)} (h : laidMet P (x :: y :: rest) W) :
    ∃ g t cs fuel p, P.globalNamed y.1 = some g ∧ (P.globals[g]?).map (·.type) = some t ∧ W.var? P y.1 = some cs ∧ DataW.trod (fun _ => ()) P W 0 (fun _ => true) false fuel t cs.toList = some (y.2, p) := by
  obtain ⟨n, d⟩ := x
  obtain ⟨n', d'⟩ := y
  obtain ⟨ps, ⟨g, t, cs, fuel, p, q, _, _, _, _, ⟨g', t', cs', fuel', p', q', h1, h2, h3, h4, _, _⟩, _⟩, _⟩ := h
  exact ⟨g', t', cs', fuel', p', h1, h2, h3, h4⟩
theorem gPowType_ : (Tryz.prog.globals[0]?).map (·.type) = some 160 := by kernel_rfl
theorem cellsPow_ : Tryz.prog.cellsOf 160 = 20 := by kernel_rfl
theorem cellsU64_ : Tryz.prog.cellsOf 22 = 1 := by kernel_rfl
theorem laid_third {P : Program} {W : World} {x y z : String × DataW Unit} {rest : List (String × DataW Unit)} (h : laidMet P (x :: y :: z :: rest) W) :
    ∃ g t cs fuel p, P.globalNamed z.1 = some g ∧ (P.globals[g]?).map (·.type) = some t ∧ W.var? P z.1 = some cs ∧ DataW.trod (fun _ => ()) P W 0 (fun _ => true) false fuel t cs.toList = some (z.2, p) := by
  obtain ⟨n, d⟩ := x
  obtain ⟨n', d'⟩ := y
  obtain ⟨n'', d''⟩ := z
  obtain ⟨ps, ⟨g, t, cs, fuel, p, q, _, _, _, _, ⟨g', t', cs', fuel', p', q', _, _, _, _, ⟨g'', t'', cs'', fuel'', p'', q'', h1, h2, h3, h4, _, _⟩, _⟩, _⟩, _⟩ := h
  exact ⟨g'', t'', cs'', fuel'', p'', h1, h2, h3, h4⟩
def tab64 : List Int := [0, 1, 56, 2, 57, 49, 28, 3, 61, 58, 42, 50, 38, 29, 17, 4, 62, 47, 59, 36, 45, 43, 51, 22, 53, 39, 33, 30, 24, 18, 12, 5, 63, 55, 48, 27, 60, 41, 37, 16, 46, 35, 44, 21, 52, 32, 23, 11, 54, 26, 40, 15, 34, 20, 31, 10, 25, 14, 19, 9, 13, 8, 7, 6]
theorem laid_of {W : World} (h : laidMetH Tryz.prog [("math/bits.deBruijn32tab", Rows.laid_math_bits_deBruijn32tab), ("math/bits.deBruijn64tab", Rows.laid_math_bits_deBruijn64tab), ("internal/strconv.uint64pow10", Rows.laid_internal_strconv_uint64pow10)] W) : Cst W := by
  have h' : laidMet Tryz.prog [("math/bits.deBruijn32tab", Rows.laid_math_bits_deBruijn32tab), ("math/bits.deBruijn64tab", Lib.tabData .u8 tab64), ("internal/strconv.uint64pow10", Lib.tabData .u64 Lib.pow10Tab)] W := h
  refine ⟨?_, ?_⟩
  rotate_left
  · obtain ⟨g', t', cs, fuel, p, hg', ht', hvar, hd⟩ := laid_third h'
    obtain rfl := Option.some.inj (gPow_.symm.trans hg')
    obtain rfl := Option.some.inj (gPowType_.symm.trans ht')
    unfold Lib.TabIs
    rw [hvar, ← Lib.cells_of_tab Tryz.underlying160 Tryz.underlying22 cellsU64_ cellsPow_ hd]
  obtain ⟨g', t', cs, fuel, p, hg', ht', hvar, hd⟩ := laid_second h'
  obtain rfl := Option.some.inj (gTab_.symm.trans hg')
  obtain rfl := Option.some.inj (gTabType_.symm.trans ht')
  have hT : Lib.TabIs Tryz.prog W "math/bits.deBruijn64tab" .u8 tab64 := by
    unfold Lib.TabIs
    rw [hvar, ← Lib.cells_of_tab Tryz.underlying181 Tryz.underlying5 cellsB8_ cellsTab64_ hd]
  exact hT.cell gTab_ 15 (by decide)
def putRow (h : Array Obj) (g : Nat) (cs : Array Value) : Array Obj := h.modify g fun
  | .cells _ t frozen => .cells cs t frozen
  | o => o
/-- A world for the witness. -/
noncomputable def laidWorld (os : Os) : World :=
  { World.holding Tryz.prog os ⟨#[], #[], []⟩ with heap := putRow (putRow (putRow (World.holding Tryz.prog os ⟨#[], #[], []⟩).heap 2 #[.int .u8 0, .int .u8 1, .int .u8 28, .int .u8 2, .int .u8 29, .int .u8 14, .int .u8 24, .int .u8 3, .int .u8 30, .int .u8 22, .int .u8 20, .int .u8 15, .int .u8 25, .int .u8 17, .int .u8 4, .int .u8 8, .int .u8 31, .int .u8 27, .int .u8 13, .int .u8 23, .int .u8 21, .int .u8 19, .int .u8 16, .int .u8 7, .int .u8 26, .int .u8 12, .int .u8 18, .int .u8 6, .int .u8 11, .int .u8 5, .int .u8 10, .int .u8 9]) 3 #[.int .u8 0, .int .u8 1, .int .u8 56, .int .u8 2, .int .u8 57, .int .u8 49, .int .u8 28, .int .u8 3, .int .u8 61, .int .u8 58, .int .u8 42, .int .u8 50, .int .u8 38, .int .u8 29, .int .u8 17, .int .u8 4, .int .u8 62, .int .u8 47, .int .u8 59, .int .u8 36, .int .u8 45, .int .u8 43, .int .u8 51, .int .u8 22, .int .u8 53, .int .u8 39, .int .u8 33, .int .u8 30, .int .u8 24, .int .u8 18, .int .u8 12, .int .u8 5, .int .u8 63, .int .u8 55, .int .u8 48, .int .u8 27, .int .u8 60, .int .u8 41, .int .u8 37, .int .u8 16, .int .u8 46, .int .u8 35, .int .u8 44, .int .u8 21, .int .u8 52, .int .u8 32, .int .u8 23, .int .u8 11, .int .u8 54, .int .u8 26, .int .u8 40, .int .u8 15, .int .u8 34, .int .u8 20, .int .u8 31, .int .u8 10, .int .u8 25, .int .u8 14, .int .u8 19, .int .u8 9, .int .u8 13, .int .u8 8, .int .u8 7, .int .u8 6]) 0 #[.int .u64 1, .int .u64 10, .int .u64 100, .int .u64 1000, .int .u64 10000, .int .u64 100000, .int .u64 1000000, .int .u64 10000000, .int .u64 100000000, .int .u64 1000000000, .int .u64 10000000000, .int .u64 100000000000, .int .u64 1000000000000, .int .u64 10000000000000, .int .u64 100000000000000, .int .u64 1000000000000000, .int .u64 10000000000000000, .int .u64 100000000000000000, .int .u64 1000000000000000000, .int .u64 10000000000000000000] }
end Go.Proofs.YtfgifndpglgjkaaGreatDoor
end
