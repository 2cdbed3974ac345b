/- From a row's readings to the words of the walks: slices of slices of bytes; the form's reach. -/
import Derived.Test.YtfgifndpglgjkaaGreatDoorZRows2
import Derived.Test.YtfgifndpglgjkaaGreatDoorCards
import Derived.Test.YtfgifndpglgjkaaGreatDoorTie
import Derived.Test.YtfgifndpglgjkaaGreatDoorZCdC
import Derived.WalkKit
import Derived.ProofKit
import Derived.OpenShut
import Derived.Deep.DeepHandedRow
import Derived.Lib.LaidTab
set_option linter.unusedVariables false
set_option linter.unusedSimpArgs false
section
set_option linter.unusedVariables false
set_option linter.unusedSimpArgs false
namespace Go.Proofs.YtfgifndpglgjkaaGreatDoor
open Go.ChangeShapes Go.WideShapes Go.ChangeAt Go.RowKit Go.Deep

theorem cellsBs_ : Tryz.prog.cellsOf 25 = 1 := by kernel_rfl
/-- A slice of slices of bytes; each inner one's size as the datum has it. -/
theorem open_rows {H : Type} {enc : TypeId × Value → H} {W : World} {d : DataW H} {p : List MemPlace} {a : Option Addr} {n c : Nat}
    (h : DataW.Trod enc Tryz.prog W 0 (fun _ => true) true 53 (.slice a n c) d p) :
    ∃ ls, Bss W a n c ls ∧ ((d = .nil ∧ n = 0) ∨ ∃ elems spare, d = .slice elems spare ∧ elems.length = n ∧ ∀ i, i < n → ∃ x, elems[i]? = some x ∧ SizeOf x (nth ls i).length) := by
  obtain ⟨fuel, hf⟩ := h
  simp [Value.cells] at hf
  rcases open_slice1 Tryz.underlying53 cellsBs_ hf with ⟨hcs, hd⟩ | ⟨x, len, cap, m, k, V, D, Pl, hcs, _, hl, hm, hmm, hd, hel⟩
  · simp at hcs hd
    obtain ⟨rfl, rfl, rfl⟩ := hcs
    exact ⟨[], Bss.nil W, .inl ⟨hd.1, rfl⟩⟩
  · simp at hcs
    obtain ⟨rfl, rfl, rfl⟩ := hcs
    simp only [if_true] at hmm
    simp only [Prod.mk.injEq] at hd
    obtain ⟨ls, hls, hR⟩ := choose_list n (fun i l => ∃ b off ai ni ci, (some x : Option Addr) = some ⟨b, off, none⟩ ∧ W.cell? ⟨b, off + i, none⟩ = some (.slice ai ni ci) ∧ Bs W ai ni ci l ∧ SizeOf (D i) l.length) (by
      intro i hi
      obtain ⟨hc, ht⟩ := hel i (by omega)
      obtain ⟨h0, _⟩ := hel 0 (by omega)
      obtain ⟨a', n', c', l, hv, hb, hs⟩ := open_bytes_trod ht
      rw [Addr.add_zero'] at h0
      have hsp := World.cell?_spot h0
      obtain ⟨b, off, spot⟩ := x
      simp at hsp
      subst hsp
      rw [Addr.add_lit] at hc
      exact ⟨l, b, off, a', n', c', rfl, by rw [hc, hv], hb, by rw [hb.1]; exact hs⟩)
    refine ⟨ls, ⟨hls, hl, hm, fun i hi => ?_⟩, .inr ⟨_, _, hd.1, by simp, fun i hi => ?_⟩⟩
    · obtain ⟨b, off, ai, ni, ci, h1, h2, h3, _⟩ := hR i hi
      exact ⟨b, off, ai, ni, ci, h1, h2, h3⟩
    · obtain ⟨b, off, ai, ni, ci, _, _, _, h4⟩ := hR i hi
      exact ⟨D i, by simp [hi], h4⟩

/-- The form's own reach, of a slice of bytes. -/
theorem fits_bytes {H : Type} {ts : List TypeId} {ds : List (DataW H)} (h : (DataW.weightsEach Tryz.prog ts ds).all (· ≤ reachBytes) = true) {j : Nat} {d : DataW H} {n : Nat}
    (ht : (ts[j]?, ds[j]?) = (some 25, some d)) (hs : SizeOf d n) : Fits n := by
  simp only [Prod.mk.injEq] at ht
  rcases hs with ⟨rfl, rfl⟩ | ⟨elems, spare, rfl, rfl⟩
  · exact ⟨by omega⟩
  · have := sized_slice h (j := j) ht.1 ht.2 Tryz.underlying25
    rw [bytes8_] at this
    simp only [reachBytes] at this
    exact ⟨by omega⟩
end Go.Proofs.YtfgifndpglgjkaaGreatDoor
end

section
set_option linter.unusedVariables false
namespace Go.Proofs.YtfgifndpglgjkaaGreatDoor
open Go.RowKit

theorem gTab_ : Tryz.prog.globalNamed "math/bits.deBruijn64tab" = some 3 := by kernel_rfl
theorem gTabType_ : (Tryz.prog.globals[3]?).map (·.type) = some 181 := by kernel_rfl
theorem cellsTab64_ : Tryz.prog.cellsOf 181 = 64 := by kernel_rfl
theorem cellsB8_ : Tryz.prog.cellsOf 5 = 1 := by kernel_rfl
theorem laid_second {P : Program} {W : World} {x y : String × DataW Unit} {rest : List (String × DataW Unit)} (h : laidMet P (x :: y :: rest) W) :
    ∃ g t cs fuel p, P.globalNamed y.1 = some g ∧ (P.globals[g]?).map (·.type) = some t ∧ W.var? P y.1 = some cs ∧ DataW.trod (fun _ => ()) P W 0 (fun _ => true) false fuel t cs.toList = some (y.2, p) := by
  obtain ⟨n, d⟩ := x
  obtain ⟨n', d'⟩ := y
  obtain ⟨ps, ⟨g, t, cs, fuel, p, q, _, _, _, _, ⟨g', t', cs', fuel', p', q', h1, h2, h3, h4, _, _⟩, _⟩, _⟩ := h
  exact ⟨g', t', cs', fuel', p', h1, h2, h3, h4⟩
theorem gPowType_ : (Tryz.prog.globals[0]?).map (·.type) = some 160 := by kernel_rfl
theorem cellsPow_ : Tryz.prog.cellsOf 160 = 20 := by kernel_rfl
theorem cellsU64_ : Tryz.prog.cellsOf 22 = 1 := by kernel_rfl
theorem laid_third {P : Program} {W : World} {x y z : String × DataW Unit} {rest : List (String × DataW Unit)} (h : laidMet P (x :: y :: z :: rest) W) :
    ∃ g t cs fuel p, P.globalNamed z.1 = some g ∧ (P.globals[g]?).map (·.type) = some t ∧ W.var? P z.1 = some cs ∧ DataW.trod (fun _ => ()) P W 0 (fun _ => true) false fuel t cs.toList = some (z.2, p) := by
  obtain ⟨n, d⟩ := x
  obtain ⟨n', d'⟩ := y
  obtain ⟨n'', d''⟩ := z
  obtain ⟨ps, ⟨g, t, cs, fuel, p, q, _, _, _, _, ⟨g', t', cs', fuel', p', q', _, _, _, _, ⟨g'', t'', cs'', fuel'', p'', q'', h1, h2, h3, h4, _, _⟩, _⟩, _⟩, _⟩ := h
  exact ⟨g'', t'', cs'', fuel'', p'', h1, h2, h3, h4⟩
def tab64 : List Int := [0, 1, 56, 2, 57, 49, 28, 3, 61, 58, 42, 50, 38, 29, 17, 4, 62, 47, 59, 36, 45, 43, 51, 22, 53, 39, 33, 30, 24, 18, 12, 5, 63, 55, 48, 27, 60, 41, 37, 16, 46, 35, 44, 21, 52, 32, 23, 11, 54, 26, 40, 15, 34, 20, 31, 10, 25, 14, 19, 9, 13, 8, 7, 6]
theorem laid_of {W : World} (h : laidMetH Tryz.prog [("math/bits.deBruijn32tab", Rows.laid_math_bits_deBruijn32tab), ("math/bits.deBruijn64tab", Rows.laid_math_bits_deBruijn64tab), ("internal/strconv.uint64pow10", Rows.laid_internal_strconv_uint64pow10)] W) : Cst W := by
  have h' : laidMet Tryz.prog [("math/bits.deBruijn32tab", Rows.laid_math_bits_deBruijn32tab), ("math/bits.deBruijn64tab", Lib.tabData .u8 tab64), ("internal/strconv.uint64pow10", Lib.tabData .u64 Lib.pow10Tab)] W := h
  refine ⟨?_, ?_⟩
  rotate_left
  · obtain ⟨g', t', cs, fuel, p, hg', ht', hvar, hd⟩ := laid_third h'
    obtain rfl := Option.some.inj (gPow_.symm.trans hg')
    obtain rfl := Option.some.inj (gPowType_.symm.trans ht')
    unfold Lib.TabIs
    rw [hvar, ← Lib.cells_of_tab Tryz.underlying160 Tryz.underlying22 cellsU64_ cellsPow_ hd]
  obtain ⟨g', t', cs, fuel, p, hg', ht', hvar, hd⟩ := laid_second h'
  obtain rfl := Option.some.inj (gTab_.symm.trans hg')
  obtain rfl := Option.some.inj (gTabType_.symm.trans ht')
  have hT : Lib.TabIs Tryz.prog W "math/bits.deBruijn64tab" .u8 tab64 := by
    unfold Lib.TabIs
    rw [hvar, ← Lib.cells_of_tab Tryz.underlying181 Tryz.underlying5 cellsB8_ cellsTab64_ hd]
  exact hT.cell gTab_ 15 (by decide)
def putRow (h : Array Obj) (g : Nat) (cs : Array Value) : Array Obj := h.modify g fun
  | .cells _ t frozen => .cells cs t frozen
  | o => o
/-- A world for the witness. -/
noncomputable def laidWorld (os : Os) : World :=
  { World.holding Tryz.prog os ⟨#[], #[], []⟩ with heap := putRow (putRow (putRow (World.holding Tryz.prog os ⟨#[], #[], []⟩).heap 2 #[.int .u8 0, .int .u8 1, .int .u8 28, .int .u8 2, .int .u8 29, .int .u8 14, .int .u8 24, .int .u8 3, .int .u8 30, .int .u8 22, .int .u8 20, .int .u8 15, .int .u8 25, .int .u8 17, .int .u8 4, .int .u8 8, .int .u8 31, .int .u8 27, .int .u8 13, .int .u8 23, .int .u8 21, .int .u8 19, .int .u8 16, .int .u8 7, .int .u8 26, .int .u8 12, .int .u8 18, .int .u8 6, .int .u8 11, .int .u8 5, .int .u8 10, .int .u8 9]) 3 #[.int .u8 0, .int .u8 1, .int .u8 56, .int .u8 2, .int .u8 57, .int .u8 49, .int .u8 28, .int .u8 3, .int .u8 61, .int .u8 58, .int .u8 42, .int .u8 50, .int .u8 38, .int .u8 29, .int .u8 17, .int .u8 4, .int .u8 62, .int .u8 47, .int .u8 59, .int .u8 36, .int .u8 45, .int .u8 43, .int .u8 51, .int .u8 22, .int .u8 53, .int .u8 39, .int .u8 33, .int .u8 30, .int .u8 24, .int .u8 18, .int .u8 12, .int .u8 5, .int .u8 63, .int .u8 55, .int .u8 48, .int .u8 27, .int .u8 60, .int .u8 41, .int .u8 37, .int .u8 16, .int .u8 46, .int .u8 35, .int .u8 44, .int .u8 21, .int .u8 52, .int .u8 32, .int .u8 23, .int .u8 11, .int .u8 54, .int .u8 26, .int .u8 40, .int .u8 15, .int .u8 34, .int .u8 20, .int .u8 31, .int .u8 10, .int .u8 25, .int .u8 14, .int .u8 19, .int .u8 9, .int .u8 13, .int .u8 8, .int .u8 7, .int .u8 6]) 0 #[.int .u64 1, .int .u64 10, .int .u64 100, .int .u64 1000, .int .u64 10000, .int .u64 100000, .int .u64 1000000, .int .u64 10000000, .int .u64 100000000, .int .u64 1000000000, .int .u64 10000000000, .int .u64 100000000000, .int .u64 1000000000000, .int .u64 10000000000000, .int .u64 100000000000000, .int .u64 1000000000000000, .int .u64 10000000000000000, .int .u64 100000000000000000, .int .u64 1000000000000000000, .int .u64 10000000000000000000] }
end Go.Proofs.YtfgifndpglgjkaaGreatDoor
end
