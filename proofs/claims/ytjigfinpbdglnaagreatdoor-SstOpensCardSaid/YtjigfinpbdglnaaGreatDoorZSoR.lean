/- The law SstOpens, walked. -/
import Derived.Test.YtjigfinpbdglnaaGreatDoorZSoQ
import Derived.Test.YtjigfinpbdglnaaGreatDoorCards
import Derived.Test.YtjigfinpbdglnaaGreatDoorTie
import Derived.Test.YtjigfinpbdglnaaGreatDoorZSoK
import Derived.WalkKit
import Derived.ProofKit
import Derived.OpenShut
import Derived.Deep.DeepHandedRow
import Derived.Lib.LaidTab
import Derived.LaidHandle
set_option linter.unusedVariables false
set_option linter.unusedSimpArgs false
section
set_option maxRecDepth 100000
set_option linter.unusedVariables false
set_option linter.unusedSimpArgs false
namespace Go.Proofs.YtjigfinpbdglnaaGreatDoor
open Go.RowKit

set_option maxHeartbeats 2000000 in
theorem sstOpens_walk (a : Option Addr) (n c : Nat) (b : List UInt8) (w : World) (h : Bs w a n c b) (hc : Cst w) :
    Calls Tryz.prog 3 #[.slice a n c] w fun e w' => e = .returned (.bool true) ∧ Below w.heap.size w w' := by
  have hle := h.le.1
  have HL := Lib.hid h
  have HC := Lib.hid hc
  clear h hc
  go_enter Tryz.func3, Tryz.ntmps3
  go_wp2_with fail
  refine (known_any w).mono ?_
  rintro e w1 ⟨rfl, hb1⟩
  have HB1 := Lib.hid hb1
  clear hb1
  by_cases hbig : 65536 < n
  · have t1 : decide ((65536 : Int) < (n : Int)) = true := decide_eq_true (by omega)
    have t2 : decide (65536 < n) = true := decide_eq_true hbig
    go_wp2
    go_ret
    exact ⟨rfl, HB1.out⟩
  · have t1 : decide ((65536 : Int) < (n : Int)) = false := decide_eq_false (by omega)
    have t2 : decide (65536 < n) = false := decide_eq_false hbig
    have HO := Lib.hid (opn_out (b := b) (by rw [HL.out.1]; omega))
    have HN := Lib.hid HL.out.1
    go_wp2_with fail
    refine (opened_any a n c b w1 (HL.out.below HB1.out) (by omega) (HC.out.below HB1.out)).mono ?_
    rintro e w2 ⟨hb2, ⟨q, hR, rfl⟩ | ⟨L, bl, bt, al, cl, af, nf, cf, rt, ar, cr, ab, cb, ag, ng, cg, hR, rfl, hT, hRt⟩⟩
    · have HB2 := Lib.hid (HB1.out.trans (hb2.mono HB1.out.size))
      clear hb2 hR
      go_wp2
      go_ret
      exact ⟨rfl, HB2.out⟩
    · have HB2 := Lib.hid (HB1.out.trans (hb2.mono HB1.out.size))
      obtain ⟨A, k, hA, hI⟩ := HO.out.2 _ _ hR
      have hn4 := hI.n
      have hm := hI.m
      have hk := hI.le
      have hnn := HN.out
      have HLK := Lib.hid (looks_any hT hRt (by omega) (by omega) (fun e he => by have := (hI.eok e he).v; omega) (fun i hi => by
        have hx := (hI.eok (nth L i) (by rw [nth_eq _ hi]; exact List.getElem_mem _)).s.lt
        omega))
      clear hb2 hR hT hRt hI hn4 hm hk hA hnn
      go_wp2_with fail
      refine HLK.out.mono ?_
      rintro e w3 ⟨rfl, hb3⟩
      have HB3 := Lib.hid (HB2.out.trans (hb3.mono HB2.out.size))
      clear hb3
      go_wp2
      go_ret
      exact ⟨rfl, HB3.out⟩
end Go.Proofs.YtjigfinpbdglnaaGreatDoor
end

section
set_option linter.unusedVariables false
namespace Go.Proofs.YtjigfinpbdglnaaGreatDoor
open Go.RowKit

theorem gPowType_ : (Tryz.prog.globals[1]?).map (·.type) = some 185 := by kernel_rfl
theorem cellsPow_ : Tryz.prog.cellsOf 185 = 20 := by kernel_rfl
theorem cellsU64_ : Tryz.prog.cellsOf 31 = 1 := by kernel_rfl
theorem laid_third {P : Program} {W : World} {x y z : String × DataW Unit} {rest : List (String × DataW Unit)} (h : laidMet P (x :: y :: z :: rest) W) :
    ∃ g t cs fuel p, P.globalNamed z.1 = some g ∧ (P.globals[g]?).map (·.type) = some t ∧ W.var? P z.1 = some cs ∧ DataW.trod (fun _ => ()) P W 0 (fun _ => true) false fuel t cs.toList = some (z.2, p) := by
  obtain ⟨n, d⟩ := x
  obtain ⟨n', d'⟩ := y
  obtain ⟨n'', d''⟩ := z
  obtain ⟨ps, ⟨g, t, cs, fuel, p, q, _, _, _, _, ⟨g', t', cs', fuel', p', q', _, _, _, _, ⟨g'', t'', cs'', fuel'', p'', q'', h1, h2, h3, h4, _, _⟩, _⟩, _⟩, _⟩ := h
  exact ⟨g'', t'', cs'', fuel'', p'', h1, h2, h3, h4⟩
theorem hasET_ : Tryz.prog.globalNamed "errors.errorType" = some 0 := by kernel_rfl
theorem hasRT_ : (Tryz.prog.cutTypes.find? (·.1 == "internal/reflectlite.rtype")).map (·.2) = some 151 := by kernel_rfl
theorem oneRow_ : ((List.range Tryz.prog.types.size).filter fun t => Tryz.prog.rowNamed t [101, 114, 114, 111, 114]) = [55] := by kernel_rfl
theorem laid_of {W : World} (h : laidMetH Tryz.prog [("math/bits.deBruijn32tab", Rows.laid_math_bits_deBruijn32tab), ("math/bits.deBruijn64tab", Rows.laid_math_bits_deBruijn64tab), ("internal/strconv.uint64pow10", Rows.laid_internal_strconv_uint64pow10), ("errors.errorType", Rows.laid_errors_errorType)] W) : Cst W := by
  have h' : laidMet Tryz.prog [("math/bits.deBruijn32tab", Rows.laid_math_bits_deBruijn32tab), ("math/bits.deBruijn64tab", Rows.laid_math_bits_deBruijn64tab), ("internal/strconv.uint64pow10", Lib.tabData .u64 Lib.pow10Tab)] W ∧ handlesMet Tryz.prog [("errors.errorType", Rows.laid_errors_errorType)] W := h
  refine ⟨?_, ?_⟩
  · obtain ⟨name, u, ty, e1, e2, e3, e4, e5⟩ := h'.2 _ (List.mem_singleton.2 rfl)
    have en : name = [101, 114, 114, 111, 114] := (Option.some.inj e1).symm
    subst en
    obtain rfl := Option.some.inj (hasRT_.symm.trans e2)
    have hm : ty ∈ (List.range Tryz.prog.types.size).filter fun t => Tryz.prog.rowNamed t [101, 114, 114, 111, 114] := List.mem_filter.2 ⟨List.mem_range.2 e3, e4⟩
    rw [oneRow_] at hm
    obtain rfl := List.mem_singleton.1 hm
    have hh : typeHandle Tryz.prog 55 = .pointer (some ⟨4, 55, none⟩) := by kernel_rfl
    rw [hh] at e5
    simpa using World.var?_cell hasET_ e5 0
  · obtain ⟨g', t', cs, fuel, p, hg', ht', hvar, hd⟩ := laid_third h'.1
    obtain rfl := Option.some.inj (gPow_.symm.trans hg')
    obtain rfl := Option.some.inj (gPowType_.symm.trans ht')
    unfold Lib.TabIs
    rw [hvar, ← Lib.cells_of_tab Tryz.underlying185 Tryz.underlying31 cellsU64_ cellsPow_ hd]
def putRow (h : Array Obj) (g : Nat) (cs : Array Value) : Array Obj := h.modify g fun
  | .cells _ t frozen => .cells cs t frozen
  | o => o
/-- A world for the witness. -/
noncomputable def laidWorld (os : Os) : World :=
  { World.holding Tryz.prog os ⟨#[], #[], []⟩ with heap := putRow (putRow (putRow (putRow (World.holding Tryz.prog os ⟨#[], #[], []⟩).heap 2 #[.int .u8 0, .int .u8 1, .int .u8 28, .int .u8 2, .int .u8 29, .int .u8 14, .int .u8 24, .int .u8 3, .int .u8 30, .int .u8 22, .int .u8 20, .int .u8 15, .int .u8 25, .int .u8 17, .int .u8 4, .int .u8 8, .int .u8 31, .int .u8 27, .int .u8 13, .int .u8 23, .int .u8 21, .int .u8 19, .int .u8 16, .int .u8 7, .int .u8 26, .int .u8 12, .int .u8 18, .int .u8 6, .int .u8 11, .int .u8 5, .int .u8 10, .int .u8 9]) 3 #[.int .u8 0, .int .u8 1, .int .u8 56, .int .u8 2, .int .u8 57, .int .u8 49, .int .u8 28, .int .u8 3, .int .u8 61, .int .u8 58, .int .u8 42, .int .u8 50, .int .u8 38, .int .u8 29, .int .u8 17, .int .u8 4, .int .u8 62, .int .u8 47, .int .u8 59, .int .u8 36, .int .u8 45, .int .u8 43, .int .u8 51, .int .u8 22, .int .u8 53, .int .u8 39, .int .u8 33, .int .u8 30, .int .u8 24, .int .u8 18, .int .u8 12, .int .u8 5, .int .u8 63, .int .u8 55, .int .u8 48, .int .u8 27, .int .u8 60, .int .u8 41, .int .u8 37, .int .u8 16, .int .u8 46, .int .u8 35, .int .u8 44, .int .u8 21, .int .u8 52, .int .u8 32, .int .u8 23, .int .u8 11, .int .u8 54, .int .u8 26, .int .u8 40, .int .u8 15, .int .u8 34, .int .u8 20, .int .u8 31, .int .u8 10, .int .u8 25, .int .u8 14, .int .u8 19, .int .u8 9, .int .u8 13, .int .u8 8, .int .u8 7, .int .u8 6]) 1 #[.int .u64 1, .int .u64 10, .int .u64 100, .int .u64 1000, .int .u64 10000, .int .u64 100000, .int .u64 1000000, .int .u64 10000000, .int .u64 100000000, .int .u64 1000000000, .int .u64 10000000000, .int .u64 100000000000, .int .u64 1000000000000, .int .u64 10000000000000, .int .u64 100000000000000, .int .u64 1000000000000000, .int .u64 10000000000000000, .int .u64 100000000000000000, .int .u64 1000000000000000000, .int .u64 10000000000000000000]) 0 #[.iface 151 (.agg #[.pointer (some ⟨4, 55, none⟩)])] }
end Go.Proofs.YtjigfinpbdglnaaGreatDoor
end
