/- From a row's readings to the words of the walks: slices of bytes; their sizes. -/
import Derived.Test.YtjigfinpbdglnaaGreatDoorRows
import Derived.Test.YtjigfinpbdglnaaGreatDoorZBase
import Derived.ProofKit
import Derived.OpenShut
import Derived.ShutString
import Derived.JoinedCond
import Derived.SizedLaws
import Derived.Deep.CondSized
import Derived.Deep.Slices
set_option linter.unusedVariables false
set_option linter.unusedSimpArgs false
section
set_option linter.unusedVariables false
set_option linter.unusedSimpArgs false
namespace Go.Proofs.YtjigfinpbdglnaaGreatDoor
open Go.ChangeShapes Go.WideShapes Go.ChangeAt Go.RowKit Go.Deep

theorem ownKnob_ : ownKnob Tryz.prog.godebug = none := by kernel_rfl
theorem laidOut_ : laidOutB Tryz.prog = true := by kernel_rfl
theorem cells8_ : Tryz.prog.cellsOf 5 = 1 := by kernel_rfl
theorem bytes8_ : Tryz.prog.bytesOf 5 = 1 := by kernel_rfl

/-- What a datum's slice says of its size. -/
def SizeOf {H : Type} (d : DataW H) (n : Nat) : Prop := (d = .nil ∧ n = 0) ∨ ∃ elems spare, d = .slice elems spare ∧ elems.length = n

theorem byte_of {z : Int} (h : (Lit.int .u8 z).wf = true) : z = n8 (UInt8.ofNat z.toNat) := by
  simp [Lit.wf, IntKind.min, IntKind.max, IntKind.signed, IntKind.bits] at h
  unfold n8
  rw [UInt8.toNat_ofNat']
  omega

theorem open_bytes_trod {H : Type} {enc : TypeId × Value → H} {W : World} {fuel : Nat} {v : Value} {d : DataW H} {p : List MemPlace}
    (h : DataW.trod enc Tryz.prog W 0 (fun _ => true) true fuel 22 [v] = some (d, p)) :
    ∃ a n c l, v = .slice a n c ∧ Bs W a n c l ∧ SizeOf d n := by
  rcases open_ints Tryz.underlying22 Tryz.underlying5 cells8_ h with ⟨hcs, hd⟩ | ⟨x, len, cap, zs, hcs, _, hl, hm, hz, hd, hcell, hwz⟩
  · simp at hcs hd
    obtain ⟨rfl, rfl⟩ := hd
    exact ⟨none, 0, 0, [], hcs, Bs.nil W, .inl ⟨rfl, rfl⟩⟩
  · simp at hcs
    simp only [Prod.mk.injEq] at hd
    simp only [if_true] at hz
    refine ⟨some x, len, cap, (zs.take len).map (fun z => UInt8.ofNat z.toNat), hcs, ⟨by simp; omega, hl, hm, ?_⟩, .inr ⟨_, _, hd.1, by simp [lits]; omega⟩⟩
    intro j v hj
    have hjl : j < len := by
      rcases Nat.lt_or_ge j len with h' | h'
      · exact h'
      · rw [List.getElem?_eq_none (by simp [vs]; omega)] at hj; cases hj
    have hjz : j < zs.length := by omega
    have h0 := hcell 0 (by omega)
    rw [Addr.add_zero'] at h0
    have hs := World.cell?_spot h0
    obtain ⟨b, off, spot⟩ := x
    simp at hs
    subst hs
    refine ⟨b, off, rfl, ?_⟩
    have hc := hcell j hjz
    rw [Addr.add_lit] at hc
    rw [hc]
    simp only [vs, List.map_map, List.getElem?_map, List.getElem?_take, hjl, if_true, List.getElem?_eq_getElem hjz, Option.map_some, Option.some.injEq] at hj
    rw [← hj, List.getD_eq_getElem?_getD, List.getElem?_eq_getElem hjz]
    simp only [Option.getD_some, Function.comp]
    rw [← byte_of (hwz _ (List.getElem_mem hjz))]

theorem open_bytes {H : Type} {enc : TypeId × Value → H} {W : World} {d : DataW H} {p : List MemPlace} {a : Option Addr} {n c : Nat}
    (h : DataW.Trod enc Tryz.prog W 0 (fun _ => true) true 22 (.slice a n c) d p) : ∃ l, Bs W a n c l ∧ SizeOf d n := by
  obtain ⟨fuel, hf⟩ := h
  simp [Value.cells] at hf
  obtain ⟨a', n', c', l, h1, h2, h3⟩ := open_bytes_trod hf
  cases h1
  exact ⟨l, h2, h3⟩

theorem choose_list {β : Type} [Inhabited β] (n : Nat) (R : Nat → β → Prop) (h : ∀ i, i < n → ∃ x, R i x) : ∃ l : List β, l.length = n ∧ ∀ i, i < n → R i (nth l i) := by
  induction n with
  | zero => exact ⟨[], rfl, fun i hi => by omega⟩
  | succ n ih =>
    obtain ⟨l, hl, hR⟩ := ih (fun i hi => h i (by omega))
    obtain ⟨x, hx⟩ := h n (by omega)
    refine ⟨l ++ [x], by simp [hl], fun i hi => ?_⟩
    by_cases e : i = n
    · subst e
      rw [nth_eq _ (by simp; omega)]
      simpa [hl] using hx
    · rw [nth_append_left _ _ (by omega)]
      exact hR i (by omega)

theorem u64_of_wf {z : Int} (h : (Lit.int .u64 z).wf = true) : ∃ m : Nat, z = (m : Int) ∧ U64 m := by
  simp [Lit.wf, IntKind.min, IntKind.max, IntKind.signed, IntKind.bits] at h
  exact ⟨z.toNat, by omega, ⟨by omega⟩⟩
theorem i64_of_wf {z : Int} (h : (Lit.int .i64 z).wf = true) : -9223372036854775808 ≤ z ∧ z ≤ 9223372036854775807 := by
  simp [Lit.wf, IntKind.min, IntKind.max, IntKind.signed, IntKind.bits] at h
  omega
end Go.Proofs.YtjigfinpbdglnaaGreatDoor
end

section
set_option linter.unusedVariables false
set_option linter.unusedSimpArgs false
namespace Go.Proofs.YtjigfinpbdglnaaGreatDoor
open Go.ChangeShapes Go.WideShapes Go.ChangeAt Go.RowKit Go.Deep

theorem cellsBs_ : Tryz.prog.cellsOf 22 = 1 := by kernel_rfl
/-- A slice of slices of bytes; each inner one's size as the datum has it. -/
theorem open_rows {H : Type} {enc : TypeId × Value → H} {W : World} {d : DataW H} {p : List MemPlace} {a : Option Addr} {n c : Nat}
    (h : DataW.Trod enc Tryz.prog W 0 (fun _ => true) true 136 (.slice a n c) d p) :
    ∃ ls, Bss W a n c ls ∧ ((d = .nil ∧ n = 0) ∨ ∃ elems spare, d = .slice elems spare ∧ elems.length = n ∧ ∀ i, i < n → ∃ x, elems[i]? = some x ∧ SizeOf x (nth ls i).length) := by
  obtain ⟨fuel, hf⟩ := h
  simp [Value.cells] at hf
  rcases open_slice1 Tryz.underlying136 cellsBs_ hf with ⟨hcs, hd⟩ | ⟨x, len, cap, m, k, V, D, Pl, hcs, _, hl, hm, hmm, hd, hel⟩
  · simp at hcs hd
    obtain ⟨rfl, rfl, rfl⟩ := hcs
    exact ⟨[], Bss.nil W, .inl ⟨hd.1, rfl⟩⟩
  · simp at hcs
    obtain ⟨rfl, rfl, rfl⟩ := hcs
    simp only [if_true] at hmm
    simp only [Prod.mk.injEq] at hd
    obtain ⟨ls, hls, hR⟩ := choose_list n (fun i l => ∃ b off ai ni ci, (some x : Option Addr) = some ⟨b, off, none⟩ ∧ W.cell? ⟨b, off + i, none⟩ = some (.slice ai ni ci) ∧ Bs W ai ni ci l ∧ SizeOf (D i) l.length) (by
      intro i hi
      obtain ⟨hc, ht⟩ := hel i (by omega)
      obtain ⟨h0, _⟩ := hel 0 (by omega)
      obtain ⟨a', n', c', l, hv, hb, hs⟩ := open_bytes_trod ht
      rw [Addr.add_zero'] at h0
      have hsp := World.cell?_spot h0
      obtain ⟨b, off, spot⟩ := x
      simp at hsp
      subst hsp
      rw [Addr.add_lit] at hc
      exact ⟨l, b, off, a', n', c', rfl, by rw [hc, hv], hb, by rw [hb.1]; exact hs⟩)
    refine ⟨ls, ⟨hls, hl, hm, fun i hi => ?_⟩, .inr ⟨_, _, hd.1, by simp, fun i hi => ?_⟩⟩
    · obtain ⟨b, off, ai, ni, ci, h1, h2, h3, _⟩ := hR i hi
      exact ⟨b, off, ai, ni, ci, h1, h2, h3⟩
    · obtain ⟨b, off, ai, ni, ci, _, _, _, h4⟩ := hR i hi
      exact ⟨D i, by simp [hi], h4⟩

/-- The form's own reach, of a slice of bytes. -/
theorem fits_bytes {H : Type} {ts : List TypeId} {ds : List (DataW H)} (h : (DataW.weightsEach Tryz.prog ts ds).all (· ≤ reachBytes) = true) {j : Nat} {d : DataW H} {n : Nat}
    (ht : (ts[j]?, ds[j]?) = (some 22, some d)) (hs : SizeOf d n) : Fits n := by
  simp only [Prod.mk.injEq] at ht
  rcases hs with ⟨rfl, rfl⟩ | ⟨elems, spare, rfl, rfl⟩
  · exact ⟨by omega⟩
  · have := sized_slice h (j := j) ht.1 ht.2 Tryz.underlying22
    rw [bytes8_] at this
    simp only [reachBytes] at this
    exact ⟨by omega⟩
end Go.Proofs.YtjigfinpbdglnaaGreatDoor
end
