/- Slices of ints that are read. -/
import Derived.Test.YtkbfefooaajhkaaDoorOpenB
set_option linter.unusedVariables false
set_option linter.unusedSimpArgs false
namespace Go.Proofs.YtkbfefooaajhkaaDoor
open Go.ChangeShapes Go.WideShapes Go.ChangeAt Go.RowKit Go.Deep

def zv (l : List Int) : List Value := l.map fun z => .int .i64 z
structure I64 (z : Int) : Prop where
  lo : -9223372036854775808 ≤ z
  hi : z ≤ 9223372036854775807
/-- A slice of ints that is read. -/
def Is (w : World) (a : Option Addr) (n c : Nat) (l : List Int) : Prop := l.length = n ∧ n ≤ c ∧ c ≤ maxLen ∧ Row w a (zv l) ∧ ∀ z ∈ l, I64 z
theorem Is.below {w w' : World} {a : Option Addr} {n c : Nat} {l : List Int} (h : Is w a n c l) (hb : Below w.heap.size w w') : Is w' a n c l := ⟨h.1, h.2.1, h.2.2.1, h.2.2.2.1.below hb, h.2.2.2.2⟩
theorem Is.le {w : World} {a : Option Addr} {n c : Nat} {l : List Int} (h : Is w a n c l) : n ≤ 9223372036854775807 ∧ c ≤ 9223372036854775807 := by
  have := h.2.1; have := h.2.2.1; simp only [maxLen] at *; omega
theorem Is.get {w : World} {a : Option Addr} {n c : Nat} {l : List Int} (h : Is w a n c l) {i : Nat} (hi : i < n) :
    ∃ b off, a = some ⟨b, off, none⟩ ∧ w.cell? ⟨b, off + i, none⟩ = some (.int .i64 (nth l i)) := by
  refine h.2.2.2.1 i _ ?_
  have := h.1
  simp [zv, nth_eq l (by omega : i < l.length), (by omega : i < l.length)]
theorem Is.bd {w : World} {a : Option Addr} {n c : Nat} {l : List Int} (h : Is w a n c l) {i : Nat} (hi : i < n) : I64 (nth l i) := by
  rw [nth_eq l (by rw [h.1]; exact hi)]; exact h.2.2.2.2 _ (List.getElem_mem _)
theorem i64_mk {z : Int} (h : (Lit.int .i64 z).wf = true) : I64 z := ⟨(i64_of_wf h).1, (i64_of_wf h).2⟩
theorem cells64_ : Tryd.prog.cellsOf 3 = 1 := by kernel_rfl
theorem open_intlist {H : Type} {enc : TypeId × Value → H} {W : World} {a : Option Addr} {n c : Nat} {d : DataW H} {p : List MemPlace}
    (h : DataW.Trod enc Tryd.prog W 0 (fun _ => true) true 40 (.slice a n c) d p) : ∃ l, Is W a n c l ∧ SizeOf d n := by
  obtain ⟨fuel, hf⟩ := h
  simp [Value.cells] at hf
  rcases open_ints Tryd.underlying40 Tryd.underlying3 cells64_ hf with ⟨hcs, hd⟩ | ⟨x, len, cap, zs, hcs, _, hl, hm, hz, hd, hcell, hwz⟩
  · simp at hcs hd
    obtain ⟨⟨rfl, rfl, rfl⟩, rfl, rfl⟩ := And.intro hcs hd
    exact ⟨[], ⟨rfl, Nat.le_refl _, by simp [maxLen], Row.nil _ _, by simp⟩, .inl ⟨rfl, rfl⟩⟩
  · simp at hcs
    obtain ⟨rfl, rfl, rfl⟩ := hcs
    simp only [Prod.mk.injEq] at hd
    simp only [if_true] at hz
    refine ⟨zs.take n, ⟨by simp; omega, hl, hm, ?_, fun z hzm => i64_mk (hwz z (List.mem_of_mem_take hzm))⟩, .inr ⟨_, _, hd.1, by simp [lits]; omega⟩⟩
    intro j v hj
    have hjl : j < n := by
      rcases Nat.lt_or_ge j n with h' | h'
      · exact h'
      · rw [List.getElem?_eq_none (by simp [zv]; omega)] at hj; cases hj
    have hjz : j < zs.length := by omega
    have h0 := hcell 0 (by omega)
    rw [Addr.add_zero'] at h0
    have hs := World.cell?_spot h0
    obtain ⟨b, off, spot⟩ := x
    simp at hs
    subst hs
    refine ⟨b, off, rfl, ?_⟩
    have hc := hcell j hjz
    rw [Addr.add_lit] at hc
    rw [hc]
    simp only [zv, List.getElem?_map, List.getElem?_take, hjl, if_true, List.getElem?_eq_getElem hjz, Option.map_some, Option.some.injEq] at hj
    rw [← hj, List.getD_eq_getElem?_getD, List.getElem?_eq_getElem hjz]
    rfl
end Go.Proofs.YtkbfefooaajhkaaDoor
