/- Sorted tables: the bytes of a table of no entry, and of one. -/
import Derived.Test.YtchdmjnhjonddaaSbP
import Derived.Test.YtchdmjnhjonddaaSbR
import Derived.Test.YtchdmjnhjonddaaSbS
set_option maxRecDepth 100000
set_option linter.unusedVariables false
set_option linter.unusedSimpArgs false
namespace Go.Proofs.Ytchdmjnhjonddaa
open Go.RowKit

def kE : Ent := ⟨[107], 3, false, [118]⟩
def kB0 : List UInt8 := Sst.fin [] 10
def kB1 : List UInt8 := Sst.fin [kE] 10
theorem kB0_good : Sst.Good kB0 18 0 5 [] [] where
  len := by decide +kernel
  lt1 := by decide
  lt2 := by decide
  big := by decide
  f1 := by decide +kernel
  f2 := by decide +kernel
  f3 := by decide +kernel
  f4 := .inl ⟨rfl, rfl, rfl⟩
  f5 := by decide +kernel
  f6 := by decide +kernel
  f7 := by decide +kernel
theorem kB1_good : Sst.Good kB1 33 11 20 [kE] [⟨[107], 0, 11⟩] where
  len := by decide +kernel
  lt1 := by decide
  lt2 := by decide
  big := by decide
  f1 := by decide +kernel
  f2 := by decide +kernel
  f3 := by decide +kernel
  f4 := .inr ⟨kE, rfl, by decide, by decide +kernel, by decide +kernel, rfl, ⟨by decide⟩, by decide, by decide⟩
  f5 := by decide +kernel
  f6 := by decide +kernel
  f7 := by decide +kernel
theorem kBuild0 : Sst.build [] 10 = (kB0, 0) := build_ok (C := 10) (by decide) (by decide) (by simp)
theorem kBuild1 : Sst.build [kE] 10 = (kB1, 0) := build_ok (C := 10) (by decide) (by decide +kernel) (by
  simp only [List.mem_singleton, exists_eq_left]
  unfold Sst.long kE
  simp)
theorem kLen0 : kB0.length = 46 := by decide +kernel
theorem kMay : Sst.may (Sst.filter [kE]) [107] = true := by decide +kernel
theorem kLenF : (Sst.filter [kE]).length = 8 := by decide +kernel
theorem kCmp5 : Ent.cmp kE ⟨[107], 5, false, []⟩ = 1 := by decide +kernel
theorem kCmp2 : Ent.cmp kE ⟨[107], 2, false, []⟩ = -1 := by decide +kernel
end Go.Proofs.Ytchdmjnhjonddaa
