/- The reference's readers. -/
import Derived.Test.YtkbfefooaajhkaaDoorXdG
namespace Go.Proofs.YtkbfefooaajhkaaDoor
open Go.RowKit

theorem take4 (l : List UInt8) (h : 4 ≤ l.length) : l.take 4 = [nth l 0, nth l 1, nth l 2, nth l 3] := by
  match l, h with
  | x0 :: x1 :: x2 :: x3 :: r, _ => rfl

theorem subA_block {a : Option Addr} {c k : Nat} {x : Addr} (h : subA a c k = some x) : ∃ y, a = some y ∧ x.block = y.block := by
  unfold subA at h
  split at h
  · exact ⟨x, h, rfl⟩
  · cases a with
    | none => cases h
    | some y => cases h; exact ⟨y, rfl, by show (y.add k).block = y.block; unfold Addr.add; split <;> rfl⟩
/-- What is handed back lies in the block that was handed in. -/
def RetA (w : World) (a0 : Option Addr) (r : List UInt8 × Nat × Nat) (e : Ending) (w' : World) : Prop := ∃ a n c, e = .returned (.tuple #[.slice a n c, .int .i64 r.2.1, .int .i64 r.2.2]) ∧ Bs w' a n c r.1 ∧ Below w.heap.size w w' ∧ ∀ x, a = some x → ∃ y, a0 = some y ∧ x.block = y.block

end Go.Proofs.YtkbfefooaajhkaaDoor
