/- The walk of GfOwn. -/
import Derived.Test.YtppgbapfmijboaaRgMw
set_option maxRecDepth 100000
namespace Go.Proofs.Ytppgbapfmijboaa
open Go.RowKit Go.Deep

theorem inc8 (a : UInt8) : IntKind.u8.wrap (n8 a + 1) = n8 (a + 1) := by
  unfold n8; rw [IntKind.wrap_u8, UInt8.toNat_add]; rfl
@[go_sem] theorem inc8' (a : UInt8) : (n8 a + 1) % 256 = n8 (a + 1) := by rw [← inc8, IntKind.wrap_u8]
/-- What may be written over: rows of the call's own, or none. -/
def Mine (w : World) (B B' : Nat) (a : Option Addr) (n : Nat) : Prop := (a = none ∧ n = 0) ∨ ∃ g C bl cp Z, a = some ⟨g, 0, none⟩ ∧ My w B g n C bl cp Z ∧ g < B' ∧ ∀ i, i < n → bl i < B'
theorem Mine.onl {w w' : World} {B B' : Nat} {a : Option Addr} {n : Nat} {S : Nat → Prop} (h : Mine w B B' a n) (k : Onl w w' S) (hS : ∀ b, S b → b < B ∨ B' ≤ b) : Mine w' B B' a n := by
  rcases h with h | ⟨g, C, bl, cp, Z, h1, h2, h3, h4⟩
  · exact .inl h
  · exact .inr ⟨g, C, bl, cp, Z, h1, h2.onl k (fun e => by have := hS _ e; have := h2.base; omega) (fun i hi e => by have := hS _ e; have := (h2.row i hi).1; have := h4 i hi; omega), h3, h4⟩
theorem MOwn.mine {ls : List (List UInt8)} {er : Int} {w w' : World} {e : Ending} (h : MOwn ls er w e w') :
    ∃ a n c, e = .returned (.tuple #[.slice a n c, .int .i64 er]) ∧ Bss w' a n c ls ∧ Mine w' w.heap.size w'.heap.size a n ∧ Below w.heap.size w w' := by
  obtain ⟨⟨a, n, c, h1, h2, h3⟩, hb⟩ := h
  refine ⟨a, n, c, h1, h2, ?_, hb⟩
  rcases h3 with h3 | ⟨g, C, bl, cp, Z, h4, h5, _⟩
  · exact .inl h3
  · exact .inr ⟨g, C, bl, cp, Z, h4, h5, h5.top.lt, fun i hi => (h5.row i hi).2.2.lt⟩
end Go.Proofs.Ytppgbapfmijboaa
