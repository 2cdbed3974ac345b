/- Payloads that are read: ReadFrame, ReadBytes, the reference's. -/
import Derived.Test.YtkbfefooaajhkaaDoorXdE
namespace Go.Proofs.YtkbfefooaajhkaaDoor
open Go.RowKit

/-- What a reader hands back: bytes, a place, an error. -/
def RetR (w : World) (r : List UInt8 × Nat × Nat) (e : Ending) (w' : World) : Prop := ∃ a n c, e = .returned (.tuple #[.slice a n c, .int .i64 r.2.1, .int .i64 r.2.2]) ∧ Bs w' a n c r.1 ∧ Below w.heap.size w w'

set_option maxHeartbeats 1000000 in
theorem readfour_any (a : Option Addr) (n c : Nat) (l : List UInt8) (w : World) (h : Bs w a n c l) (hn : 4 ≤ n) :
    Calls Tryd.prog 47 #[.slice a n c] w fun e w' => e = .returned (.int .u32 (n32 (Codec.rf4 (nth l 0) (nth l 1) (nth l 2) (nth l 3)))) ∧ Below w.heap.size w w' := by
  have hle := h.le.1
  obtain ⟨b, off, rfl, h0⟩ := h.byte (i := 0) (by omega)
  obtain ⟨_, _, e1, h1⟩ := h.byte (i := 1) (by omega)
  obtain ⟨_, _, e2, h2⟩ := h.byte (i := 2) (by omega)
  obtain ⟨_, _, e3, h3⟩ := h.byte (i := 3) (by omega)
  cases e1; cases e2; cases e3
  have g0 : (0 : Int) < (n : Int) := by omega
  have g1 : (1 : Int) < (n : Int) := by omega
  have g2 : (2 : Int) < (n : Int) := by omega
  have g3 : (3 : Int) < (n : Int) := by omega
  rw [Nat.add_zero] at h0
  go_enter Tryd.func47, Tryd.ntmps47
  go_wp2
  go_quiet (fail)
  go_wp2
  go_ret
  exact ⟨rfl, below_drewN (Below.refl _ _) _⟩
end Go.Proofs.YtkbfefooaajhkaaDoor
