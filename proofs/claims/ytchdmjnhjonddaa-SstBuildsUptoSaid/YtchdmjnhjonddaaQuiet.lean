/- A region that draws its order, walked once over all worlds that keep what there was: the class 'below'. No program in sight. -/
import Derived.Test.YtchdmjnhjonddaaBase
import Derived.BigQuiet
import Derived.Deep.QuietTactic
import Derived.StillTailTactics
set_option linter.unusedVariables false
set_option linter.unusedSimpArgs false
namespace Go.Proofs.Ytchdmjnhjonddaa
open Go.RowKit

/-- Worlds in which all that there was is as it was. -/
structure BW (w0 : World) where
  w : World
  b : Below w0.heap.size w0 w
instance (w0 : World) : Nonempty (BW w0) := ⟨⟨w0, Below.refl _ _⟩⟩
instance (w0 : World) : Inhabited (BW w0) := ⟨⟨w0, Below.refl _ _⟩⟩
theorem BW.cell {w0 : World} {a : Addr} {v : Value} (h : w0.cell? a = some v) (W : BW w0) : W.w.cell? a = some v := cell_later W.b h
theorem BW.of {w0 w' : World} (h : ∃ W : BW w0, w' = W.w) : Below w0.heap.size w0 w' := by obtain ⟨W, rfl⟩ := h; exact W.b
section
variable {P : Program}
theorem wp_region_class {w0 w : World} {id : Nat} {Q : Exit → Act → World → Prop} {a : Act} {l : List Oper} (hm : P.follows .mixedOrders = true) (hB : Region.lexB .any l.toArray = true) (h0 : Below w0.heap.size w0 w)
    (h : wpQuiet P l.toArray (fun w' => ∃ W : BW w0, w' = W.w) (fun a' => ∀ w', (∃ W : BW w0, w' = W.w) → Q .normal a' w') l a) : (Code.region id l.toArray true).wp P Q a w :=
  wp_region_quiet (C := fun w' => ∃ W : BW w0, w' = W.w) hm hB ⟨⟨w.drew, h0.drew⟩, rfl⟩ (by simpa using h)
theorem calls_class {w0 : World} {f : FuncId} {args : Array Value} {W : BW w0} {v : Value} (h : Calls P f args W.w fun e w' => e = .returned v ∧ Below W.w.heap.size W.w w') :
    Calls P f args W.w fun e w'' => e = .returned v ∧ ∃ W' : BW w0, w'' = W'.w :=
  h.mono fun _ w' ⟨he, hb⟩ => ⟨he, ⟨w', W.b.trans (hb.mono W.b.size)⟩, rfl⟩
theorem calls_class_q {w0 : World} {f : FuncId} {args : Array Value} {W : BW w0} {v : Value} (h : Calls P f args W.w fun e w' => e = .returned v ∧ ∃ q, w' = W.w.drewN q) :
    Calls P f args W.w fun e w'' => e = .returned v ∧ ∃ W' : BW w0, w'' = W'.w :=
  calls_class (h.mono fun _ _ ⟨he, q, hq⟩ => ⟨he, hq ▸ below_drewN (Below.refl _ _) q⟩)
theorem calls_class_s {w0 : World} {f : FuncId} {args : Array Value} {W : BW w0} {v : Value} (h : Calls P f args W.w fun e w' => e = .returned v ∧ W.w = w') :
    Calls P f args W.w fun e w'' => e = .returned v ∧ ∃ W' : BW w0, w'' = W'.w :=
  calls_class (h.mono fun _ _ ⟨he, hq⟩ => ⟨he, hq ▸ Below.refl _ _⟩)
/-- A piece of code whose ways all end alike. -/
theorem code_one {c : Code} {Q : Exit → Act → World → Prop} {a w} (A : Act) (W : World) (h : c.wp P (fun e a w => e = .normal ∧ a = A ∧ w = W) a w) (k : Q .normal A W) : c.wp P Q a w :=
  Code.wp_mono (fun e a w ⟨h1, h2, h3⟩ => by subst h1; subst h2; subst h3; exact k) h
end
end Go.Proofs.Ytchdmjnhjonddaa
