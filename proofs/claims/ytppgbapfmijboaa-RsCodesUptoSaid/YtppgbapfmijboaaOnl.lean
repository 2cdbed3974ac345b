/- Changes of some blocks alone. No program in sight. -/
import Derived.Test.YtppgbapfmijboaaBase
import Derived.Deep.OwnRows
set_option linter.unusedVariables false
set_option linter.unusedSimpArgs false
namespace Go.Proofs.Ytppgbapfmijboaa
open Go.RowKit Go.Deep

/-- Of what there was only blocks of S are changed. -/
structure Onl (w w' : World) (S : Nat → Prop) : Prop where
  os : w'.os = w.os
  tape : w'.tape = w.tape
  output : w'.output = w.output
  size : w.heap.size ≤ w'.heap.size
  block : ∀ k, k < w.heap.size → ¬ S k → w'.heap[k]? = w.heap[k]?
namespace Onl
variable {w w1 w2 : World} {S T : Nat → Prop}
theorem refl (w : World) (S : Nat → Prop) : Onl w w S := ⟨rfl, rfl, rfl, Nat.le_refl _, fun _ _ _ => rfl⟩
theorem trans (h : Onl w w1 S) (k : Onl w1 w2 S) : Onl w w2 S :=
  ⟨k.os.trans h.os, k.tape.trans h.tape, k.output.trans h.output, Nat.le_trans h.size k.size, fun i hi hs => (k.block i (Nat.lt_of_lt_of_le hi h.size) hs).trans (h.block i hi hs)⟩
theorem mono (h : Onl w w1 S) (hs : ∀ k, S k → T k) : Onl w w1 T := ⟨h.os, h.tape, h.output, h.size, fun k hk ht => h.block k hk (fun e => ht (hs k e))⟩
theorem of_below (h : Below w.heap.size w w1) : Onl w w1 S := ⟨h.os, h.tape, h.output, h.size, fun k hk _ => h.block k hk⟩
theorem drew (h : Onl w w1 S) : Onl w w1.drew S := h.trans (of_below (Below.refl _ _).drew)
theorem drewN (h : Onl w w1 S) (q : Nat) : Onl w (w1.drewN q) S := h.trans (of_below (below_drewN (Below.refl _ _) q))
theorem alloc (h : Onl w w1 S) (o : Obj) : Onl w (w1.alloc o) S := h.trans (of_below ((Below.refl _ _).alloc (Nat.le_refl _) o))
theorem set (h : Onl w w1 S) {a : Addr} (ha : S a.block) (v : Value) : Onl w (w1.setCell a v) S :=
  h.trans ⟨rfl, rfl, rfl, by simp, fun k _ hs => Below.heap_setCell _ _ _ _ (fun e => hs (e ▸ ha))⟩
theorem setNew (h : Onl w w1 S) {a : Addr} (ha : w.heap.size ≤ a.block) (v : Value) : Onl w (w1.setCell a v) S :=
  ⟨h.os, h.tape, h.output, by simpa using h.size, fun k hk hs => (Below.heap_setCell _ _ _ _ (by omega)).trans (h.block k hk hs)⟩
theorem below {B : Nat} (h : Onl w w1 S) (hB : B ≤ w.heap.size) (hs : ∀ k, S k → B ≤ k) : Below B w w1 :=
  ⟨h.os, h.tape, h.output, h.size, fun k hk => h.block k (by omega) (fun e => by have := hs k e; omega)⟩
theorem cell (h : Onl w w1 S) {b o : Nat} {v : Value} (hc : w.cell? ⟨b, o, none⟩ = some v) (hb : ¬ S b) : w1.cell? ⟨b, o, none⟩ = some v := by
  have hlt : b < w.heap.size := by
    by_cases e : b < w.heap.size
    · exact e
    · simp [World.cell?, Array.getElem?_eq_none (by omega : w.heap.size ≤ b)] at hc
  rw [← hc]
  exact World.cell?_of_block (h.block b hlt hb)
end Onl
end Go.Proofs.Ytppgbapfmijboaa
