/- gf's Times. -/
import Derived.Test.YtppgbapfmijboaaRgN
import Derived.Test.YtppgbapfmijboaaQuiet
namespace Go.Proofs.Ytppgbapfmijboaa
open Go.RowKit Go.Deep

def at2 (ls : List (List UInt8)) (i j : Nat) : UInt8 := nth (nth ls i) j
theorem Bss.at2 {w : World} {a : Option Addr} {n c : Nat} {ls : List (List UInt8)} (h : Bss w a n c ls) {i j : Nat} (hi : i < n) (hj : j < (nth ls i).length) :
    ∃ b off ci b2 off2, a = some ⟨b, off, none⟩ ∧ w.cell? ⟨b, off + i, none⟩ = some (.slice (some ⟨b2, off2, none⟩) (nth ls i).length ci) ∧ w.cell? ⟨b2, off2 + j, none⟩ = some (.int .u8 (n8 (at2 ls i j))) := by
  obtain ⟨b, off, ai, ni, ci, h1, h2, h3⟩ := h.get hi
  have e := h3.1
  subst e
  obtain ⟨b2, off2, rfl, h4⟩ := h3.byte hj
  exact ⟨b, off, ci, b2, off2, h1, h2, h4⟩
theorem right_spec {ls : List (List UInt8)} (h : Gf.right ls = true) : 1 ≤ ls.length ∧ ls.length ≤ 255 ∧ 1 ≤ (nth ls 0).length ∧ (nth ls 0).length ≤ 255 ∧ ∀ k, k < ls.length → (nth ls k).length = (nth ls 0).length := by
  unfold Gf.right at h; exact of_decide_eq_true h
theorem right_yes {a : Option Addr} {n c : Nat} {ls : List (List UInt8)} {w : World} (hr : Gf.right ls = true) (h : Bss w a n c ls) :
    Calls Try.prog 63 #[.slice a n c] w fun e w' => e = .returned (.bool true) ∧ Below w.heap.size w w' := by rw [← hr]; exact right_any a n c ls w h
theorem right_no {a : Option Addr} {n c : Nat} {ls : List (List UInt8)} {w : World} (hr : Gf.right ls = false) (h : Bss w a n c ls) :
    Calls Try.prog 63 #[.slice a n c] w fun e w' => e = .returned (.bool false) ∧ Below w.heap.size w w' := by rw [← hr]; exact right_any a n c ls w h
theorem mul_q (a b : UInt8) (w : World) : Calls Try.prog 61 #[.int .u8 (n8 a), .int .u8 (n8 b)] w fun e w' => e = .returned (.int .u8 (n8 (Gf.mul a b))) ∧ w' = w := (mul_any a b w).mono fun _ _ ⟨h1, h2⟩ => ⟨h1, h2.symm⟩
theorem add_q (a b : UInt8) (w : World) : Calls Try.prog 49 #[.int .u8 (n8 a), .int .u8 (n8 b)] w fun e w' => e = .returned (.int .u8 (n8 (a ^^^ b))) ∧ w' = w := (add_any a b w).mono fun _ _ ⟨h1, h2⟩ => ⟨h1, h2.symm⟩

def Gf.timesOk (m o : List (List UInt8)) : Bool := Gf.right m && Gf.right o && decide ((nth m 0).length = o.length)
def Gf.timesL (m o : List (List UInt8)) : List (List UInt8) := if Gf.timesOk m o = true then mat m.length (nth o 0).length (fun i j => Gf.sm o.length (fun k => Gf.mul (at2 m i k) (at2 o k j))) else []
def Gf.timesE (m o : List (List UInt8)) : Int := if Gf.timesOk m o = true then 0 else 1
theorem times_bad {m o : List (List UInt8)} (h : Gf.timesOk m o = false) : Gf.timesL m o = [] ∧ Gf.timesE m o = 1 := by
  unfold Gf.timesL Gf.timesE; rw [h]; exact ⟨rfl, rfl⟩
theorem times_good {m o : List (List UInt8)} (h : Gf.timesOk m o = true) : Gf.timesL m o = mat m.length (nth o 0).length (fun i j => Gf.sm o.length (fun k => Gf.mul (at2 m i k) (at2 o k j))) ∧ Gf.timesE m o = 0 := by
  unfold Gf.timesL Gf.timesE; rw [if_pos h, if_pos h]; exact ⟨rfl, rfl⟩
/-- A matrix of the call's own is told, or nil. -/
def MOwn (ls : List (List UInt8)) (er : Int) (w : World) (e : Ending) (w' : World) : Prop :=
  (∃ a n c, e = .returned (.tuple #[.slice a n c, .int .i64 er]) ∧ Bss w' a n c ls ∧ ((a = none ∧ n = 0) ∨ ∃ g C bl cp Z, a = some ⟨g, 0, none⟩ ∧ My w' w.heap.size g n C bl cp Z ∧ ls = mat n C Z)) ∧ Below w.heap.size w w'
theorem MOwn.res {ls : List (List UInt8)} {er : Int} {w w' : World} {e : Ending} (h : MOwn ls er w e w') : MRes ls er w e w' := by
  obtain ⟨⟨a, n, c, h1, h2, _⟩, hb⟩ := h
  exact ⟨⟨a, n, c, h1, h2⟩, hb⟩
theorem nil_own {w w' : World} {e : Ending} {er : Int} (h : e = .returned (.tuple #[.slice none 0 0, .int .i64 er])) (hb : Below w.heap.size w w') : MOwn [] er w e w' :=
  ⟨⟨_, _, _, h, Bss.nil w', .inl ⟨rfl, rfl⟩⟩, hb⟩
theorem Mx.own {w w' W : World} {g n C : Nat} {bl : Nat → Nat} {Z : Nat → Nat → UInt8} {er : Int} (h : Mx w' W.heap.size g n C bl Z) (hW : w.heap.size ≤ W.heap.size) (hn : n ≤ 255) (hC : C ≤ 255) (hb : Below w.heap.size w w') :
    MOwn (mat n C Z) er w (.returned (.tuple #[.slice (some ⟨g, 0, none⟩) n n, .int .i64 er])) w' :=
  ⟨⟨_, _, _, rfl, h.bss (Nat.le_refl _) (by simp only [maxLen]; omega) (by simp only [maxLen]; omega), .inr ⟨g, C, bl, _, Z, rfl, (h.mono hW).my (by simp only [maxLen]; omega), rfl⟩⟩, hb⟩
theorem MOwn.of_eq {ls ls' : List (List UInt8)} {er er' : Int} {w w' : World} {e : Ending} (h : MOwn ls er w e w') (h1 : ls = ls') (h2 : er = er') : MOwn ls' er' w e w' := by subst h1; subst h2; exact h

end Go.Proofs.Ytppgbapfmijboaa
