/- The walk of GfMakes. -/
import Derived.Test.YtppgbapfmijboaaRgJ
import Derived.Test.YtppgbapfmijboaaRgK
namespace Go.Proofs.Ytppgbapfmijboaa
open Go.RowKit Go.Deep

/-- A matrix and an error are told. -/
def MRes (ls : List (List UInt8)) (er : Int) (w : World) (e : Ending) (w' : World) : Prop :=
  (∃ a n c, e = .returned (.tuple #[.slice a n c, .int .i64 er]) ∧ Bss w' a n c ls) ∧ Below w.heap.size w w'
theorem MatP.res {R C : Nat} {Z : Nat → Nat → UInt8} {w w' : World} {e : Ending} (h : MatP R C Z w e w') : MRes (mat R C Z) 0 w e w' := by
  obtain ⟨⟨g, c, bl, cp, h1, h2, h3, h4⟩, hb⟩ := h
  exact ⟨⟨_, _, _, h1, h4.bss h2 h3⟩, hb⟩
theorem nil_res {w w' : World} {e : Ending} {er : Int} (h : e = .returned (.tuple #[.slice none 0 0, .int .i64 er])) (hb : Below w.heap.size w w') : MRes [] er w e w' :=
  ⟨⟨_, _, _, h, Bss.nil w'⟩, hb⟩
def Gf.unitL (n : Int) : List (List UInt8) := if 1 ≤ n ∧ n ≤ 255 then mat n.toNat n.toNat Gf.one else []
def Gf.unitE (n : Int) : Int := if 1 ≤ n ∧ n ≤ 255 then 0 else 1
theorem unit_all (n : Int) (w : World) : Calls Try.prog 52 #[.int .i64 n] w (MRes (Gf.unitL n) (Gf.unitE n) w) := by
  by_cases h : 1 ≤ n ∧ n ≤ 255
  · obtain ⟨k, rfl⟩ : ∃ k : Nat, n = (k : Int) := ⟨n.toNat, by omega⟩
    unfold Gf.unitL Gf.unitE
    rw [if_pos h, if_pos h]
    exact (unit_any k w (by omega) (by omega)).mono fun e w' ⟨⟨g, bl, h1, h2⟩, hb⟩ => ⟨⟨_, _, _, h1, h2.bss (Nat.le_refl _) (by simp only [maxLen]; omega) (by simp only [maxLen]; omega)⟩, hb⟩
  · unfold Gf.unitL Gf.unitE
    rw [if_neg h, if_neg h]
    exact (unit_err n w h).mono fun e w' ⟨h1, h2⟩ => nil_res h1 (h2 ▸ Below.refl _ _)
theorem refunit_all (n : Int) (w : World) : Calls Try.prog 58 #[.int .i64 n] w (MRes (Gf.unitL n) (Gf.unitE n) w) := by
  by_cases h : 1 ≤ n ∧ n ≤ 255
  · obtain ⟨k, rfl⟩ : ∃ k : Nat, n = (k : Int) := ⟨n.toNat, by omega⟩
    unfold Gf.unitL Gf.unitE
    rw [if_pos h, if_pos h]
    exact (refunit_any k w (by omega) (by omega)).mono fun e w' h => h.res
  · unfold Gf.unitL Gf.unitE
    rw [if_neg h, if_neg h]
    exact (refunit_err n w h).mono fun e w' ⟨h1, h2⟩ => nil_res h1 (h2 ▸ Below.refl _ _)
instance (r c : Int) : Decidable (Gf.CauFit r c) := decidable_of_iff (1 ≤ r ∧ 1 ≤ c ∧ r + c ≤ 256) ⟨fun h => ⟨h.1, h.2.1, h.2.2⟩, fun h => ⟨h.1, h.2, h.3⟩⟩
def Gf.cauL (r c : Int) : List (List UInt8) := if Gf.CauFit r c then mat r.toNat c.toNat (Gf.cau c.toNat) else []
def Gf.cauE (r c : Int) : Int := if Gf.CauFit r c then 0 else 1
theorem cauchy_all (r c : Int) (w : World) (hr : -9223372036854775808 ≤ r ∧ r ≤ 9223372036854775807) (hc : -9223372036854775808 ≤ c ∧ c ≤ 9223372036854775807) : Calls Try.prog 26 #[.int .i64 r, .int .i64 c] w (MRes (Gf.cauL r c) (Gf.cauE r c) w) := by
  by_cases h : Gf.CauFit r c
  · have := h.1; have := h.2; have := h.3
    obtain ⟨R, rfl⟩ : ∃ k : Nat, r = (k : Int) := ⟨r.toNat, by omega⟩
    obtain ⟨C, rfl⟩ : ∃ k : Nat, c = (k : Int) := ⟨c.toNat, by omega⟩
    unfold Gf.cauL Gf.cauE
    rw [if_pos h, if_pos h]
    exact (cauchy_any R C w (by omega) (by omega) (by omega)).mono fun e w' ⟨⟨g, bl, h1, h2⟩, hb⟩ => ⟨⟨_, _, _, h1, h2.bss (Nat.le_refl _) (by simp only [maxLen]; omega) (by simp only [maxLen]; omega)⟩, hb⟩
  · unfold Gf.cauL Gf.cauE
    rw [if_neg h, if_neg h]
    exact (cauchy_err r c w h hr hc).mono fun e w' ⟨h1, h2⟩ => nil_res h1 h2
theorem refcauchy_all (r c : Int) (w : World) (hr : -9223372036854775808 ≤ r ∧ r ≤ 9223372036854775807) (hc : -9223372036854775808 ≤ c ∧ c ≤ 9223372036854775807) : Calls Try.prog 55 #[.int .i64 r, .int .i64 c] w (MRes (Gf.cauL r c) (Gf.cauE r c) w) := by
  by_cases h : Gf.CauFit r c
  · have := h.1; have := h.2; have := h.3
    obtain ⟨R, rfl⟩ : ∃ k : Nat, r = (k : Int) := ⟨r.toNat, by omega⟩
    obtain ⟨C, rfl⟩ : ∃ k : Nat, c = (k : Int) := ⟨c.toNat, by omega⟩
    unfold Gf.cauL Gf.cauE
    rw [if_pos h, if_pos h]
    exact (refcauchy_any R C w (by omega) (by omega) (by omega)).mono fun e w' h => h.res
  · unfold Gf.cauL Gf.cauE
    rw [if_neg h, if_neg h]
    exact (refcauchy_err r c w h hr hc).mono fun e w' ⟨h1, h2⟩ => nil_res h1 (h2 ▸ Below.refl _ _)
/-- Two that are the same. -/
theorem same_yes (a a' : Option Addr) (n c n' c' : Nat) (l : List (List UInt8)) (w : World) (h : Bss w a n c l) (h' : Bss w a' n' c' l) :
    Calls Try.prog 12 #[.slice a n c, .slice a' n' c'] w fun e w' => e = .returned (.bool true) ∧ Below w.heap.size w w' :=
  (same_any a a' n c n' c' l l w h h').mono fun e w' ⟨h1, q, h2⟩ => ⟨by rw [h1]; simp, h2 ▸ below_drewN (Below.refl _ _) q⟩
end Go.Proofs.Ytppgbapfmijboaa
