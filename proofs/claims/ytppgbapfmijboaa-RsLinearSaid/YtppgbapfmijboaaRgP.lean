/- The reference's Times. -/
import Derived.Test.YtppgbapfmijboaaRgO
namespace Go.Proofs.Ytppgbapfmijboaa
open Go.RowKit Go.Deep

theorem refright_yes {a : Option Addr} {n c : Nat} {ls : List (List UInt8)} {w : World} (hr : Gf.right ls = true) (h : Bss w a n c ls) :
    Calls Try.prog 75 #[.slice a n c] w fun e w' => e = .returned (.bool true) ∧ ∃ q, w' = w.drewN q := by rw [← hr]; exact refright_any a n c ls w h
theorem refright_no {a : Option Addr} {n c : Nat} {ls : List (List UInt8)} {w : World} (hr : Gf.right ls = false) (h : Bss w a n c ls) :
    Calls Try.prog 75 #[.slice a n c] w fun e w' => e = .returned (.bool false) ∧ ∃ q, w' = w.drewN q := by rw [← hr]; exact refright_any a n c ls w h
theorem refmul_q (a b : UInt8) (w : World) : Calls Try.prog 56 #[.int .u8 (n8 a), .int .u8 (n8 b)] w fun e w' => e = .returned (.int .u8 (n8 (Gf.mul a b))) ∧ w' = w := (refmul_any a b w).mono fun _ _ ⟨h1, h2⟩ => ⟨h1, h2.symm⟩

/-- The product while it is made: rows before i, of row i the columns before j, of that place k terms. -/
def Gf.part (f : Nat → Nat → Nat → UInt8) (K i j k : Nat) : Nat → Nat → UInt8 := fun r c => if r < i ∨ r = i ∧ c < j then Gf.sm K (f r c) else if r = i ∧ c = j then Gf.sm k (f r c) else 0
theorem part_row (f : Nat → Nat → Nat → UInt8) (K C i : Nat) (r c : Nat) (hc : c < C) : Gf.part f K i C 0 r c = Gf.part f K (i + 1) 0 0 r c := by
  unfold Gf.part
  by_cases h1 : r < i
  · simp [h1, Nat.lt_succ_of_lt h1]
  · by_cases h2 : r = i
    · simp [h2, hc]
    · simp [h1, h2, Gf.sm]; omega
theorem part_col (f : Nat → Nat → Nat → UInt8) (K i j : Nat) (r c : Nat) : Gf.part f K i j K r c = Gf.part f K i (j + 1) 0 r c := by
  unfold Gf.part
  by_cases h1 : r < i
  · simp [h1]
  · by_cases h2 : r = i
    · by_cases h3 : c < j
      · simp [h2, h3, Nat.lt_succ_of_lt h3]
      · by_cases h4 : c = j
        · simp [h2, h4]
        · simp [h2, h3, h4, Gf.sm]; omega
    · simp [h1, h2]
theorem part_term (f : Nat → Nat → Nat → UInt8) (K i j k : Nat) (r c : Nat) : (if r = i ∧ c = j then Gf.part f K i j k i j ^^^ f i j k else Gf.part f K i j k r c) = Gf.part f K i j (k + 1) r c := by
  unfold Gf.part
  by_cases h : r = i ∧ c = j
  · obtain ⟨rfl, rfl⟩ := h
    simp [Gf.sm]
  · simp [h]
theorem part_zero (f : Nat → Nat → Nat → UInt8) (K : Nat) (r c : Nat) : Gf.part f K 0 0 0 r c = 0 := by
  unfold Gf.part; simp [Gf.sm]
theorem part_full (f : Nat → Nat → Nat → UInt8) (K R : Nat) (r c : Nat) (hr : r < R) : Gf.part f K R 0 0 r c = Gf.sm K (f r c) := by
  unfold Gf.part; simp [hr]

theorem refres_nil {w w' : World} {er : Int} (q : Nat) (h : w' = w.drewN q) : MOwn [] er w (.returned (.tuple #[.slice none 0 0, .int .i64 er])) w' :=
  nil_own rfl (h ▸ below_drewN (Below.refl _ _) q)
end Go.Proofs.Ytppgbapfmijboaa
