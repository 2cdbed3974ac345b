/- gf.Cauchy, gf.Unit; the chapter's examples. -/
import Derived.Test.YtppgbapfmijboaaRgC
namespace Go.Proofs.Ytppgbapfmijboaa
open Go.RowKit Go.Deep

def Gf.cau (C i j : Nat) : UInt8 := Gf.div 1 ((UInt8.ofNat C + UInt8.ofNat i) ^^^ UInt8.ofNat j)
set_option maxHeartbeats 400000 in
theorem cauElem (C i j : Nat) (hC : C ≤ 256) (hi : i ≤ 256) (hj : j ≤ 256) (b : Nat) (w : World) (hb : w.cell? ⟨b, 0, none⟩ = some (.int .i64 C)) :
    Calls Try.prog 47 #[.int .i64 i, .int .i64 j, .pointer (some ⟨b, 0, none⟩)] w fun e w' => e = .returned (.int .u8 (n8 (Gf.cau C i j))) ∧ ∃ q, w' = w.drewN q := by
  go_enter Try.func47, Try.ntmps47
  have E1 : Hid (Value.int .u8 (((C : Int) + i) % 256) = .int .u8 (n8 (UInt8.ofNat (C + i))) ) := Lib.hid (by have h := to8 (C + i); rwa [Int.natCast_add] at h)
  go_wp2_with (first | (go_at_call 49; rw [E1.out]; refine (add_any _ _ _).mono ?_; rintro e w' ⟨rfl, rfl⟩) | (go_at_call 48; refine (div_any 1 _ _).mono ?_; rintro e w' ⟨rfl, rfl⟩))
  go_ret
  exact ⟨rfl, 0, rfl⟩

/-- Sizes of Cauchy's matrix. -/
structure Gf.CauFit (r c : Int) : Prop where
  r1 : 1 ≤ r
  c1 : 1 ≤ c
  le : r + c ≤ 256
set_option maxHeartbeats 1000000 in
theorem cauchy_any (R C : Nat) (w : World) (hR : 1 ≤ R) (hC : 1 ≤ C) (hRC : R + C ≤ 256) :
    Calls Try.prog 26 #[.int .i64 R, .int .i64 C] w fun e w' => (∃ g bl, e = .returned (.tuple #[.slice (some ⟨g, 0, none⟩) R R, .int .i64 0]) ∧ Mx w' w.heap.size g R C bl (Gf.cau C)) ∧ Below w.heap.size w w' := by
  have t1 : decide ((R : Int) < 1) = false := decide_eq_false (by omega)
  have t2 : decide ((C : Int) < 1) = false := decide_eq_false (by omega)
  have t3 : decide ((256 : Int) < R) = false := decide_eq_false (by omega)
  have t4 : decide ((256 : Int) < C) = false := decide_eq_false (by omega)
  have t5 : decide ((256 : Int) < (R : Int) + C) = false := decide_eq_false (by omega)
  have HRC := Lib.hid hRC
  have hR2 : R ≤ 1000 := by omega
  have hC2 : C ≤ 1000 := by omega
  clear hRC hR hC
  have hel : Elem (w.alloc (.cells #[.int .i64 C] 3)) 47 #[.pointer (some ⟨w.heap.size, 0, none⟩)] R C (Gf.cau C) := by
    intro W i j hb hi hj
    have := HRC.out
    refine cauElem C i j (by omega) (by omega) (by omega) w.heap.size W ?_
    rw [hb.cell (by simp)]
    rw [cell_of_row _ _ _ #[.int .i64 C] _ _ (heap_alloc_new w _)]
    rfl
  have HE := Lib.hid hel
  clear hel
  go_enter Try.func26, Try.ntmps26
  go_wp2_with (go_at_call 46; refine (made_ex 47 _ R C (Gf.cau C) _ (enters_of Try.func47 (by kernel_rfl) rfl) (by have := HRC.out; omega) (by have := HRC.out; omega) HE.out).mono ?_; rintro e w' ⟨g, bl, rfl, hm, hb⟩)
  go_ret2
  exact ⟨⟨_, _, rfl, hm.mono (le_alloc (Nat.le_refl _))⟩, ((Below.refl _ _).alloc (Nat.le_refl _) _).trans (hb.mono (le_alloc (Nat.le_refl _)))⟩

set_option maxHeartbeats 1000000 in
theorem cauchy_err (r c : Int) (w : World) (h : ¬ Gf.CauFit r c) (hr : -9223372036854775808 ≤ r ∧ r ≤ 9223372036854775807) (hc : -9223372036854775808 ≤ c ∧ c ≤ 9223372036854775807) :
    Calls Try.prog 26 #[.int .i64 r, .int .i64 c] w fun e w' => e = .returned (.tuple #[.slice none 0 0, .int .i64 1]) ∧ Below w.heap.size w w' := by
  have HW : Hid (Below w.heap.size w (w.alloc (.cells #[.int .i64 c] 3))) := Lib.hid ((Below.refl _ _).alloc (Nat.le_refl _) _)
  by_cases h1 : r < 1
  · have t1 : decide (r < 1) = true := decide_eq_true h1
    clear hr hc h h1
    go_enter Try.func26, Try.ntmps26
    go_wp2
    go_ret2
    exact ⟨rfl, HW.out⟩
  have t1 : decide (r < 1) = false := decide_eq_false h1
  by_cases h2 : c < 1
  · have t2 : decide (c < 1) = true := decide_eq_true h2
    clear hr hc h h1 h2
    go_enter Try.func26, Try.ntmps26
    go_wp2
    go_ret2
    exact ⟨rfl, HW.out⟩
  have t2 : decide (c < 1) = false := decide_eq_false h2
  by_cases h3 : 256 < r
  · have t3 : decide (256 < r) = true := decide_eq_true h3
    clear hr hc h h1 h2 h3
    go_enter Try.func26, Try.ntmps26
    go_wp2
    go_ret2
    exact ⟨rfl, HW.out⟩
  have t3 : decide (256 < r) = false := decide_eq_false h3
  by_cases h4 : 256 < c
  · have t4 : decide (256 < c) = true := decide_eq_true h4
    clear hr hc h h1 h2 h3 h4
    go_enter Try.func26, Try.ntmps26
    go_wp2
    go_ret2
    exact ⟨rfl, HW.out⟩
  have t4 : decide (256 < c) = false := decide_eq_false h4
  have t5 : decide (256 < r + c) = true := decide_eq_true (by
    rcases Int.lt_or_le 256 (r + c) with h5 | h5
    · exact h5
    · exact absurd ⟨by omega, by omega, by omega⟩ h)
  have hb1 : 0 ≤ r ∧ r ≤ 1000 ∧ 0 ≤ c ∧ c ≤ 1000 := by omega
  clear hr hc h h1 h2 h3 h4
  go_enter Try.func26, Try.ntmps26
  go_wp2
  go_ret2
  exact ⟨rfl, HW.out⟩

def Gf.one (i j : Nat) : UInt8 := if i = j then 1 else 0
set_option maxHeartbeats 400000 in
theorem unitElem (i j : Nat) (hi : i ≤ 256) (hj : j ≤ 256) (w : World) :
    Calls Try.prog 62 #[.int .i64 i, .int .i64 j] w fun e w' => e = .returned (.int .u8 (n8 (Gf.one i j))) ∧ ∃ q, w' = w.drewN q := by
  go_enter Try.func62, Try.ntmps62
  by_cases h : i = j
  · have t : ((i : Int) == (j : Int)) = true := by simp [h]
    have e1 : Gf.one i j = 1 := by unfold Gf.one; rw [if_pos h]
    rw [e1]
    clear h
    go_wp2
    go_ret
    exact ⟨rfl, 0, rfl⟩
  · have t : ((i : Int) == (j : Int)) = false := by simp; omega
    have e1 : Gf.one i j = 0 := by unfold Gf.one; rw [if_neg h]
    rw [e1]
    clear h
    go_wp2
    go_ret
    exact ⟨rfl, 0, rfl⟩
set_option maxHeartbeats 1000000 in
theorem unit_any (R : Nat) (w : World) (hR : 1 ≤ R) (hR2 : R ≤ 255) :
    Calls Try.prog 52 #[.int .i64 R] w fun e w' => (∃ g bl, e = .returned (.tuple #[.slice (some ⟨g, 0, none⟩) R R, .int .i64 0]) ∧ Mx w' w.heap.size g R R bl Gf.one) ∧ Below w.heap.size w w' := by
  have t1 : decide ((R : Int) < 1) = false := decide_eq_false (by omega)
  have t3 : decide ((255 : Int) < R) = false := decide_eq_false (by omega)
  have HR := Lib.hid hR2
  have hR2 : R ≤ 1000 := by omega
  clear hR
  have hel : Elem w 62 #[] R R Gf.one := by
    intro W i j hb hi hj
    have := HR.out
    exact unitElem i j (by omega) (by omega) W
  have HE := Lib.hid hel
  clear hel
  go_enter Try.func52, Try.ntmps52
  go_wp2_with (go_at_call 46; refine (made_ex 62 _ R R Gf.one _ (enters_of Try.func62 (by kernel_rfl) rfl) (by have := HR.out; omega) (by have := HR.out; omega) HE.out).mono ?_; rintro e w' ⟨g, bl, rfl, hm, hb⟩)
  go_ret2
  exact ⟨⟨_, _, rfl, hm⟩, hb⟩
theorem unit_err (r : Int) (w : World) (h : ¬ (1 ≤ r ∧ r ≤ 255)) :
    Calls Try.prog 52 #[.int .i64 r] w fun e w' => e = .returned (.tuple #[.slice none 0 0, .int .i64 1]) ∧ w = w' := by
  go_enter Try.func52, Try.ntmps52
  by_cases h1 : r < 1
  · have t1 : decide (r < 1) = true := decide_eq_true h1
    clear h h1
    go_wp2
    go_ret2
    exact ⟨rfl, rfl⟩
  · have t1 : decide (r < 1) = false := decide_eq_false h1
    have t2 : decide (255 < r) = true := decide_eq_true (by omega)
    clear h h1
    go_wp2
    go_ret2
    exact ⟨rfl, rfl⟩
end Go.Proofs.Ytppgbapfmijboaa
