/- The walk of GfMakes. -/
import Derived.Test.YtkecjgdmjhljnaaGfJ
import Derived.Test.YtkecjgdmjhljnaaGfK
namespace Go.Proofs.Ytkecjgdmjhljnaa
open Go.RowKit Go.Deep

/-- A matrix and an error are told. -/
def MRes (ls : List (List UInt8)) (er : Int) (w : World) (e : Ending) (w' : World) : Prop :=
  (∃ a n c, e = .returned (.tuple #[.slice a n c, .int .i64 er]) ∧ Bss w' a n c ls) ∧ Below w.heap.size w w'
theorem MatP.res {R C : Nat} {Z : Nat → Nat → UInt8} {w w' : World} {e : Ending} (h : MatP R C Z w e w') : MRes (mat R C Z) 0 w e w' := by
  obtain ⟨⟨g, c, bl, cp, h1, h2, h3, h4⟩, hb⟩ := h
  exact ⟨⟨_, _, _, h1, h4.bss h2 h3⟩, hb⟩
theorem nil_res {w w' : World} {e : Ending} {er : Int} (h : e = .returned (.tuple #[.slice none 0 0, .int .i64 er])) (hb : Below w.heap.size w w') : MRes [] er w e w' :=
  ⟨⟨_, _, _, h, Bss.nil w'⟩, hb⟩
def Gf.unitL (n : Int) : List (List UInt8) := if 1 ≤ n ∧ n ≤ 255 then mat n.toNat n.toNat Gf.one else []
def Gf.unitE (n : Int) : Int := if 1 ≤ n ∧ n ≤ 255 then 0 else 1
theorem unit_all (n : Int) (w : World) : Calls Try.prog 22 #[.int .i64 n] w (MRes (Gf.unitL n) (Gf.unitE n) w) := by
  by_cases h : 1 ≤ n ∧ n ≤ 255
  · obtain ⟨k, rfl⟩ : ∃ k : Nat, n = (k : Int) := ⟨n.toNat, by omega⟩
    unfold Gf.unitL Gf.unitE
    rw [if_pos h, if_pos h]
    exact (unit_any k w (by omega) (by omega)).mono fun e w' ⟨⟨g, bl, h1, h2⟩, hb⟩ => ⟨⟨_, _, _, h1, h2.bss (Nat.le_refl _) (by simp only [maxLen]; omega) (by simp only [maxLen]; omega)⟩, hb⟩
  · unfold Gf.unitL Gf.unitE
    rw [if_neg h, if_neg h]
    exact (unit_err n w h).mono fun e w' ⟨h1, h2⟩ => nil_res h1 (h2 ▸ Below.refl _ _)
theorem refunit_all (n : Int) (w : World) : Calls Try.prog 23 #[.int .i64 n] w (MRes (Gf.unitL n) (Gf.unitE n) w) := by
  by_cases h : 1 ≤ n ∧ n ≤ 255
  · obtain ⟨k, rfl⟩ : ∃ k : Nat, n = (k : Int) := ⟨n.toNat, by omega⟩
    unfold Gf.unitL Gf.unitE
    rw [if_pos h, if_pos h]
    exact (refunit_any k w (by omega) (by omega)).mono fun e w' h => h.res
  · unfold Gf.unitL Gf.unitE
    rw [if_neg h, if_neg h]
    exact (refunit_err n w h).mono fun e w' ⟨h1, h2⟩ => nil_res h1 (h2 ▸ Below.refl _ _)
instance (r c : Int) : Decidable (Gf.CauFit r c) := decidable_of_iff (1 ≤ r ∧ 1 ≤ c ∧ r + c ≤ 256) ⟨fun h => ⟨h.1, h.2.1, h.2.2⟩, fun h => ⟨h.1, h.2, h.3⟩⟩
def Gf.cauL (r c : Int) : List (List UInt8) := if Gf.CauFit r c then mat r.toNat c.toNat (Gf.cau c.toNat) else []
def Gf.cauE (r c : Int) : Int := if Gf.CauFit r c then 0 else 1
theorem cauchy_all (r c : Int) (w : World) (hr : -9223372036854775808 ≤ r ∧ r ≤ 9223372036854775807) (hc : -9223372036854775808 ≤ c ∧ c ≤ 9223372036854775807) : Calls Try.prog 25 #[.int .i64 r, .int .i64 c] w (MRes (Gf.cauL r c) (Gf.cauE r c) w) := by
  by_cases h : Gf.CauFit r c
  · have := h.1; have := h.2; have := h.3
    obtain ⟨R, rfl⟩ : ∃ k : Nat, r = (k : Int) := ⟨r.toNat, by omega⟩
    obtain ⟨C, rfl⟩ : ∃ k : Nat, c = (k : Int) := ⟨c.toNat, by omega⟩
    unfold Gf.cauL Gf.cauE
    rw [if_pos h, if_pos h]
    exact (cauchy_any R C w (by omega) (by omega) (by omega)).mono fun e w' ⟨⟨g, bl, h1, h2⟩, hb⟩ => ⟨⟨_, _, _, h1, h2.bss (Nat.le_refl _) (by simp only [maxLen]; omega) (by simp only [maxLen]; omega)⟩, hb⟩
  · unfold Gf.cauL Gf.cauE
    rw [if_neg h, if_neg h]
    exact (cauchy_err r c w h hr hc).mono fun e w' ⟨h1, h2⟩ => nil_res h1 h2
theorem refcauchy_all (r c : Int) (w : World) (hr : -9223372036854775808 ≤ r ∧ r ≤ 9223372036854775807) (hc : -9223372036854775808 ≤ c ∧ c ≤ 9223372036854775807) : Calls Try.prog 26 #[.int .i64 r, .int .i64 c] w (MRes (Gf.cauL r c) (Gf.cauE r c) w) := by
  by_cases h : Gf.CauFit r c
  · have := h.1; have := h.2; have := h.3
    obtain ⟨R, rfl⟩ : ∃ k : Nat, r = (k : Int) := ⟨r.toNat, by omega⟩
    obtain ⟨C, rfl⟩ : ∃ k : Nat, c = (k : Int) := ⟨c.toNat, by omega⟩
    unfold Gf.cauL Gf.cauE
    rw [if_pos h, if_pos h]
    exact (refcauchy_any R C w (by omega) (by omega) (by omega)).mono fun e w' h => h.res
  · unfold Gf.cauL Gf.cauE
    rw [if_neg h, if_neg h]
    exact (refcauchy_err r c w h hr hc).mono fun e w' ⟨h1, h2⟩ => nil_res h1 (h2 ▸ Below.refl _ _)
/-- Two that are the same. -/
theorem same_yes (a a' : Option Addr) (n c n' c' : Nat) (l : List (List UInt8)) (w : World) (h : Bss w a n c l) (h' : Bss w a' n' c' l) :
    Calls Try.prog 24 #[.slice a n c, .slice a' n' c'] w fun e w' => e = .returned (.bool true) ∧ Below w.heap.size w w' :=
  (same_any a a' n c n' c' l l w h h').mono fun e w' ⟨h1, q, h2⟩ => ⟨by rw [h1]; simp, h2 ▸ below_drewN (Below.refl _ _) q⟩
set_option maxHeartbeats 2000000 in
theorem gfMakes_walk (n r c : Int) (am : Option Addr) (nm cm : Nat) (lm : List (List UInt8)) (w : World) (hr : -9223372036854775808 ≤ r ∧ r ≤ 9223372036854775807) (hc : -9223372036854775808 ≤ c ∧ c ≤ 9223372036854775807)
    (hm : Bss w am nm cm lm) (hf : tot lm + nm ≤ 1000000000) :
    Calls Try.prog 6 #[.int .i64 n, .int .i64 r, .int .i64 c, .slice am nm cm] w fun e w' => e = .returned (.bool true) ∧ Below w.heap.size w w' := by
  have hne : ∀ k : Int, (k != k) = false := fun k => by simp
  have heq : ∀ k : Int, (k == k) = true := fun k => by simp
  have HE := Lib.hid (And.intro hne heq)
  have HR := Lib.hid (And.intro hr hc)
  clear hr hc hne heq
  go_enter Try.func6, Try.ntmps6
  go_wp2_with fail
  refine (known_any _).mono ?_
  rintro e w1 ⟨rfl, hb1⟩
  have HM := Lib.hid (hm.below hb1)
  have HB := Lib.hid hb1
  clear hm hb1
  go_wp2_with fail
  refine (few_any _ _ _ lm _ HM.out hf).mono ?_
  rintro e w2 ⟨rfl, rfl⟩
  by_cases h0 : tot lm + nm ≤ 2000
  · rw [decide_eq_true h0]
    clear h0 hf
    go_wp2_with fail
    refine (unit_all n w1).mono ?_
    rintro e w2 ⟨⟨a2, n2, c2, rfl, hA⟩, hb2⟩
    have HA := Lib.hid hA
    have HB2 := Lib.hid hb2
    clear hA hb2
    go_wp2_with fail
    refine (refunit_all n w2).mono ?_
    rintro e w3 ⟨⟨a3, n3, c3, rfl, hC⟩, hb3⟩
    have HA3 := Lib.hid (HA.out.below hb3)
    have HC3 := Lib.hid hC
    have HB3 := Lib.hid (HB2.out.trans (hb3.mono HB2.out.size))
    clear hC hb3 HA HB2
    go_wp2_with fail
    refine (same_yes _ _ _ _ _ _ _ _ HA3.out HC3.out).mono ?_
    rintro e w4 ⟨rfl, hb4⟩
    have HB4 := Lib.hid (HB.out.trans ((HB3.out.trans (hb4.mono HB3.out.size)).mono HB.out.size))
    have HM4 := Lib.hid (HM.out.below (HB3.out.trans (hb4.mono HB3.out.size)))
    clear HB3 hb4 HA3 HC3
    have s1 := HE.out.1 (Gf.unitE n)
    go_wp2_with fail
    clear s1
    refine (cauchy_all r c w4 HR.out.1 HR.out.2).mono ?_
    rintro e w2 ⟨⟨a2, n2, c2, rfl, hA⟩, hb2⟩
    have HA := Lib.hid hA
    have HB2 := Lib.hid hb2
    clear hA hb2
    go_wp2_with fail
    refine (refcauchy_all r c w2 HR.out.1 HR.out.2).mono ?_
    rintro e w3 ⟨⟨a3, n3, c3, rfl, hC⟩, hb3⟩
    have HA3 := Lib.hid (HA.out.below hb3)
    have HC3 := Lib.hid hC
    have HB3 := Lib.hid (HB2.out.trans (hb3.mono HB2.out.size))
    clear hC hb3 HA HB2
    go_wp2_with fail
    refine (same_yes _ _ _ _ _ _ _ _ HA3.out HC3.out).mono ?_
    rintro e w5 ⟨rfl, hb5⟩
    have HB5 := Lib.hid (HB4.out.trans ((HB3.out.trans (hb5.mono HB3.out.size)).mono HB4.out.size))
    have HM5 := Lib.hid (HM4.out.below (HB3.out.trans (hb5.mono HB3.out.size)))
    clear HB3 hb5 HA3 HC3
    have s1 := HE.out.2 (Gf.cauE r c)
    go_wp2_with fail
    clear s1
    refine (right_any _ _ _ lm _ HM5.out).mono ?_
    rintro e w6 ⟨rfl, hb6⟩
    have HM6 := Lib.hid (HM5.out.below hb6)
    have HB6 := Lib.hid (HB5.out.trans (hb6.mono HB5.out.size))
    clear hb6
    go_wp2_with fail
    refine (refright_any _ _ _ lm _ HM6.out).mono ?_
    rintro e w7 ⟨rfl, q, rfl⟩
    have HB7 := Lib.hid (below_drewN HB6.out q)
    have s2 : (Gf.right lm == Gf.right lm) = true := by simp
    go_wp2
    go_ret
    exact ⟨rfl, HB7.out⟩
  · rw [decide_eq_false h0]
    clear h0 hf
    go_wp2
    go_ret
    exact ⟨rfl, HB.out⟩
end Go.Proofs.Ytkecjgdmjhljnaa
