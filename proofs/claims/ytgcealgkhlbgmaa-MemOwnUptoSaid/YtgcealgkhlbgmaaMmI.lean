/- slices.Clone of ints. -/
import Derived.Test.YtgcealgkhlbgmaaMmT
namespace Go.Proofs.Ytgcealgkhlbgmaa
open Go.RowKit
set_option linter.unusedVariables false

theorem infoI : (Try.prog.info? 3).map (fun i => (i.zero, i.size, i.bytes)) = some (some (.int .i64 0), 1, 8) := by kernel_rfl
set_option maxHeartbeats 1000000 in
theorem clonei_any (a : Option Addr) (n c : Nat) (l : List Int) (w : World) (h : Is w a n c l) (hn : n ≤ 1000000000) :
    Calls Try.prog 30 #[.slice a n c] w fun e w' => ∃ a' c', e = .returned (.slice a' n c') ∧ Is w' a' n c' l ∧ Below w.heap.size w w' ∧ ∀ x, a' = some x → w.heap.size ≤ x.block ∧ x.block < w'.heap.size := by
  have hq := fun (w : World) => Lib.run_eql_slice_nil (P := Try.prog) w 22 3 a n c 0 0 Try.underlying22
  have hle := h.le
  cases a with
  | none =>
    go_enter Try.func30, Try.ntmps30
    go_wp2
    go_ret
    have hn0 : n = 0 := by
      rcases Nat.eq_zero_or_pos n with h' | h'
      · exact h'
      · obtain ⟨_, _, h1, _⟩ := h.get h'; cases h1
    subst hn0
    have hl : l = [] := List.eq_nil_of_length_eq_zero h.1
    subst hl
    exact ⟨none, 0, rfl, ⟨rfl, Nat.le_refl _, by simp [maxLen], Row.nil _ _, by simp⟩, Below.refl _ _, fun x hx => by cases hx⟩
  | some ad =>
    obtain ⟨i0, hi0, hz0, hz1, hz2⟩ := info_parts infoI
    have hrow : Row (w.alloc (.cells #[] 3)) (some ad) (zv l) := h.2.2.2.1.below (below_alloc1 w _)
    have hone : ∀ u ∈ zv l, u.oneCell' = true := fun u hu => by
      obtain ⟨z, _, rfl⟩ := List.mem_map.1 hu
      rfl
    have hlit : (w.alloc (.cells #[] 3)).ownsRow w.heap.size 3 1 (.slice (some ⟨w.heap.size, 0, none⟩) 0 0) 0 [] :=
      ⟨rfl, .inr ⟨w.heap.size, 0, #[], rfl, Nat.le_refl _, heap_alloc_new w _, Nat.le_refl _, by simp [maxLen], rfl, rfl⟩⟩
    have HROW := Lib.hid hrow
    have HONE := Lib.hid hone
    have HLIT := Lib.hid hlit
    have HCL : Hid ((zv l).length = n) := Lib.hid (by simp [zv, h.1])
    have HI := Lib.hid (And.intro hi0 (And.intro hz0 (And.intro hz1 hz2)))
    clear hrow hone hlit hi0 hz0 hz1 hz2
    go_enter Try.func30, Try.ntmps30
    go_wp2_with (at_builtin; refine wpList_app_own rfl _ _ 22 rfl w.heap.size 3 i0 (.int .i64 0) 1 8 Try.underlying22 HI.out.1 HI.out.2.1 HI.out.2.2.1 HI.out.2.2.2 rfl (by decide) (some ⟨w.heap.size, 0, none⟩) 0 0 [] rfl HLIT.out (some ad) n c (zv l) rfl HROW.out (by rw [HCL.out]; simp) HONE.out (by omega) (by simp only [maxLen]; omega) (le_alloc (Nat.le_refl _)) ?_; intro a5 c5 w5 h5 hev5)
    go_ret
    simp only [Nat.zero_add, List.nil_append] at h5
    have hcap := (own_cap h5).2
    refine ⟨a5, c5, by simp, ⟨h.1, hcap.1, hcap.2, Row.of_own h5, h.2.2.2.2⟩, (below_alloc1 w _).trans ((hev5.below (B := w.heap.size) (le_alloc (Nat.le_refl _)) (fun x hx => by cases hx; exact Nat.le_refl _))), fun x hx => by subst hx; exact World.ownsRow.lt h5 x.block rfl⟩
end Go.Proofs.Ytgcealgkhlbgmaa
