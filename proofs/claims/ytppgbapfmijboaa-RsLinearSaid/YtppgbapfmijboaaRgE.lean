/- Matrices that are read: few, Same, gf.Right and the reference's. -/
import Derived.Test.YtppgbapfmijboaaRgD
namespace Go.Proofs.Ytppgbapfmijboaa
open Go.RowKit Go.Deep


theorem bstr_bne (l m : List UInt8) : ((bstr l).toList != (bstr m).toList) = !decide (l = m) := by rw [← bstr_beq]; rfl
theorem list_ext_nth {l m : List (List UInt8)} (hl : l.length = m.length) (h : ∀ k, k < l.length → nth l k = nth m k) : l = m := by
  apply List.ext_getElem hl
  intro i h1 h2
  have := h i h1
  rwa [nth_eq _ h1, nth_eq _ h2] at this

set_option maxHeartbeats 1000000 in
theorem same_any (a a' : Option Addr) (n c n' c' : Nat) (l l' : List (List UInt8)) (w : World) (h : Bss w a n c l) (h' : Bss w a' n' c' l') :
    Calls Try.prog 12 #[.slice a n c, .slice a' n' c'] w fun e w' => e = .returned (.bool (decide (l = l'))) ∧ ∃ q, w' = w.drewN q := by
  have hle := h.le.1
  have hle' := h'.le.1
  have HN := Lib.hid h.1
  have HN' := Lib.hid h'.1
  go_enter Try.func12, Try.ntmps12
  by_cases hn : n = n'
  · subst hn
    have t1 : ((n : Int) != (n : Int)) = false := by simp
    go_wp2
    go_loopw [5] (fun i wr => ∃ k q : Nat, k ≤ n ∧ i = .int .i64 k ∧ wr = w.drewN q ∧ Hid (∀ j, j < k → nth l j = nth l' j)) (fun i _ => n - (intOf i).toNat)
    case atStart => exact ⟨0, 0, by omega, rfl, rfl, Lib.hid (fun j hj => by omega)⟩
    case round =>
      obtain ⟨k, q, hk, rfl, rfl, hall⟩ := hrel
      by_cases hlt : k < n
      · obtain ⟨b1, o1, a1, m1, d1, rfl, hc1, hr1⟩ := h.get hlt
        obtain ⟨b2, o2, a2, m2, d2, rfl, hc2, hr2⟩ := h'.get hlt
        have hv1 := fun q => conv_bytes (hr1.below (below_drewN (Below.refl _ _) q))
        have hv2 := fun q => conv_bytes (hr2.below (below_drewN (Below.refl _ _) q))
        by_cases he : nth l k = nth l' k
        · have HE := Lib.hid he
          go_wp2_with fail
          go_quiet (fail)
          go_wp2
          go_roundw
          case rel => exact ⟨k + 1, _, by omega, by go_num, rfl, Lib.hid (fun j hj => by
            by_cases e : j = k
            · rw [e]; exact HE.out
            · exact hall.out j (by omega))⟩
          case measure => simp [intOf]; omega
        · have e1 : decide (l = l') = false := decide_eq_false (fun e => he (by rw [e]))
          have E1 := Lib.hid e1
          clear e1
          go_wp2_with fail
          go_quiet (fail)
          go_wp2
          go_ret
          exact ⟨by rw [E1.out]; rfl, q + nq, World.drewN_drewN _ _ _⟩
      · obtain rfl : k = n := by omega
        have e1 : l = l' := list_ext_nth (by rw [HN.out, HN'.out]) (fun j hj => hall.out j (by rw [HN.out] at hj; exact hj))
        go_wp2
        go_ret
        exact ⟨by rw [show decide (l = l') = true from decide_eq_true e1]; rfl, _, rfl⟩
  · have t1 : ((n : Int) != (n' : Int)) = true := by simp; omega
    have e1 : decide (l = l') = false := decide_eq_false (fun e => hn (by rw [← HN.out, ← HN'.out, e]))
    rw [e1]
    go_wp2
    go_ret
    exact ⟨rfl, 0, rfl⟩
end Go.Proofs.Ytppgbapfmijboaa
