/- merge.Right. -/
import Derived.Test.YtchdmjnhjonddaaCgD
set_option maxRecDepth 100000
set_option linter.unusedSimpArgs false
namespace Go.Proofs.Ytchdmjnhjonddaa
open Go.RowKit
set_option linter.unusedVariables false

def Ent.okTo (l : List Ent) (k : Nat) : Prop := ∀ i, i < k → ¬ ((nth l i).gone = true ∧ 0 < (nth l i).val.length)
instance (l : List Ent) (k : Nat) : Decidable (Ent.okTo l k) := inferInstanceAs (Decidable (∀ i, i < k → ¬ ((nth l i).gone = true ∧ 0 < (nth l i).val.length)))
def Ent.rightB (l : List Ent) : Bool := decide (Ent.okTo l l.length) && decide (Ent.adj l l.length)
set_option maxHeartbeats 4000000 in
theorem mright_any (a : Option Addr) (n c : Nat) (l : List Ent) (w : World) (h : Es w a n c l) :
    Calls Try.prog 34 #[.slice a n c] w fun e w' => e = .returned (.bool (Ent.rightB l)) ∧ Below w.heap.size w w' := by
  have hle := h.le.1
  have HN := Lib.hid h.1
  have HE := Lib.hid h
  clear h
  go_enter Try.func34, Try.ntmps34
  go_wp2
  go_loopw [7] (fun i wr => ∃ k : Nat, k ≤ n ∧ i = .int .i64 k ∧ Below w.heap.size w wr ∧ Hid (Ent.okTo l k)) (fun i _ => n - (intOf i).toNat)
  case atStart => exact ⟨0, by omega, rfl, Below.refl _ _, Lib.hid (fun i h => by omega)⟩
  case round =>
    obtain ⟨k, hk, rfl, hb, hall⟩ := hrel
    by_cases hlt : k < n
    · obtain ⟨b1, o1, a1, d1, rfl, he1, hv1⟩ := (HE.out.below hb).vals hlt
      have p1 := he1.key
      have p2 := he1.seq
      have p3 := he1.gone
      have p4 := he1.val
      have hvl := hv1.le.1
      generalize hx : nth l k = x at *
      have HX := Lib.hid hx
      have HB := Lib.hid hb
      clear he1 hv1 hb hx
      by_cases hg : x.gone = true
      · by_cases hv : 0 < x.val.length
        · have t1 : decide (0 < x.val.length) = true := decide_eq_true hv
          have E : Hid (Ent.rightB l = false) := Lib.hid (by
            unfold Ent.rightB
            rw [decide_eq_false (fun e => e k (by rw [HN.out]; exact hlt) (by rw [HX.out]; exact ⟨hg, hv⟩))]
            rfl)
          rw [hg] at p3
          clear hg hv
          go_wp2
          go_ret
          exact ⟨by rw [E.out]; rfl, HB.out.alloc HB.out.size _⟩
        · have t1 : decide (0 < x.val.length) = false := decide_eq_false hv
          have HOK : Hid (Ent.okTo l (k + 1)) := Lib.hid (fun i h e => by
            by_cases e2 : i = k
            · rw [e2, HX.out] at e; exact hv e.2
            · exact hall.out i (by omega) e)
          rw [hg] at p3
          clear hg hv
          go_wp2
          go_roundw
          case rel => exact ⟨k + 1, by omega, by go_num, HB.out.alloc HB.out.size _, HOK⟩
          case measure => simp [intOf]; omega
      · have hg' : x.gone = false := by simpa using hg
        have HOK : Hid (Ent.okTo l (k + 1)) := Lib.hid (fun i h e => by
            by_cases e2 : i = k
            · rw [e2, HX.out] at e; exact hg e.1
            · exact hall.out i (by omega) e)
        rw [hg'] at p3
        clear hg hg'
        go_wp2
        go_roundw
        case rel => exact ⟨k + 1, by omega, by go_num, HB.out.alloc HB.out.size _, HOK⟩
        case measure => simp [intOf]; omega
    · obtain rfl : k = n := by omega
      have E : Hid (Ent.rightB l = decide (Ent.adj l k)) := Lib.hid (by
        unfold Ent.rightB
        rw [HN.out, decide_eq_true hall.out]
        rfl)
      have HB := Lib.hid hb
      clear hb
      go_wp2_with fail
      refine (pairs_any _ k c l _ (HE.out.below HB.out)).mono ?_
      rintro e w2 ⟨rfl, hb2⟩
      have HB2 := Lib.hid (HB.out.trans (hb2.mono HB.out.size))
      clear hb2
      go_wp2
      go_ret
      exact ⟨by rw [E.out]; rfl, HB2.out⟩
end Go.Proofs.Ytchdmjnhjonddaa
