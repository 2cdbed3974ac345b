/- rs: Check. -/
import Derived.Test.YtppgbapfmijboaaRsH
set_option maxRecDepth 100000
set_option linter.unusedVariables false
namespace Go.Proofs.Ytppgbapfmijboaa
open Go.RowKit Go.Deep

theorem list_ext_n {α : Type} [Inhabited α] {l m : List α} (hl : l.length = m.length) (h : ∀ k, k < l.length → nth l k = nth m k) : l = m := by
  apply List.ext_getElem hl
  intro i h1 h2
  have := h i h1
  rwa [nth_eq _ h1, nth_eq _ h2] at this

set_option maxHeartbeats 1000000 in
theorem equal_any (a a' : Option Addr) (n c n' c' : Nat) (l l' : List UInt8) (w : World) (h : Bs w a n c l) (h' : Bs w a' n' c' l') :
    Calls Try.prog 33 #[.slice a n c, .slice a' n' c'] w fun e w' => e = .returned (.bool (decide (l = l'))) ∧ Below w.heap.size w w' := by
  have hle := h.le.1
  have HB : Hid (∀ W, Below w.heap.size w W → Bs W a n c l) := Lib.hid fun W k => h.below k
  have HB' : Hid (∀ W, Below w.heap.size w W → Bs W a' n' c' l') := Lib.hid fun W k => h'.below k
  have hl := h.1
  have hl' := h'.1
  clear h h'
  by_cases hn : n = n'
  case neg =>
    have t1 : ((n : Int) != (n' : Int)) = true := by simp; omega
    have e1 := Lib.hid (decide_eq_false (show ¬ l = l' from fun e => by subst e; omega))
    clear hn hl hl'
    go_enter Try.func33, Try.ntmps33
    go_wp2
    go_ret
    exact ⟨by rw [e1.out]; rfl, Below.refl _ _⟩
  subst hn
  have t1 : ((n : Int) != (n : Int)) = false := by simp
  have HL := Lib.hid hl
  have HL' := Lib.hid hl'
  clear hl hl'
  go_enter Try.func33, Try.ntmps33
  go_wp2_with fail
  clear t1
  go_loopw [13] (fun i wr => ∃ k : Nat, k ≤ n ∧ i = .int .i64 k ∧ Below w.heap.size w wr ∧ Hid (∀ j, j < k → nth l j = nth l' j)) (fun i _ => n - (intOf i).toNat)
  case atStart => exact ⟨0, Nat.zero_le _, rfl, Below.refl _ _, Lib.hid fun j hj => by omega⟩
  case round =>
    obtain ⟨k, hk, rfl, hb, hall⟩ := hrel
    by_cases hlt : k < n
    · obtain ⟨b1, o1, rfl, d1⟩ := (HB.out wr hb).byte hlt
      obtain ⟨b2, o2, rfl, d2⟩ := (HB'.out wr hb).byte hlt
      have hx : Hid (nth l k = nth l k) := Lib.hid rfl
      generalize hxx : nth l k = x at *
      generalize hyy : nth l' k = y at *
      have HX := Lib.hid hxx
      have HY := Lib.hid hyy
      have HBB := Lib.hid hb
      clear hxx hyy hx hb
      by_cases hxy : x = y
      · subst hxy
        have t2 : (n8 x != n8 x) = false := by simp
        go_wp2_with fail
        refine wp_region_class (w0 := wr) (by kernel_rfl) (by kernel_rfl) (Below.refl _ _) ?_
        have l1 := BW.cell d1
        have l2 := BW.cell d2
        repeat (first | go_big_quiet_step (fail))
        refine wpQuiet_nil ?_
        intro w1 hb1; replace hb1 := BW.of hb1
        clear l1 l2
        have HB2 := Lib.hid (HBB.out.trans (hb1.mono HBB.out.size))
        clear hb1
        go_wp2
        go_roundw
        case rel => exact ⟨k + 1, by omega, by go_num, HB2.out, Lib.hid fun j hj => by
            by_cases e : j = k
            · rw [e, HX.out, HY.out]
            · exact hall.out j (by omega)⟩
        case measure => simp [intOf]; omega
      · have t2 : (n8 x != n8 y) = true := by simpa using fun e => hxy (n8_inj e)
        have e1 := Lib.hid (decide_eq_false (show ¬ l = l' from fun e => hxy (by rw [← HX.out, ← HY.out, e])))
        clear hxy
        go_wp2_with fail
        refine wp_region_class (w0 := wr) (by kernel_rfl) (by kernel_rfl) (Below.refl _ _) ?_
        have l1 := BW.cell d1
        have l2 := BW.cell d2
        repeat (first | go_big_quiet_step (fail))
        refine wpQuiet_nil ?_
        intro w1 hb1; replace hb1 := BW.of hb1
        clear l1 l2
        have HB2 := Lib.hid (HBB.out.trans (hb1.mono HBB.out.size))
        clear hb1
        go_wp2
        go_ret
        exact ⟨by rw [e1.out]; rfl, HB2.out⟩
    · obtain rfl : k = n := by omega
      have e1 := Lib.hid (decide_eq_true (show l = l' from list_ext_n (by rw [HL.out, HL'.out]) (fun j hj => hall.out j (by rw [HL.out] at hj; exact hj))))
      have HB2 := Lib.hid hb
      clear hb
      go_wp2
      go_ret
      exact ⟨by rw [e1.out]; rfl, HB2.out⟩

set_option maxHeartbeats 1000000 in
theorem equalf_any (a a' : Option Addr) (n c n' c' : Nat) (l l' : List (List UInt8)) (w : World) (h : Bss w a n c l) (h' : Bss w a' n' c' l') :
    Calls Try.prog 32 #[.slice a n c, .slice a' n' c', .func (.func 33) #[] #[]] w fun e w' => e = .returned (.bool (decide (l = l'))) ∧ Below w.heap.size w w' := by
  have hle := h.le.1
  have HB : Hid (∀ W, Below w.heap.size w W → Bss W a n c l) := Lib.hid fun W k => h.below k
  have HB' : Hid (∀ W, Below w.heap.size w W → Bss W a' n' c' l') := Lib.hid fun W k => h'.below k
  have hl := h.1
  have hl' := h'.1
  clear h h'
  by_cases hn : n = n'
  case neg =>
    have t1 : ((n : Int) != (n' : Int)) = true := by simp; omega
    have e1 := Lib.hid (decide_eq_false (show ¬ l = l' from fun e => by subst e; omega))
    clear hn hl hl'
    go_enter Try.func32, Try.ntmps32
    go_wp2
    go_ret
    exact ⟨by rw [e1.out]; rfl, Below.refl _ _⟩
  subst hn
  have t1 : ((n : Int) != (n : Int)) = false := by simp
  have HL := Lib.hid hl
  have HL' := Lib.hid hl'
  clear hl hl'
  go_enter Try.func32, Try.ntmps32
  go_wp2_with fail
  clear t1
  go_loopw [17] (fun i wr => ∃ k : Nat, k ≤ n ∧ i = .int .i64 k ∧ Below w.heap.size w wr ∧ Hid (∀ j, j < k → nth l j = nth l' j)) (fun i _ => n - (intOf i).toNat)
  case atStart => exact ⟨0, Nat.zero_le _, rfl, Below.refl _ _, Lib.hid fun j hj => by omega⟩
  case round =>
    obtain ⟨k, hk, rfl, hb, hall⟩ := hrel
    by_cases hlt : k < n
    · obtain ⟨b1, o1, a1, n1, c1, rfl, d1, r1⟩ := (HB.out wr hb).get hlt
      obtain ⟨b2, o2, a2, n2, c2, rfl, d2, r2⟩ := (HB'.out wr hb).get hlt
      have R1 := Lib.hid r1
      have R2 := Lib.hid r2
      have HBB := Lib.hid hb
      have hno : ∀ (x : Bool) (w : World), (Op.unary .not (.bool x)).run Try.prog w = .ok (.bool (!x)) w := fun _ _ => rfl
      clear r1 r2 hb
      by_cases hxy : nth l k = nth l' k
      · have t2 : decide (nth l k = nth l' k) = true := decide_eq_true hxy
        have HXY := Lib.hid hxy
        clear hxy
        go_wp2_with fail
        refine (equal_any _ _ _ _ _ _ _ _ wr R1.out R2.out).mono ?_
        rintro e w1 ⟨rfl, hb1⟩
        rw [t2]
        have HB2 := Lib.hid (HBB.out.trans (hb1.mono HBB.out.size))
        clear hb1 t2
        go_wp2
        go_roundw
        case rel => exact ⟨k + 1, by omega, by go_num, HB2.out, Lib.hid fun j hj => by
            by_cases e : j = k
            · rw [e, HXY.out]
            · exact hall.out j (by omega)⟩
        case measure => simp [intOf]; omega
      · have t2 : decide (nth l k = nth l' k) = false := decide_eq_false hxy
        have e1 := Lib.hid (decide_eq_false (show ¬ l = l' from fun e => hxy (by rw [e])))
        clear hxy
        go_wp2_with fail
        refine (equal_any _ _ _ _ _ _ _ _ wr R1.out R2.out).mono ?_
        rintro e w1 ⟨rfl, hb1⟩
        rw [t2]
        have HB2 := Lib.hid (HBB.out.trans (hb1.mono HBB.out.size))
        clear hb1 t2
        go_wp2
        go_ret
        exact ⟨by rw [e1.out]; rfl, HB2.out⟩
    · obtain rfl : k = n := by omega
      have e1 := Lib.hid (decide_eq_true (show l = l' from list_ext_n (by rw [HL.out, HL'.out]) (fun j hj => hall.out j (by rw [HL.out] at hj; exact hj))))
      have HB2 := Lib.hid hb
      clear hb
      go_wp2
      go_ret
      exact ⟨by rw [e1.out]; rfl, HB2.out⟩
end Go.Proofs.Ytppgbapfmijboaa
