/- merge's Compare. -/
import Derived.Test.YtchdmjnhjonddaaMgA
set_option maxRecDepth 100000
set_option linter.unusedVariables false
set_option linter.unusedSimpArgs false
namespace Go.Proofs.Ytchdmjnhjonddaa
open Go.RowKit

theorem nanS (s : ByteArray) (w : World) : Calls Try.prog 99 #[.string s] w fun e w' => e = .returned (.bool false) ∧ w = w' := by
  go_enter Try.func99, Try.ntmps99
  have t : (s.toList != s.toList) = false := by simp
  go_wp2
  go_ret
  exact ⟨by simp, rfl⟩
theorem nanU (z : Int) (w : World) : Calls Try.prog 100 #[.int .u64 z] w fun e w' => e = .returned (.bool false) ∧ w = w' := by
  go_enter Try.func100, Try.ntmps100
  have t : (z != z) = false := by simp
  go_wp2
  go_ret
  exact ⟨by simp, rfl⟩
def Ent.kcmp (a b : List UInt8) : Int := if Ent.klt a b = true then -1 else if Ent.klt b a = true then 1 else 0
def Ent.ncmp (a b : Nat) : Int := if a < b then -1 else if b < a then 1 else 0
def Ent.or2 (p q : Int) : Int := if p = 0 then q else p
theorem cmp_parts (x y : Ent) : Ent.cmp x y = Ent.or2 (Ent.kcmp x.key y.key) (Ent.ncmp y.seq x.seq) := by
  unfold Ent.or2 Ent.cmp Ent.kcmp Ent.ncmp
  split
  · simp
  · split <;> simp
set_option maxHeartbeats 1000000 in
theorem cmpS_any (l m : List UInt8) (w : World) : Calls Try.prog 87 #[.string (bstr l), .string (bstr m)] w fun e w' => e = .returned (.int .i64 (Ent.kcmp l m)) ∧ w' = w := by
  have hk : ((bstr l).toList == (bstr m).toList) = decide (l = m) := bstr_beq l m
  rcases Ent.klt_total l m with h | h | h
  · have e : Ent.kcmp l m = -1 := by unfold Ent.kcmp; rw [if_pos h]
    have h1 : Op.bytesLess (bstr l).toList (bstr m).toList = true := by rw [bstr_list, bstr_list]; exact h
    rw [e]
    clear e h hk
    go_enter Try.func87, Try.ntmps87
    go_wp2_with (go_at_call 99; refine (nanS _ _).mono ?_; rintro e w' ⟨rfl, rfl⟩)
    go_ret
    exact ⟨rfl, rfl⟩
  · have e : Ent.kcmp l m = 0 := by unfold Ent.kcmp; rw [h, Ent.klt_irrefl]; rfl
    have h1 : Op.bytesLess (bstr l).toList (bstr m).toList = false := by rw [bstr_list, bstr_list, h]; exact Ent.klt_irrefl _
    have h2 : decide (l = m) = true := decide_eq_true h
    rw [h2] at hk
    rw [e]
    clear e h
    go_enter Try.func87, Try.ntmps87
    go_wp2_with (go_at_call 99; refine (nanS _ _).mono ?_; rintro e w' ⟨rfl, rfl⟩)
    go_ret
    exact ⟨rfl, rfl⟩
  · have e : Ent.kcmp l m = 1 := by unfold Ent.kcmp; rw [Ent.klt_asymm h, h]; rfl
    have h1 : Op.bytesLess (bstr l).toList (bstr m).toList = false := by rw [bstr_list, bstr_list]; exact Ent.klt_asymm h
    have h2 : decide (l = m) = false := decide_eq_false (Ne.symm (Ent.klt_ne h))
    rw [h2] at hk
    rw [e]
    clear e h
    go_enter Try.func87, Try.ntmps87
    go_wp2_with (go_at_call 99; refine (nanS _ _).mono ?_; rintro e w' ⟨rfl, rfl⟩)
    go_ret
    exact ⟨rfl, rfl⟩
set_option maxHeartbeats 1000000 in
theorem cmpU_any (a b : Nat) (w : World) : Calls Try.prog 88 #[.int .u64 a, .int .u64 b] w fun e w' => e = .returned (.int .i64 (Ent.ncmp a b)) ∧ w' = w := by
  rcases Nat.lt_trichotomy a b with h | h | h
  · have e : Ent.ncmp a b = -1 := by unfold Ent.ncmp; rw [if_pos h]
    have t1 : decide (a < b) = true := decide_eq_true h
    rw [e]
    clear e h
    go_enter Try.func88, Try.ntmps88
    go_wp2_with (go_at_call 100; refine (nanU _ _).mono ?_; rintro e w' ⟨rfl, rfl⟩)
    go_ret
    exact ⟨rfl, rfl⟩
  · have e : Ent.ncmp a b = 0 := by unfold Ent.ncmp; rw [if_neg (by omega), if_neg (by omega)]
    have t1 : decide (a < b) = false := decide_eq_false (by omega)
    have t2 : decide (b < a) = false := decide_eq_false (by omega)
    rw [e]
    clear e h
    go_enter Try.func88, Try.ntmps88
    go_wp2_with (go_at_call 100; refine (nanU _ _).mono ?_; rintro e w' ⟨rfl, rfl⟩)
    go_ret
    exact ⟨rfl, rfl⟩
  · have e : Ent.ncmp a b = 1 := by unfold Ent.ncmp; rw [if_neg (by omega), if_pos h]
    have t1 : decide (a < b) = false := decide_eq_false (by omega)
    have t2 : decide (b < a) = true := decide_eq_true h
    rw [e]
    clear e h
    go_enter Try.func88, Try.ntmps88
    go_wp2_with (go_at_call 100; refine (nanU _ _).mono ?_; rintro e w' ⟨rfl, rfl⟩)
    go_ret
    exact ⟨rfl, rfl⟩
set_option maxHeartbeats 1000000 in
theorem or2_any (p q : Int) (b : Nat) (w : World) (c0 : w.cell? ⟨b, 0, none⟩ = some (.int .i64 p)) (c1 : w.cell? ⟨b, 1, none⟩ = some (.int .i64 q)) :
    Calls Try.prog 86 #[.slice (some ⟨b, 0, none⟩) 2 2] w fun e w' => e = .returned (.int .i64 (Ent.or2 p q)) ∧ w = w' := by
  go_enter Try.func86, Try.ntmps86
  go_wp2_with fail
  go_loop [8] (fun i => i = .int .i64 0 ∨ (i = .int .i64 1 ∧ p = 0) ∨ (i = .int .i64 2 ∧ p = 0 ∧ q = 0)) (fun i => 2 - (intOf i).toNat)
  case atStart => exact .inl rfl
  case round =>
    rcases hrel with rfl | ⟨rfl, hp⟩ | ⟨rfl, hp, hq⟩
    · by_cases h : p = 0
      · have t : (p != 0) = false := by simp [h]
        have H := Lib.hid h
        clear h
        go_wp2
        go_round
        case rel => exact .inr (.inl ⟨rfl, H.out⟩)
        case measure => simp [intOf]
      · have t : (p != 0) = true := by simp [h]
        have E : Hid (Ent.or2 p q = p) := Lib.hid (if_neg h)
        clear h
        go_wp2
        go_ret
        exact ⟨by rw [E.out]; rfl, rfl⟩
    · have H := Lib.hid hp
      have E : Hid (Ent.or2 p q = q) := Lib.hid (if_pos hp)
      clear hp
      by_cases h : q = 0
      · have t : (q != 0) = false := by simp [h]
        have H2 := Lib.hid h
        clear h
        go_wp2
        go_round
        case rel => exact .inr (.inr ⟨rfl, H.out, H2.out⟩)
        case measure => simp [intOf]
      · have t : (q != 0) = true := by simp [h]
        clear h
        go_wp2
        go_ret
        exact ⟨by rw [E.out]; rfl, rfl⟩
    · have E : Hid (Ent.or2 p q = 0) := Lib.hid (by unfold Ent.or2; rw [if_pos hp, hq])
      clear hp hq
      go_wp2
      go_ret
      exact ⟨by rw [E.out]; rfl, rfl⟩
set_option maxHeartbeats 1000000 in
theorem cmp_any (x y : Ent) (ax ay : Option Addr) (cx cy : Nat) (w : World) :
    Calls Try.prog 66 #[ev x ax cx, ev y ay cy] w fun e w' => e = .returned (.int .i64 (Ent.cmp x y)) ∧ Below w.heap.size w w' := by
  rw [cmp_parts]
  unfold ev
  generalize hW : (w.alloc (.cells #[.string (bstr x.key), .int .u64 x.seq, .bool x.gone, .slice ax x.val.length cx] 61)).alloc (.cells #[.string (bstr y.key), .int .u64 y.seq, .bool y.gone, .slice ay y.val.length cy] 61) = w0
  have hb : Below w.heap.size w w0 := by rw [← hW]; exact two_boxes _ _ _
  have hz : w0.heap.size = w.heap.size + 2 := by rw [← hW]; simp
  have x0 : w0.cell? ⟨w.heap.size, 0, none⟩ = some (.string (bstr x.key)) := by
    rw [← hW]; exact cell_later ((Below.refl _ _).alloc (Nat.le_refl _) _) (cell_of_row _ _ 0 #[.string (bstr x.key), .int .u64 x.seq, .bool x.gone, .slice ax x.val.length cx] 61 (0, 0) (heap_alloc_new w _))
  have x1 : w0.cell? ⟨w.heap.size, 1, none⟩ = some (.int .u64 x.seq) := by
    rw [← hW]; exact cell_later ((Below.refl _ _).alloc (Nat.le_refl _) _) (cell_of_row _ _ 1 #[.string (bstr x.key), .int .u64 x.seq, .bool x.gone, .slice ax x.val.length cx] 61 (0, 0) (heap_alloc_new w _))
  have hs1 : (w.alloc (.cells #[.string (bstr x.key), .int .u64 x.seq, .bool x.gone, .slice ax x.val.length cx] 61)).heap.size = w.heap.size + 1 := by simp
  have y0 : w0.cell? ⟨w.heap.size + 1, 0, none⟩ = some (.string (bstr y.key)) := by
    rw [← hW, ← hs1]; exact cell_of_row _ _ 0 #[.string (bstr y.key), .int .u64 y.seq, .bool y.gone, .slice ay y.val.length cy] 61 (0, 0) (heap_alloc_new _ _)
  have y1 : w0.cell? ⟨w.heap.size + 1, 1, none⟩ = some (.int .u64 y.seq) := by
    rw [← hW, ← hs1]; exact cell_of_row _ _ 1 #[.string (bstr y.key), .int .u64 y.seq, .bool y.gone, .slice ay y.val.length cy] 61 (0, 0) (heap_alloc_new _ _)
  have HW := Lib.hid hW
  have HB := Lib.hid hb
  have HZ := Lib.hid hz
  clear hW hb hz hs1
  go_enter Try.func66, Try.ntmps66
  go_wp2_with fail
  rw [HW.out]
  refine wp_region_still_tail 10 (by kernel_rfl) (by kernel_rfl) ?_
  simp only [List.take_succ_cons, List.take_zero, List.drop_succ_cons, List.drop_zero]
  repeat still_step
  still_call (cmpS_any _ _ _)
  repeat still_step
  still_call (cmpU_any _ _ _)
  repeat still_step
  refine wpStill_nil ?_
  go_wp2_with fail
  refine (or2_any (Ent.kcmp x.key y.key) (Ent.ncmp y.seq x.seq) w0.heap.size (w0.alloc (.cells #[.int .i64 (Ent.kcmp x.key y.key), .int .i64 (Ent.ncmp y.seq x.seq)] 3)).drew (cell_of_row _ _ 0 #[.int .i64 (Ent.kcmp x.key y.key), .int .i64 (Ent.ncmp y.seq x.seq)] 3 (0, 0) (heap_alloc_new w0 _)) (cell_of_row _ _ 1 #[.int .i64 (Ent.kcmp x.key y.key), .int .i64 (Ent.ncmp y.seq x.seq)] 3 (0, 0) (heap_alloc_new w0 _))).mono ?_
  rintro e w' ⟨rfl, rfl⟩
  go_wp2
  go_ret
  exact ⟨rfl, (HB.out.alloc HB.out.size _).drew⟩
end Go.Proofs.Ytchdmjnhjonddaa
