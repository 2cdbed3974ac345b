/- rs: shards that are alike, shards that are missing; errors given up. -/
import Derived.Test.YtppgbapfmijboaaRsB
import Derived.Recover
set_option maxRecDepth 100000
set_option linter.unusedVariables false
namespace Go.Proofs.Ytppgbapfmijboaa
open Go.RowKit Go.Deep

/-- The length of shards that are there; none: they are not of one length. -/
def Rs.sc1 (o : Option Nat) (l : List UInt8) : Option Nat :=
  match o with
  | none => none
  | some m => if 0 < l.length ∧ 0 < m ∧ l.length ≠ m then none else some (max m l.length)
def Rs.sc (ls : List (List UInt8)) : Option Nat := ls.foldl Rs.sc1 (some 0)
def Rs.alk (n : Nat) (ls : List (List UInt8)) : Option Nat := if ls.length = n then Rs.sc ls else none
theorem sc_snoc (ls : List (List UInt8)) {i : Nat} (hi : i < ls.length) : Rs.sc (ls.take (i + 1)) = Rs.sc1 (Rs.sc (ls.take i)) (nth ls i) := by
  unfold Rs.sc; rw [take_snoc ls hi, List.foldl_append]; rfl
theorem sc_none : ∀ (ls : List (List UInt8)), ls.foldl Rs.sc1 none = none
  | [] => rfl
  | l :: ls => sc_none ls
theorem sc_bad {ls : List (List UInt8)} {i : Nat} (h : Rs.sc (ls.take i) = none) : Rs.sc ls = none := by
  unfold Rs.sc at *
  rw [← List.take_append_drop i ls, List.foldl_append, h, sc_none]
def Rs.full (ls : List (List UInt8)) : Bool := ls.all fun l => l.length != 0
theorem full_false {ls : List (List UInt8)} {k : Nat} (hk : k < ls.length) (h : (nth ls k).length = 0) : Rs.full ls = false := by
  rw [nth_eq _ hk] at h
  unfold Rs.full
  rw [List.all_eq_false]
  exact ⟨ls[k], List.getElem_mem hk, by simp [h]⟩
theorem full_true {ls : List (List UInt8)} (h : ∀ k, k < ls.length → (nth ls k).length ≠ 0) : Rs.full ls = true := by
  unfold Rs.full
  rw [List.all_eq_true]
  intro l hl
  obtain ⟨k, hk, rfl⟩ := List.getElem_of_mem hl
  have := h k hk
  rw [nth_eq _ hk] at this
  simpa using this
theorem full_at {ls : List (List UInt8)} (h : Rs.full ls = true) {k : Nat} (hk : k < ls.length) : (nth ls k).length ≠ 0 := by
  intro e
  rw [full_false hk e] at h
  cases h

def errE (er : Int) : PanicEntry := { v := .iface 25 (.int .i64 er), recovered := false }
theorem give_any (er : Int) (w : World) : Calls Try.prog 31 #[.int .i64 er] w fun e w' => e = .panicked [errE er] ∧ w = w' := by
  go_enter Try.func31, Try.ntmps31
  go_wp2
  exact ⟨rfl, rfl, rfl⟩

theorem emptyElem (a : Option Addr) (n c : Nat) (w : World) : Calls Try.prog 51 #[.slice a n c] w fun e w' => e = .returned (.bool (decide (n = 0))) ∧ w = w' := by
  go_enter Try.func51, Try.ntmps51
  have e : ((n : Int) == 0) = decide (n = 0) := by by_cases h : n = 0 <;> simp [h]
  go_wp2
  go_ret
  exact ⟨rfl, rfl⟩

def alkE : Option Nat → Ending
  | some s => .returned (.int .i64 s)
  | none => .panicked [errE 1]
set_option maxHeartbeats 1000000 in
theorem alike_any (a : Option Addr) (n m c : Nat) (ls : List (List UInt8)) (w : World) (h : Bss w a m c ls) (hn : n ≤ 1000000000000) :
    Calls Try.prog 29 #[.int .i64 n, .slice a m c] w fun e w' => e = alkE (Rs.alk n ls) ∧ w = w' := by
  have hle := h.le.1
  have hl := h.1
  have HB := Lib.hid h
  clear h
  by_cases hmn : m = n
  case neg =>
    have t1 : ((m : Int) != (n : Int)) = true := by simp; omega
    have HA : Hid (Rs.alk n ls = none) := Lib.hid (by unfold Rs.alk; rw [if_neg (by omega)])
    clear hmn hl
    go_enter Try.func29, Try.ntmps29
    go_wp2_with (go_at_call 31; refine (give_any _ _).mono ?_; rintro e w' ⟨rfl, rfl⟩)
    exact ⟨rfl, by rw [HA.out]; rfl, rfl⟩
  subst hmn
  have t1 : ((m : Int) != (m : Int)) = false := by simp
  have HA : Hid (Rs.alk m ls = Rs.sc ls) := Lib.hid (by unfold Rs.alk; rw [if_pos hl])
  have HLN := Lib.hid hl
  clear hl
  go_enter Try.func29, Try.ntmps29
  go_wp2_with fail
  go_loop [5, 15] (fun s i => ∃ k x : Nat, k ≤ m ∧ i = .int .i64 k ∧ s = .int .i64 x ∧ x ≤ 9223372036854775807 ∧ Hid (Rs.sc (ls.take k) = some x)) (fun _ i => m - (intOf i).toNat)
  case atStart => exact ⟨0, 0, Nat.zero_le _, rfl, rfl, by omega, Lib.hid rfl⟩
  case round =>
    obtain ⟨k, x, hk, rfl, rfl, hx, HX⟩ := hrel
    by_cases hlt : k < m
    · obtain ⟨b, off, ai, ni, ci, rfl, dk, hk2⟩ := HB.out.get hlt
      have hni := hk2.le.1
      have hstep : Hid (Rs.sc (ls.take (k + 1)) = if 0 < ni ∧ 0 < x ∧ ni ≠ x then none else some (max x ni)) := Lib.hid (by
        rw [sc_snoc ls (by rw [HLN.out]; exact hlt), HX.out, ← hk2.1]; rfl)
      clear hk2
      by_cases hbad : 0 < ni ∧ 0 < x ∧ ni ≠ x
      · have q1 : 0 < ni := hbad.1
        have q2 : 0 < x := hbad.2.1
        have q3 : ¬ ni = x := hbad.2.2
        have s3 : ((ni : Int) != (x : Int)) = true := by simp; omega
        have HN : Hid (Rs.sc ls = none) := Lib.hid (sc_bad (i := k + 1) (by rw [hstep.out, if_pos hbad]))
        clear hbad
        go_wp2_with (go_at_call 31; refine (give_any _ _).mono ?_; rintro e w' ⟨rfl, rfl⟩)
        exact ⟨rfl, by rw [HA.out, HN.out]; rfl, rfl⟩
      · have hs2 := Lib.hid (hstep.out.trans (if_neg hbad))
        have hmx : max (x : Int) (ni : Int) = ((max x ni : Nat) : Int) := by omega
        by_cases q1 : 0 < ni
        · by_cases q2 : 0 < x
          · have q3 : ni = x := by omega
            subst q3
            have s3 : ((ni : Int) != (ni : Int)) = false := by simp
            clear hbad
            go_wp2
            all_goals go_round
            all_goals first | (simp [intOf]; omega) | exact ⟨k + 1, max ni ni, by omega, by go_num, by (try split) <;> (congr 1; omega), by omega, hs2⟩
          · clear hbad
            go_wp2
            all_goals go_round
            all_goals first | (simp [intOf]; omega) | exact ⟨k + 1, max x ni, by omega, by go_num, by (try split) <;> (congr 1; omega), by omega, hs2⟩
        · clear hbad
          go_wp2
          all_goals go_round
          all_goals first | (simp [intOf]; omega) | exact ⟨k + 1, max x ni, by omega, by go_num, by (try split) <;> (congr 1; omega), by omega, hs2⟩
    · obtain rfl : k = m := by omega
      have HX2 : Hid (Rs.sc ls = some x) := Lib.hid (by have := HX.out; rwa [List.take_of_length_le (by rw [HLN.out]; exact Nat.le_refl _)] at this)
      go_wp2
      go_ret
      exact ⟨by rw [HA.out, HX2.out]; rfl, rfl⟩
end Go.Proofs.Ytppgbapfmijboaa
