/- The reference's Merge; few; the walk of MergeLists. -/
import Derived.Test.YtfcfipoldkjloaaCgW
set_option maxRecDepth 100000
set_option linter.unusedSimpArgs false
namespace Go.Proofs.Ytfcfipoldkjloaa
open Go.RowKit
set_option linter.unusedVariables false

theorem sumL_take (ls : List (List Ent)) (j : Nat) : Ent.sumL (ls.take j) ≤ Ent.sumL ls := by
  unfold Ent.sumL
  conv => rhs; rw [← List.take_append_drop j ls]
  simp only [List.map_append, List.sum_append]
  omega
theorem sumL_at {ls : List (List Ent)} {j : Nat} (h : j < ls.length) : Ent.sumL (ls.take (j + 1)) = Ent.sumL (ls.take j) + (nth ls j).length := by
  unfold Ent.sumL
  rw [List.take_succ_eq_append_getElem h, nth_eq _ h, List.map_append, List.sum_append]
  rfl
theorem mergeL_take {ls : List (List Ent)} {j : Nat} (h : j < ls.length) : Ent.mergeL (ls.take (j + 1)) = Ent.two (Ent.mergeL (ls.take j)) (nth ls j) := by
  unfold Ent.mergeL
  rw [List.take_succ_eq_append_getElem h, nth_eq _ h, List.foldl_append]
  rfl
set_option maxHeartbeats 4000000 in
theorem refmerge_any (a : Option Addr) (n c : Nat) (ls : List (List Ent)) (w : World) (h : Ess w a n c ls) (hs : Ent.sumL ls ≤ 900000000) :
    Calls Try.prog 10 #[.slice a n c] w fun e w' => ∃ a' m co, e = .returned (.tuple #[.slice a' m co, .int .i64 (Ent.mergeX ls)]) ∧ Es w' a' m co (Ent.mergeE ls) ∧ Below w.heap.size w w' := by
  have hle := h.le.1
  have HN := Lib.hid h.1
  have HE := Lib.hid h
  have HS := Lib.hid hs
  clear h hs
  go_enter Try.func10, Try.ntmps10
  go_wp2_with fail
  go_loopw [5] (fun i wr => ∃ j : Nat, j ≤ n ∧ i = .int .i64 j ∧ Below w.heap.size w wr ∧ Hid (∀ k, k < j → Ent.rightB (nth ls k) = true)) (fun i _ => n - (intOf i).toNat)
  case atStart => exact ⟨0, Nat.zero_le _, rfl, Below.refl _ _, Lib.hid (fun k hk => by omega)⟩
  case round =>
    obtain ⟨j, hj, rfl, hb, hall⟩ := hrel
    by_cases hlt : j < n
    · obtain ⟨b, off, ai, ni, ci, rfl, hc, hes⟩ := (HE.out.below hb).get hlt
      have HES := Lib.hid hes
      have HB := Lib.hid hb
      clear hes hb
      go_wp2_with fail
      refine (refright_any _ _ _ (nth ls j) _ HES.out).mono ?_
      rintro e w1 ⟨rfl, hb1⟩
      have HB1 := Lib.hid (HB.out.trans (hb1.mono HB.out.size))
      clear hb1
      cases hR : Ent.rightB (nth ls j) with
      | false =>
        have hno := allR_no (by rw [HN.out]; exact hlt) hR
        have HP := Lib.hid (show ∃ a' m co, Ending.returned (.tuple #[.slice none 0 0, .int .i64 15]) = Ending.returned (.tuple #[.slice a' m co, .int .i64 (Ent.mergeX ls)]) ∧ Es w1 a' m co (Ent.mergeE ls) ∧ Below w.heap.size w w1 by rw [hno.1, hno.2]; exact ⟨_, _, _, rfl, Es.nil _, HB1.out⟩)
        clear hno hR
        go_wp2
        go_ret2
        exact HP.out
      | true =>
        have HA : Hid (∀ k, k < j + 1 → Ent.rightB (nth ls k) = true) := Lib.hid (fun k hk => by
          by_cases e : k = j
          · rw [e]; exact hR
          · exact hall.out k (by omega))
        clear hR
        go_wp2
        go_roundw
        case rel => exact ⟨j + 1, by omega, by go_num, HB1.out, HA⟩
        case measure => simp [intOf]; omega
    · obtain rfl : n = j := by omega
      have hR := allR_at (ls := ls) (fun k hk => hall.out k (by rw [HN.out] at hk; exact hk))
      have HY := Lib.hid (allR_yes hR)
      have HB := Lib.hid hb
      clear hb hR
      go_wp2_with fail
      go_loopw [4, 6] (fun o i wi => ∃ (j m co : Nat) (ao : Option Addr), j ≤ n ∧ o = .slice ao m co ∧ i = .int .i64 j ∧ Below w.heap.size w wi ∧ Es wi ao m co (Ent.mergeL (ls.take j))) (fun _ i _ => n - (intOf i).toNat)
      case atStart => exact ⟨0, 0, 0, none, Nat.zero_le _, rfl, rfl, HB.out, Es.nil _⟩
      case round =>
        clear HB
        obtain ⟨j, m, co, ao, hj, rfl, rfl, hb2, heo⟩ := hrel
        by_cases hlt2 : j < n
        · obtain ⟨b, off, ai, ni, ci, rfl, hc, hes⟩ := (HE.out.below hb2).get hlt2
          have hsz : m + ni ≤ 900000000 := by
            have h1 := merge_len (ls.take j)
            have h2 := sumL_at (ls := ls) (j := j) (by rw [HN.out]; exact hlt2)
            have h3 := sumL_take ls (j + 1)
            have h4 := HS.out
            rw [heo.1] at h1
            rw [hes.1] at h2
            omega
          have HES := Lib.hid hes
          have HEO := Lib.hid heo
          have HB2 := Lib.hid hb2
          have HMT := Lib.hid (mergeL_take (ls := ls) (j := j) (by rw [HN.out]; exact hlt2))
          clear hes heo hb2
          go_wp2_with fail
          refine (reftwo_any _ _ _ _ _ _ _ (nth ls j) _ HEO.out HES.out hsz).mono ?_
          rintro e w5 ⟨a5, m5, c5, rfl, ha5, hb5⟩
          have HB5 := Lib.hid (HB2.out.trans (hb5.mono HB2.out.size))
          have HA5 := Lib.hid ha5.es
          clear hb5 ha5
          go_wp2
          go_roundw
          case rel => exact ⟨j + 1, m5, c5, a5, by omega, rfl, by go_num, HB5.out, by rw [HMT.out]; exact HA5.out⟩
          case measure => simp [intOf]; omega
        · obtain rfl : n = j := by omega
          have e1 : ls.take n = ls := by rw [← HN.out, List.take_length]
          rw [e1] at heo
          have HP := Lib.hid (show ∃ a' m' co', Ending.returned (.tuple #[.slice ao m co, .int .i64 0]) = Ending.returned (.tuple #[.slice a' m' co', .int .i64 (Ent.mergeX ls)]) ∧ Es wr a' m' co' (Ent.mergeE ls) ∧ Below w.heap.size w wr by rw [HY.out.1, HY.out.2]; exact ⟨_, _, _, rfl, heo, hb2⟩)
          clear heo hb2 e1
          go_wp2
          go_ret2
          exact HP.out
/-- Lists such that a play is worth its while. -/
def Ent.fewB (l : List Ent) : Bool := decide (l.length ≤ 1000 ∧ Ent.tot l ≤ 131072)
def Ent.few6 (ls : List (List Ent)) : Bool := decide (ls.length ≤ 30) && (ls.all Ent.fewB && decide (Ent.sumL ls ≤ 3000))
def Ent.totL (ls : List (List Ent)) : Nat := (ls.map fun l => Ent.tot l + l.length).sum
theorem totL_mem {ls : List (List Ent)} {l : List Ent} (h : l ∈ ls) : Ent.tot l + l.length ≤ Ent.totL ls := by
  induction ls with
  | nil => cases h
  | cons k ls ih =>
    unfold Ent.totL at *
    simp only [List.map_cons, List.sum_cons]
    rcases List.mem_cons.1 h with e | e
    · rw [e]; omega
    · have := ih e; omega
theorem sumL_tot (ls : List (List Ent)) : Ent.sumL ls ≤ Ent.totL ls := by
  induction ls with
  | nil => exact Nat.le_refl _
  | cons k ls ih => unfold Ent.totL Ent.sumL at *; simp only [List.map_cons, List.sum_cons]; omega
theorem few6_yes {ls : List (List Ent)} (h : Ent.few6 ls = true) : ls.length ≤ 30 ∧ (∀ l ∈ ls, l.length ≤ 1000 ∧ ∀ e ∈ l, e.val.length ≤ 1000000000) ∧ Ent.sumL ls ≤ 3000 := by
  unfold Ent.few6 at h
  rw [Bool.and_eq_true, Bool.and_eq_true, decide_eq_true_eq, decide_eq_true_eq, List.all_eq_true] at h
  exact ⟨h.1, fun l hl => few_yes (h.2.1 l hl), h.2.2⟩
end Go.Proofs.Ytfcfipoldkjloaa
