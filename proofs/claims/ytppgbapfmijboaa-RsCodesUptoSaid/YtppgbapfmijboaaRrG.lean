/- The walk of RsCodes. -/
import Derived.Test.YtppgbapfmijboaaRrF
set_option maxRecDepth 100000
set_option linter.unusedVariables false
set_option linter.unusedSimpArgs false
namespace Go.Proofs.Ytppgbapfmijboaa
open Go.RowKit Go.Deep

theorem numbers_any (b K M : Nat) (w : World) (hc : Cod w b K M) : Calls Try.prog 17 #[.pointer (some ⟨b, 0, none⟩)] w fun e w' => e = .returned (.tuple #[.int .i64 K, .int .i64 M]) ∧ Below w.heap.size w w' := by
  have k1 := hc.k
  have k2 := hc.m
  clear hc
  go_enter Try.func17, Try.ntmps17
  go_wp2_with fail
  go_still (by kernel_rfl)
  go_wp2
  go_ret2
  exact ⟨rfl, (Below.refl _ _).drew⟩
theorem tot_take {ls : List (List UInt8)} {k : Nat} (h : k < ls.length) : ((ls.take (k + 1)).flatten).length = ((ls.take k).flatten).length + (nth ls k).length := by
  rw [take_snoc _ h, List.flatten_append]; simp
theorem tot_part (ls : List (List UInt8)) (k : Nat) : ((ls.take k).flatten).length ≤ tot ls := by
  unfold tot
  have : ls.flatten = (ls.take k).flatten ++ (ls.drop k).flatten := by rw [← List.flatten_append, List.take_append_drop]
  rw [this, List.length_append]; omega
theorem tot_nth {ls : List (List UInt8)} {k : Nat} (h : k < ls.length) : (nth ls k).length ≤ tot ls := by
  have h1 := tot_take h
  have h2 := tot_part ls (k + 1)
  omega
set_option maxHeartbeats 1000000 in
theorem few_any (a : Option Addr) (n c : Nat) (ls : List (List UInt8)) (w : World) (h : Bss w a n c ls) (ht : tot ls ≤ 1000000000) :
    Calls Try.prog 16 #[.slice a n c] w fun e w' => (∃ v, e = .returned (.bool v) ∧ (v = true → n ≤ 40 ∧ tot ls ≤ 4000)) ∧ Below w.heap.size w w' := by
  have hle := h.le.1
  have HLN := Lib.hid h.1
  have HS := Lib.hid h
  have HT := Lib.hid ht
  have HTF : Hid ((ls.take n).flatten.length = tot ls) := Lib.hid (by rw [List.take_of_length_le (by rw [h.1]; exact Nat.le_refl _)]; rfl)
  clear h ht
  go_enter Try.func16, Try.ntmps16
  go_wp2
  go_loopw [3, 4] (fun s i wr => ∃ (k x : Nat), k ≤ n ∧ i = .int .i64 k ∧ s = .int .i64 x ∧ wr = w ∧ Hid (x = ((ls.take k).flatten).length) ∧ x ≤ 1000000000) (fun _ i _ => n - (intOf i).toNat)
  case atStart => exact ⟨0, 0, Nat.zero_le _, rfl, rfl, rfl, Lib.hid (by simp), by omega⟩
  case round =>
    obtain ⟨k, x, hk, rfl, rfl, rfl, HX, hx⟩ := hrel
    by_cases hlt : k < n
    · obtain ⟨b, off, ai, ni, ci, rfl, dk, hk2⟩ := HS.out.get hlt
      have hst := tot_take (ls := ls) (k := k) (by rw [HLN.out]; exact hlt)
      have hb1 := tot_part ls (k + 1)
      rw [← hk2.1] at dk
      have hx2 : x + (nth ls k).length ≤ 1000000000 := by have := HX.out; have := HT.out; omega
      have HX2 : Hid (x + (nth ls k).length = ((ls.take (k + 1)).flatten).length) := Lib.hid (by have := HX.out; omega)
      clear hk2 hst hb1
      generalize (nth ls k).length = L at *
      go_wp2
      go_roundw
      case rel => exact ⟨k + 1, x + L, by omega, by go_num, by go_num, trivial, HX2, hx2⟩
      case measure => simp [intOf]; omega
    · obtain rfl : k = n := by omega
      have HXT : Hid (x = tot ls) := Lib.hid (HX.out.trans HTF.out)
      have hcase : (n40 : Bool) → True := fun _ => trivial
      clear hcase
      by_cases q1 : k ≤ 40
      · by_cases q2 : x ≤ 4000
        · have t1 : decide ((k : Int) ≤ 40) = true := decide_eq_true (by omega)
          have t2 : decide ((x : Int) ≤ 4000) = true := decide_eq_true (by omega)
          go_wp2
          go_ret
          exact ⟨⟨true, rfl, fun _ => ⟨q1, by rw [← HXT.out]; exact q2⟩⟩, Below.refl _ _⟩
        · have t1 : decide ((k : Int) ≤ 40) = true := decide_eq_true (by omega)
          have t2 : decide ((x : Int) ≤ 4000) = false := decide_eq_false (by omega)
          go_wp2
          go_ret
          exact ⟨⟨false, rfl, fun h => by cases h⟩, Below.refl _ _⟩
      · have t1 : decide ((k : Int) ≤ 40) = false := decide_eq_false (by omega)
        go_wp2
        go_ret
        exact ⟨⟨false, rfl, fun h => by cases h⟩, Below.refl _ _⟩
end Go.Proofs.Ytppgbapfmijboaa
