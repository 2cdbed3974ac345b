/- slices.Grow of nothing, slices.Concat of rows of bytes. -/
import Derived.Test.YtppgbapfmijboaaBytes
import Derived.Lib.AppendZerosOnto
set_option linter.unusedVariables false
set_option linter.unusedSimpArgs false
namespace Go.Proofs.Ytppgbapfmijboaa
open Go.RowKit

/-- A slice of bytes of the call's own is told. -/
def RetO (w : World) (l : List UInt8) (e : Ending) (w' : World) : Prop := ∃ a n c, e = .returned (.slice a n c) ∧ Own w' w.heap.size a n c l ∧ Below w.heap.size w w'
def GrowP (n : Nat) (w : World) (e : Ending) (w' : World) : Prop := ∃ a c, e = .returned (.slice a 0 c) ∧ Own w' w.heap.size a 0 c [] ∧ Below w.heap.size w w'
theorem grow_own (w : World) (n : Nat) (hn : n ≤ 1000000000) (cs : Array Value) (hc : cs.size = grownCap w n 0 5) : GrowP n w (.returned (.slice (some ⟨w.heap.size, 0, none⟩) 0 (grownCap w n 0 5))) (w.drew.alloc (.cells cs 5)) := by
  refine ⟨_, _, rfl, ⟨rfl, .inr ⟨w.heap.size, _, cs, rfl, Nat.le_refl _, heap_alloc_new w.drew _, Nat.zero_le _, grownCap_le_maxLen w n 0 _ (by simp only [maxLen]; omega), by simp [hc], by simp [vs]⟩⟩, (Below.refl _ _).drew.alloc (Nat.le_refl _) _⟩
set_option maxHeartbeats 1000000 in
theorem grow0_any (n : Nat) (w : World) (hn : n ≤ 1000000000) :
    Calls Try.prog 54 #[.slice none 0 0, .int .i64 n] w (GrowP n w) := by
  have t1 : decide ((n : Int) < 0) = false := decide_eq_false (by omega)
  by_cases h0 : n = 0
  · subst h0
    have HP : Hid (GrowP 0 w (.returned (.slice none 0 0)) w) := Lib.hid ⟨none, 0, rfl, World.ownsRow_nil w _ _ _, Below.refl _ _⟩
    go_enter Try.func54, Try.ntmps54
    go_wp2
    go_ret
    exact HP.out
  · obtain ⟨i, hi, hz, h1, h2⟩ := info_parts info8
    have hg := grownCap_ge w n 0 5
    have hcm := grownCap_le_maxLen w n 0 5 (by simp only [maxLen]; omega)
    have hap : ∀ ty, (Builtin.append_ #[22, 3] ty #[.slice none 0 0, .int .i64 (n : Int)]).run Try.prog w =
        .ok (.slice (some ⟨w.heap.size, 0, none⟩) n (grownCap w n 0 5)) (w.drew.alloc (.cells (#[] ++ Builtin.zeroCells (Value.int .u8 0).cells n ++ Builtin.zeroCells (Value.int .u8 0).cells (grownCap w n 0 5 - n)) 5)) := by
      intro ty
      have := Lib.run_append_grow_zeros (P := Try.prog) w 22 3 ty 5 i (.int .u8 0) .i64 .i64 Try.underlying22 Try.underlying3 hi hz none 0 0 [] (run_firstCells_none _ _ _ _ _) n (by omega) (by omega) (by omega) (by omega) (by rw [h2]; omega)
        (by rw [Nat.zero_add]; exact growslice_fits (by omega) (by rw [h2]; omega))
      simpa using this
    have HP := Lib.hid (grow_own w n hn (#[] ++ Builtin.zeroCells (Value.int .u8 0).cells n ++ Builtin.zeroCells (Value.int .u8 0).cells (grownCap w n 0 5 - n)) (by simp [size_zeroCells, Value.cells]; omega))
    simp only [maxLen] at hcm
    generalize (#[] ++ Builtin.zeroCells (Value.int .u8 0).cells n ++ Builtin.zeroCells (Value.int .u8 0).cells (grownCap w n 0 5 - n)) = cs at *
    generalize grownCap w n 0 5 = C at *
    have hs := fun W => run_slice_h (P := Try.prog) (t := 22) Try.underlying22 hi h1 none 0 0 (show (0 : Int) = ((0 : Nat) : Int) from rfl) (Nat.le_refl _) W
    have hs2 := fun W => run_slice_h (P := Try.prog) (t := 22) Try.underlying22 hi h1 (some ⟨w.heap.size, 0, none⟩) n C (show (0 : Int) = ((0 : Nat) : Int) from rfl) (Nat.zero_le _) W
    have t2 : decide ((0 : Int) < (n : Int)) = true := decide_eq_true (by omega)
    have hC : C ≤ 9223372036854775807 := by omega
    have HAP := Lib.hid hap
    have t3 : decide (0 < n) = true := decide_eq_true (by omega)
    clear h0 hg hcm hi hz h1 h2 hap
    go_enter Try.func54, Try.ntmps54
    go_wp2_with (at_builtin; refine Lib.wpList_append_run _ rfl _ _ _ _ rfl _ _ rfl rfl _ _ (HAP.out _) ?_)
    go_ret
    exact HP.out
set_option maxHeartbeats 1000000 in
theorem concat_any (a : Option Addr) (n c : Nat) (ls : List (List UInt8)) (w : World) (h : Bss w a n c ls) (hf : tot ls ≤ 1000000000) :
    Calls Try.prog 39 #[.slice a n c] w (RetO w ls.flatten) := by
  have hle := h.le.1
  have HL := Lib.hid h.1
  have HBs := Lib.hid h
  clear h
  go_enter Try.func39, Try.ntmps39
  go_wp2_with fail
  go_loop [3, 11] (fun s i => ∃ k : Nat, k ≤ n ∧ i = .int .i64 k ∧ s = .int .i64 (tot (ls.take k) : Nat)) (fun _ i => n - (intOf i).toNat)
  case atStart => exact ⟨0, by omega, rfl, by simp [tot]⟩
  case round =>
    obtain ⟨k, hk, rfl, rfl⟩ := hrel
    by_cases hlt : k < n
    · obtain ⟨b, off, ai, ni, ci, rfl, hc, hr⟩ := HBs.out.get hlt
      have ht := tot_snoc ls (i := k) (by rw [HL.out]; exact hlt)
      have h1 := tot_le ls (k + 1)
      rw [hr.1] at ht
      have HT := Lib.hid ht
      have hb : tot (ls.take k) + ni ≤ 1000000000 := by omega
      have t1 : decide (((tot (ls.take k) : Nat) : Int) + (ni : Int) < 0) = false := decide_eq_false (by omega)
      clear ht h1 hr hf
      generalize tot (ls.take k) = s at *
      go_wp2
      go_round
      case rel => exact ⟨k + 1, by omega, by go_num, by rw [HT.out]; go_num⟩
      case measure => simp [intOf]; omega
    · obtain rfl : k = n := by omega
      have e1 : ls.take k = ls := by rw [← HL.out, List.take_length]
      rw [e1]
      clear e1
      go_wp2_with fail
      refine (grow0_any (tot ls) w hf).mono ?_
      rintro e w1 ⟨a1, c1, rfl, ho, hb⟩
      have HO := Lib.hid ho
      have HB := Lib.hid hb
      clear ho hb
      go_wp2_with fail
      go_loopw [6, 27] (fun v i wr => ∃ (j m cv : Nat) (av : Option Addr), j ≤ k ∧ i = .int .i64 j ∧ v = .slice av m cv ∧ Own wr w.heap.size av m cv (ls.take j).flatten ∧ Below w.heap.size w wr) (fun _ i _ => k - (intOf i).toNat)
      case atStart => exact ⟨0, 0, c1, a1, by omega, rfl, rfl, HO.out, HB.out⟩
      case round =>
        obtain ⟨j, m, cv, av, hj, rfl, rfl, ho2, hb2⟩ := hrel
        by_cases hlt2 : j < k
        · obtain ⟨b, off, ai, ni, ci, rfl, hc, hr⟩ := (HBs.out.below hb2).get hlt2
          have hml := ho2.bs.1
          have ht := tot_snoc ls (i := j) (by rw [HL.out]; exact hlt2)
          have h1 := tot_le ls (j + 1)
          rw [hr.1] at ht
          have hmt : m = tot (ls.take j) := hml.symm
          have hfl : (ls.take (j + 1)).flatten = (ls.take j).flatten ++ nth ls j := by rw [take_snoc ls (by rw [HL.out]; exact hlt2)]; simp
          have HF := Lib.hid hfl
          have HO2 := Lib.hid ho2
          have HB2 := Lib.hid hb2
          have HR := Lib.hid hr
          have hmb : m + ni ≤ 1000000000 := by omega
          clear hml ht h1 hmt hfl ho2 hb2 hr hf
          go_wp2_with (at_builtin; refine app_own rfl _ _ rfl w.heap.size rfl HO2.out rfl HR.out (by omega) HB2.out.size ?_; intro a5 c5 w5 h5 hb5 _)
          have hb6 := HB2.out.trans hb5
          have H5 := Lib.hid h5
          clear h5 hb5
          go_wp2
          go_roundw
          case rel => exact ⟨j + 1, m + ni, c5, a5, by omega, by go_num, rfl, by rw [HF.out]; exact H5.out, hb6⟩
          case measure => simp [intOf]; omega
        · obtain rfl : j = k := by omega
          have e1 : ls.take j = ls := by rw [← HL.out, List.take_length]
          rw [e1] at ho2
          have HP : Hid (RetO w ls.flatten (.returned (.slice av m cv)) wr) := Lib.hid ⟨_, _, _, rfl, ho2, hb2⟩
          clear ho2 hb2 e1
          go_wp2
          go_ret
          exact HP.out
end Go.Proofs.Ytppgbapfmijboaa
