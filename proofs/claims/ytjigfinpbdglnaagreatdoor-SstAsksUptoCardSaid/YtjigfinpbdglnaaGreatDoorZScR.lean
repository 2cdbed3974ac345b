/- The reference's numbers, read. -/
import Derived.Test.YtjigfinpbdglnaaGreatDoorZScG
set_option linter.unusedVariables false
set_option linter.unusedSimpArgs false
set_option maxRecDepth 100000
set_option linter.unusedVariables false
namespace Go.Proofs.YtjigfinpbdglnaaGreatDoor
open Go.RowKit

set_option maxHeartbeats 1000000 in
theorem refreadnum_any (a : Option Addr) (n c : Nat) (l : List UInt8) (w : World) (h : Bs w a n c l) :
    Calls Tryz.prog 85 #[.slice a n c] w fun e w' => e = .returned (.tuple #[.int .u64 (Codec.dec l).1, .int .i64 (Codec.dec l).2.1, .int .i64 (Codec.dec l).2.2]) ∧ w = w' := by
  have hle := h.le.1
  have HN := Lib.hid h.1
  go_enter Tryz.func85, Tryz.ntmps85
  go_wp2
  go_loop [5, 6] (fun v i => ∃ (k u : Nat), k ≤ n ∧ k ≤ 9 ∧ i = .int .i64 k ∧ v = .int .u64 u ∧ u < 128 ^ k ∧ Codec.dec l = Codec.decF k u (l.drop k)) (fun _ i => n - (intOf i).toNat)
  case atStart => exact ⟨0, 0, by omega, by omega, rfl, rfl, by simp, rfl⟩
  case round =>
    obtain ⟨k, u, hk, hk9, rfl, rfl, hu, hd⟩ := hrel
    have HU := Lib.hid hu
    have t1 : decide ((k : Int) < 10) = true := by simp; omega
    by_cases hlt : k < n
    · have t2 : decide (n ≤ k) = false := by simp; omega
      rw [dec_step (by rw [h.1]; exact hlt)] at hd
      have HD := Lib.hid hd
      clear hu hd
      obtain ⟨b, off, rfl, hc⟩ := h.byte hlt
      have hcb := (nth l k).toNat_lt
      by_cases w1 : k = 9 ∧ 1 < (nth l k).toNat
      · have HF := Lib.hid (HD.out.trans (if_pos w1))
        obtain ⟨rfl, w1'⟩ := w1
        have e2 : decide ((1 : Int) < ((nth l 9).toNat : Int)) = true := by simp; omega
        go_wp2
        go_ret3
        exact ⟨by rw [HF.out]; rfl, rfl⟩
      · have HD2 := Lib.hid (HD.out.trans (if_neg w1))
        have hx9 : k = 9 → (nth l k).toNat % 128 ≤ 1 := by intro e; omega
        have HO := Lib.hid (or_step (c := nth l k) HU.out hk9 hx9)
        have HX := Lib.hid hx9
        have HW := Lib.hid w1
        clear hx9 w1
        by_cases w2 : (nth l k).toNat < 128
        · have e3 : decide (((nth l k).toNat : Int) < 128) = true := by simp; omega
          have HD3 := Lib.hid (HD2.out.trans (if_pos w2))
          by_cases w3 : (nth l k).toNat = 0
          · have e4 : (((nth l k).toNat : Int) == 0) = true := by simp; omega
            have e2 : decide ((1 : Int) < ((nth l k).toNat : Int)) = false := by simp; omega
            have W3 := Lib.hid w3; clear w3
            by_cases w4 : 0 < k
            · have HF := Lib.hid (HD3.out.trans (if_pos ⟨W3.out, w4⟩))
              have e5 : decide ((0 : Int) < (k : Int)) = true := by simp; omega
              cases e1 : ((k : Int) == 9)
              all_goals
                go_wp2
                go_ret3
                exact ⟨by rw [HF.out]; rfl, rfl⟩
            · have e5 : decide ((0 : Int) < (k : Int)) = false := by simp; omega
              have e1 : ((k : Int) == 9) = false := by simp; omega
              have HF := Lib.hid (HD3.out.trans (if_neg (by omega)))
              go_wp2
              go_ret3
              refine ⟨?_, rfl⟩
              obtain rfl : k = 0 := by omega
              have hz : u = 0 := by have := HU.out; simpa using this
              have hx : nth l 0 = 0 := UInt8.toNat_inj.1 W3.out
              rw [HF.out, hz, hx]
              rfl
          · have HF := Lib.hid (HD3.out.trans (if_neg (by omega)))
            have e4 : (((nth l k).toNat : Int) == 0) = false := by simp; omega
            cases e1 : ((k : Int) == 9)
            · go_wp2
              go_ret3
              refine ⟨?_, rfl⟩
              rw [HF.out, and64_127, HO.out]
              rfl
            · have e2 : decide ((1 : Int) < ((nth l k).toNat : Int)) = false := by have := HW.out; simp at e1; simp; omega
              go_wp2
              go_ret3
              refine ⟨?_, rfl⟩
              rw [HF.out, and64_127, HO.out]
              rfl
        · have HF := Lib.hid (HD2.out.trans (if_neg w2))
          have e3 : decide (((nth l k).toNat : Int) < 128) = false := by simp; omega
          have hk8 : k < 9 := by have := HW.out; omega
          have e1 : ((k : Int) == 9) = false := by simp; omega
          have HG := Lib.hid (dec_grow (x := (nth l k).toNat) HU.out)
          go_wp2
          go_round
          case rel => exact ⟨k + 1, _, by omega, by omega, by go_num, by rw [and64_127, HO.out], HG.out, HF.out⟩
          case measure => simp [intOf]; omega
    · obtain rfl : k = n := by omega
      have hd' : Codec.dec l = (0, 0, 11) := by rw [hd, ← HN.out, List.drop_length]; rfl
      have HF := Lib.hid hd'
      clear hd hd' hu
      have t2 : decide (k ≤ k) = true := by simp
      go_wp2
      go_ret3
      exact ⟨by rw [HF.out]; rfl, rfl⟩
set_option maxHeartbeats 1000000 in
theorem readfour_any (a : Option Addr) (n c : Nat) (l : List UInt8) (w : World) (h : Bs w a n c l) (hn : 4 ≤ n) :
    Calls Tryz.prog 51 #[.slice a n c] w fun e w' => e = .returned (.int .u32 (n32 (Codec.rf4 (nth l 0) (nth l 1) (nth l 2) (nth l 3)))) ∧ Below w.heap.size w w' := by
  have hle := h.le.1
  obtain ⟨b, off, rfl, h0⟩ := h.byte (i := 0) (by omega)
  obtain ⟨_, _, e1, h1⟩ := h.byte (i := 1) (by omega)
  obtain ⟨_, _, e2, h2⟩ := h.byte (i := 2) (by omega)
  obtain ⟨_, _, e3, h3⟩ := h.byte (i := 3) (by omega)
  cases e1; cases e2; cases e3
  have g0 : (0 : Int) < (n : Int) := by omega
  have g1 : (1 : Int) < (n : Int) := by omega
  have g2 : (2 : Int) < (n : Int) := by omega
  have g3 : (3 : Int) < (n : Int) := by omega
  rw [Nat.add_zero] at h0
  go_enter Tryz.func51, Tryz.ntmps51
  go_wp2
  go_quiet (fail)
  go_wp2
  go_ret
  exact ⟨rfl, below_drewN (Below.refl _ _) _⟩
end Go.Proofs.YtjigfinpbdglnaaGreatDoor
