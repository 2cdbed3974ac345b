/- Same, Clone, Equal; numbers that are read. -/
import Derived.Test.YtchdmjnhjonddaaScD
import Derived.Lib.LazyBuf
import Derived.BigQuiet
import Derived.Deep.QuietTactic
namespace Go.Proofs.Ytchdmjnhjonddaa
open Go.RowKit

set_option maxHeartbeats 400000 in
theorem clone_any (a : Option Addr) (n c : Nat) (l : List UInt8) (w : World) (h : Bs w a n c l) (hf : Fits n) :
    Calls Try.prog 82 #[.slice a n c] w (RetB w w.heap.size l) := by
  have hq := fun (w : World) => Lib.run_eql_slice_nil (P := Try.prog) w 55 5 a n c 0 0 Try.underlying55
  cases a with
  | none =>
    go_enter Try.func82, Try.ntmps82
    go_wp2
    go_ret
    have hl : l = [] := by
      cases l with
      | nil => rfl
      | cons b l => obtain ⟨_, _, h1, _⟩ := h.2.2.2 0 _ rfl; cases h1
    subst hl
    exact ⟨_, _, _, rfl, Own.nil _ _, Below.refl _ _⟩
  | some ad =>
    go_enter Try.func82, Try.ntmps82
    go_wp2_with (at_builtin; refine app_own rfl _ _ rfl w.heap.size rfl (Own.lit w w.heap.size [] (Nat.le_refl _) (by simp [maxLen])) rfl (h.below ((Below.refl _ _).alloc (Nat.le_refl _) _)) (by have := hf.le; simp; omega) (le_alloc (Nat.le_refl _)) ?_; intro a'' c'' w' h1 h2 _)
    go_ret
    exact ⟨_, _, _, rfl, by simpa using h1, ((Below.refl _ _).alloc (Nat.le_refl _) _).trans h2⟩

theorem or_step {u k : Nat} {c : UInt8} (hu : u < 128 ^ k) (hk : k ≤ 9) (h9 : k = 9 → c.toNat % 128 ≤ 1) : bits .or .u64 (u : Int) (IntKind.u64.wrap (((c.toNat &&& 127 : Nat) : Int) * 2 ^ (7 * k))) = ((u + c.toNat % 128 * 128 ^ k : Nat) : Int) := by
  have hm : c.toNat &&& 127 = c.toNat % 128 := Nat.and_two_pow_sub_one_eq_mod _ 7
  have hx : c.toNat % 128 < 128 := Nat.mod_lt _ (by decide)
  rw [hm]
  generalize c.toNat % 128 = x at *
  have hp : (128 : Nat) ^ k = 2 ^ (7 * k) := by rw [show (128 : Nat) = 2 ^ 7 from rfl, ← Nat.pow_mul]
  have hb : u + x * 128 ^ k < 18446744073709551616 := by
    by_cases h : k = 9
    · subst h
      have := h9 rfl
      have e9 : (128 : Nat) ^ 9 = 9223372036854775808 := by decide
      rw [e9] at hu ⊢
      have : x * 9223372036854775808 ≤ 1 * 9223372036854775808 := Nat.mul_le_mul_right _ this
      omega
    · have hle : 128 ^ k ≤ 128 ^ 8 := Nat.pow_le_pow_right (by decide) (by omega)
      have e8 : (128 : Nat) ^ 8 = 72057594037927936 := by decide
      rw [e8] at hle
      have : x * 128 ^ k ≤ 127 * 128 ^ k := Nat.mul_le_mul_right _ (by omega)
      omega
  have es : IntKind.u64.wrap ((x : Int) * 2 ^ (7 * k)) = ((x * 128 ^ k : Nat) : Int) := by
    rw [IntKind.wrap_u64, hp]
    have : (x : Int) * 2 ^ (7 * k) = ((x * 2 ^ (7 * k) : Nat) : Int) := by push_cast; rfl
    rw [this]
    rw [hp] at hb
    omega
  rw [es, u64_or_nat _ _ (by omega) (by omega)]
  congr 1
  rw [hp] at hu ⊢
  rw [← Nat.shiftLeft_eq, Nat.add_comm, Nat.shiftLeft_add_eq_or_of_lt hu, Nat.or_comm]
theorem and64_127 (c : UInt8) : bits .and .u64 (c.toNat : Int) 127 = ((c.toNat &&& 127 : Nat) : Int) := by
  have := c.toNat_lt
  exact u64_and_nat c.toNat 127 (by omega) (by decide)
theorem dec_step {l : List UInt8} {k u : Nat} (h : k < l.length) :
    Codec.decF k u (l.drop k) = if k = 9 ∧ 1 < (nth l k).toNat then (0, 0, 12) else if (nth l k).toNat < 128 then (if (nth l k).toNat = 0 ∧ 0 < k then (0, 0, 12) else (u + (nth l k).toNat % 128 * 128 ^ k, k + 1, 0)) else Codec.decF (k + 1) (u + (nth l k).toNat % 128 * 128 ^ k) (l.drop (k + 1)) := by
  rw [List.drop_eq_getElem_cons h, nth_eq l h]; rfl
theorem dec_grow {u x k : Nat} (hu : u < 128 ^ k) : u + x % 128 * 128 ^ k < 128 ^ (k + 1) := by
  have : x % 128 * 128 ^ k ≤ 127 * 128 ^ k := Nat.mul_le_mul_right _ (by have := Nat.mod_lt x (show 0 < 128 by decide); omega)
  rw [Nat.pow_succ]; omega

set_option maxHeartbeats 1000000 in
theorem readnum_any (a : Option Addr) (n c : Nat) (l : List UInt8) (w : World) (h : Bs w a n c l) :
    Calls Try.prog 95 #[.slice a n c] w fun e w' => e = .returned (.tuple #[.int .u64 (Codec.dec l).1, .int .i64 (Codec.dec l).2.1, .int .i64 (Codec.dec l).2.2]) ∧ w = w' := by
  have hle := h.le.1
  have HN := Lib.hid h.1
  go_enter Try.func95, Try.ntmps95
  go_wp2
  go_loop [5, 10] (fun v i => ∃ (k u : Nat), k ≤ n ∧ k ≤ 9 ∧ i = .int .i64 k ∧ v = .int .u64 u ∧ u < 128 ^ k ∧ Codec.dec l = Codec.decF k u (l.drop k)) (fun _ i => n - (intOf i).toNat)
  case atStart => exact ⟨0, 0, by omega, by omega, rfl, rfl, by simp, rfl⟩
  case round =>
    obtain ⟨k, u, hk, hk9, rfl, rfl, hu, hd⟩ := hrel
    have HU := Lib.hid hu
    by_cases hlt : k < n
    · rw [dec_step (by rw [h.1]; exact hlt)] at hd
      have HD := Lib.hid hd
      clear hu hd
      obtain ⟨b, off, rfl, hc⟩ := h.byte hlt
      have hcb := (nth l k).toNat_lt
      by_cases w1 : k = 9 ∧ 1 < (nth l k).toNat
      · have HF := Lib.hid (HD.out.trans (if_pos w1))
        obtain ⟨rfl, w1'⟩ := w1
        have e2 : decide ((1 : Int) < n8 (nth l 9)) = true := n8_gt_lit (k := 1) w1'
        go_wp2
        go_ret3
        exact ⟨by rw [HF.out]; rfl, rfl⟩
      · have HD2 := Lib.hid (HD.out.trans (if_neg w1))
        have hx9 : k = 9 → (nth l k).toNat % 128 ≤ 1 := by intro e; omega
        have HO := Lib.hid (or_step (c := nth l k) HU.out hk9 hx9)
        have HX := Lib.hid hx9
        have HW := Lib.hid w1
        clear hx9 w1
        by_cases w2 : (nth l k).toNat < 128
        · have e3 : decide (n8 (nth l k) < 128) = true := n8_lt_lit (k := 128) w2
          have HD3 := Lib.hid (HD2.out.trans (if_pos w2))
          by_cases w3 : (nth l k).toNat = 0
          · have e4 : (nth l k == 0) = true := by rw [beq_iff_eq]; exact UInt8.toNat_inj.1 w3
            have e2 : decide ((1 : Int) < n8 (nth l k)) = false := n8_ngt_lit (k := 1) (by omega)
            have W3 := Lib.hid w3; clear w3
            by_cases w4 : 0 < k
            · have HF := Lib.hid (HD3.out.trans (if_pos ⟨W3.out, w4⟩))
              have e5 : decide ((0 : Int) < (k : Int)) = true := by simp; omega
              cases e1 : ((k : Int) == 9)
              all_goals
                go_wp2
                go_ret3
                exact ⟨by rw [HF.out]; rfl, rfl⟩
            · have e5 : decide ((0 : Int) < (k : Int)) = false := by simp; omega
              have e1 : ((k : Int) == 9) = false := by simp; omega
              have HF := Lib.hid (HD3.out.trans (if_neg (by omega)))
              go_wp2
              go_ret3
              refine ⟨?_, rfl⟩
              obtain rfl : k = 0 := by omega
              have hz : u = 0 := by have := HU.out; simpa using this
              have hx : nth l 0 = 0 := by simpa using e4
              rw [HF.out, hz, hx]
              rfl
          · have HF := Lib.hid (HD3.out.trans (if_neg (by omega)))
            have e4 : (nth l k == 0) = false := by rw [beq_eq_false_iff_ne]; intro e; rw [e] at w3; exact w3 rfl
            cases e1 : ((k : Int) == 9)
            · go_wp2
              go_ret3
              refine ⟨?_, rfl⟩
              rw [HF.out, HO.out]
              rfl
            · have e2 : decide ((1 : Int) < n8 (nth l k)) = false := n8_ngt_lit (k := 1) (by have := HW.out; simp at e1; omega)
              go_wp2
              go_ret3
              refine ⟨?_, rfl⟩
              rw [HF.out, HO.out]
              rfl
        · have HF := Lib.hid (HD2.out.trans (if_neg w2))
          have e3 : decide (n8 (nth l k) < 128) = false := n8_nlt_lit (k := 128) (by omega)
          have hk8 : k < 9 := by have := HW.out; omega
          have e1 : ((k : Int) == 9) = false := by simp; omega
          have HG := Lib.hid (dec_grow (x := (nth l k).toNat) HU.out)
          go_wp2
          go_round
          case rel => exact ⟨k + 1, _, by omega, by omega, by go_num, by rw [HO.out], HG.out, HF.out⟩
          case measure => simp [intOf]; omega
    · obtain rfl : k = n := by omega
      have hd' : Codec.dec l = (0, 0, 11) := by rw [hd, ← HN.out, List.drop_length]; rfl
      have HF := Lib.hid hd'
      clear hd hd' hu
      go_wp2
      go_ret3
      exact ⟨by rw [HF.out]; rfl, rfl⟩

end Go.Proofs.Ytchdmjnhjonddaa
