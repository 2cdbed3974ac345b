/- The reference's Unit, Cauchy. -/
import Derived.Test.YtppgbapfmijboaaRgI
namespace Go.Proofs.Ytppgbapfmijboaa
open Go.RowKit Go.Deep

def MatP (R C : Nat) (Z : Nat → Nat → UInt8) (w : World) (e : Ending) (w' : World) : Prop :=
  (∃ g c bl cp, e = .returned (.tuple #[.slice (some ⟨g, 0, none⟩) R c, .int .i64 0]) ∧ R ≤ c ∧ c ≤ maxLen ∧ My w' w.heap.size g R C bl cp Z) ∧ Below w.heap.size w w'
theorem refunit_err (r : Int) (w : World) (h : ¬ (1 ≤ r ∧ r ≤ 255)) :
    Calls Try.prog 58 #[.int .i64 r] w fun e w' => e = .returned (.tuple #[.slice none 0 0, .int .i64 1]) ∧ w = w' := by
  go_enter Try.func58, Try.ntmps58
  by_cases h1 : r < 1
  · have t1 : decide (r < 1) = true := decide_eq_true h1
    clear h h1
    go_wp2
    go_ret2
    exact ⟨rfl, rfl⟩
  · have t1 : decide (r < 1) = false := decide_eq_false h1
    have t2 : decide (255 < r) = true := decide_eq_true (by omega)
    clear h h1
    go_wp2
    go_ret2
    exact ⟨rfl, rfl⟩
set_option maxHeartbeats 1000000 in
theorem refunit_any (R : Nat) (w : World) (hR : 1 ≤ R) (hR2 : R ≤ 255) :
    Calls Try.prog 58 #[.int .i64 R] w (MatP R R Gf.one w) := by
  have t1 : decide ((R : Int) < 1) = false := decide_eq_false (by omega)
  have t3 : decide ((255 : Int) < R) = false := decide_eq_false (by omega)
  have HR := Lib.hid (And.intro hR hR2)
  have hR2 : R ≤ 1000 := by omega
  clear hR
  go_enter Try.func58, Try.ntmps58
  go_wp2_with fail
  refine (blank_any R R w HR.out.1 (by have := HR.out; omega) (by have := HR.out; omega)).mono ?_
  rintro e w1 ⟨⟨g, c, bl, cp, rfl, h1, h2, hm⟩, hb⟩
  have HM := Lib.hid hm
  have HB := Lib.hid hb
  have HC := Lib.hid (And.intro h1 h2)
  clear hm hb h1 h2
  go_wp2_with fail
  go_loopw [5] (fun i wr => ∃ k : Nat, k ≤ R ∧ i = .int .i64 k ∧ Below w.heap.size w wr ∧ My wr w.heap.size g R R bl cp (fun i j => if i < k then Gf.one i j else 0)) (fun i _ => R - (intOf i).toNat)
  case atStart => exact ⟨0, Nat.zero_le _, rfl, HB.out, HM.out.congr (fun i j _ _ => by simp)⟩
  case round =>
    obtain ⟨k, hk, rfl, hb, hm⟩ := hrel
    by_cases hlt : k < R
    · have c1 : wr.cell? ⟨g, k, none⟩ = some (.slice (some ⟨bl k, 0, none⟩) R (cp k)) := hm.top.cell hlt
      have c2 := (hm.row k hlt).2.2.cell hlt
      have c3 := (hm.row k hlt).2.2.frozen k
      have hmS := (hm.set hlt k 1).congr (Y := fun i j => if i < k + 1 then Gf.one i j else 0) (fun i j hi hj => by
        by_cases e1 : i = k
        · subst e1
          by_cases e2 : j = i
          · subst e2; simp [Gf.one]
          · simp [Gf.one, e2, Ne.symm e2]
        · by_cases e2 : i < k
          · simp [e1, e2, Nat.lt_succ_of_lt e2]
          · simp [e1, e2]; omega)
      have HS := Lib.hid hmS
      have HBS := Lib.hid (hb.setCell (hm.row k hlt).1 _ : Below w.heap.size w (wr.setCell ⟨bl k, k, none⟩ (.int .u8 (n8 1))))
      clear hm hb hmS
      go_wp2
      go_roundw
      case rel => exact ⟨k + 1, by omega, by go_num, HBS.out, HS.out⟩
      case measure => simp [intOf]; omega
    · obtain rfl : k = R := by omega
      have HP : Hid (MatP k k Gf.one w (.returned (.tuple #[.slice (some ⟨g, 0, none⟩) k c, .int .i64 0])) wr) :=
        Lib.hid ⟨⟨g, c, bl, cp, rfl, HC.out.1, HC.out.2, hm.congr (fun i j hi _ => by simp [hi])⟩, hb⟩
      clear hm hb
      go_wp2
      go_ret2
      exact HP.out

theorem inv_zero : Gf.inv 0 = 0 := by decide +kernel
theorem cau_inv (C i j : Nat) : Gf.cau C i j = Gf.inv ((UInt8.ofNat C + UInt8.ofNat i) ^^^ UInt8.ofNat j) := by
  unfold Gf.cau Gf.div
  split
  · rename_i h; rw [h, inv_zero]
  · rw [Gf.one_mul]
theorem refcauchy_err (r c : Int) (w : World) (h : ¬ Gf.CauFit r c) (hr : -9223372036854775808 ≤ r ∧ r ≤ 9223372036854775807) (hc : -9223372036854775808 ≤ c ∧ c ≤ 9223372036854775807) :
    Calls Try.prog 55 #[.int .i64 r, .int .i64 c] w fun e w' => e = .returned (.tuple #[.slice none 0 0, .int .i64 1]) ∧ w = w' := by
  by_cases h1 : r < 1
  · have t1 : decide (r < 1) = true := decide_eq_true h1
    clear hr hc h h1
    go_enter Try.func55, Try.ntmps55
    go_wp2
    go_ret2
    exact ⟨rfl, rfl⟩
  have t1 : decide (r < 1) = false := decide_eq_false h1
  by_cases h2 : c < 1
  · have t2 : decide (c < 1) = true := decide_eq_true h2
    clear hr hc h h1 h2
    go_enter Try.func55, Try.ntmps55
    go_wp2
    go_ret2
    exact ⟨rfl, rfl⟩
  have t2 : decide (c < 1) = false := decide_eq_false h2
  by_cases h3 : 256 < r
  · have t3 : decide (256 < r) = true := decide_eq_true h3
    clear hr hc h h1 h2 h3
    go_enter Try.func55, Try.ntmps55
    go_wp2
    go_ret2
    exact ⟨rfl, rfl⟩
  have t3 : decide (256 < r) = false := decide_eq_false h3
  have t5 : decide (256 - r < c) = true := decide_eq_true (by
    rcases Int.lt_or_le 256 (r + c) with h5 | h5
    · omega
    · exact absurd ⟨by omega, by omega, by omega⟩ h)
  have hb1 : 0 ≤ r ∧ r ≤ 1000 := by omega
  clear hr hc h h1 h2 h3
  go_enter Try.func55, Try.ntmps55
  go_wp2
  go_ret2
  exact ⟨rfl, rfl⟩
@[go_sem] theorem to8_add (a b : Nat) : Value.int .u8 (((a : Int) + (b : Int)) % 256) = .int .u8 (n8 (UInt8.ofNat a + UInt8.ofNat b)) := by
  have h := to8 (a + b); rwa [Int.natCast_add, UInt8.ofNat_add] at h
theorem wrap8_nat (n : Nat) : IntKind.u8.wrap (n : Int) = n8 (UInt8.ofNat n) := by
  unfold n8; rw [IntKind.wrap_u8, UInt8.toNat_ofNat']; rfl
theorem cau_spell {C k j : Nat} (h : C + k ≤ 100000) : bits .xor .u8 (IntKind.u8.wrap (IntKind.i64.wrap ((C : Int) + (k : Int)))) (IntKind.u8.wrap (j : Int)) = n8 ((UInt8.ofNat C + UInt8.ofNat k) ^^^ UInt8.ofNat j) := by
  have e : IntKind.i64.wrap ((C : Int) + (k : Int)) = ((C + k : Nat) : Int) := by rw [IntKind.wrap_i64]; omega
  rw [e, wrap8_nat, wrap8_nat, xor8, UInt8.ofNat_add]
set_option maxHeartbeats 1000000 in
theorem refcauchy_any (R C : Nat) (w : World) (hR : 1 ≤ R) (hC : 1 ≤ C) (hRC : R + C ≤ 256) :
    Calls Try.prog 55 #[.int .i64 R, .int .i64 C] w (MatP R C (Gf.cau C) w) := by
  have t1 : decide ((R : Int) < 1) = false := decide_eq_false (by omega)
  have t2 : decide ((C : Int) < 1) = false := decide_eq_false (by omega)
  have t3 : decide ((256 : Int) < R) = false := decide_eq_false (by omega)
  have t5 : decide (256 - (R : Int) < C) = false := decide_eq_false (by omega)
  have HRC := Lib.hid (And.intro (And.intro hR hC) hRC)
  have hR2 : R ≤ 1000 := by omega
  have hC2 : C ≤ 1000 := by omega
  clear hRC hR hC
  go_enter Try.func55, Try.ntmps55
  go_wp2_with fail
  refine (blank_any R C w HRC.out.1.1 (by have := HRC.out; omega) (by have := HRC.out; omega)).mono ?_
  rintro e w1 ⟨⟨g, c, bl, cp, rfl, h1, h2, hm⟩, hb⟩
  have HM := Lib.hid hm
  have HB := Lib.hid hb
  have HC := Lib.hid (And.intro h1 h2)
  clear hm hb h1 h2 t1 t2 t3 t5
  go_wp2_with fail
  go_loopw [7] (fun i wr => ∃ k : Nat, k ≤ R ∧ i = .int .i64 k ∧ Below w.heap.size w wr ∧ My wr w.heap.size g R C bl cp (fun i j => if i < k then Gf.cau C i j else 0)) (fun i _ => R - (intOf i).toNat)
  case atStart => exact ⟨0, Nat.zero_le _, rfl, HB.out, HM.out.congr (fun i j _ _ => by simp)⟩
  case round =>
    obtain ⟨k, hk, rfl, hb, hm⟩ := hrel
    by_cases hlt : k < R
    · have HB2 := Lib.hid hb
      have HM2 := Lib.hid hm
      clear hb hm
      go_wp2_with fail
      go_loopw [8] (fun i wi => ∃ c : Nat, c ≤ C ∧ i = .int .i64 c ∧ Below w.heap.size w wi ∧ My wi w.heap.size g R C bl cp (fun i j => if i < k ∨ i = k ∧ j < c then Gf.cau C i j else 0)) (fun i _ => C - (intOf i).toNat)
      case atStart => exact ⟨0, Nat.zero_le _, rfl, HB2.out, HM2.out.congr (fun i j _ _ => by simp)⟩
      case round =>
        obtain ⟨j, hj, rfl, hb, hm⟩ := hrel
        by_cases hlj : j < C
        · have c1 : wr.cell? ⟨g, k, none⟩ = some (.slice (some ⟨bl k, 0, none⟩) C (cp k)) := hm.top.cell hlt
          have c2 := (hm.row k hlt).2.2.cell hlj
          have c3 := (hm.row k hlt).2.2.frozen j
          have hmS := (hm.set hlt j (Gf.inv ((UInt8.ofNat C + UInt8.ofNat k) ^^^ UInt8.ofNat j))).congr (Y := fun i c => if i < k ∨ i = k ∧ c < j + 1 then Gf.cau C i c else 0) (fun i c hi hc => by
            by_cases e1 : i = k
            · subst e1
              by_cases e2 : c = j
              · subst e2; simp [cau_inv]
              · by_cases e3 : c < j
                · simp [e2, e3, Nat.lt_succ_of_lt e3]
                · simp [e2, e3]; omega
            · simp [e1])
          have HS := Lib.hid hmS
          have HBS := Lib.hid (hb.setCell (hm.row k hlt).1 _ : Below w.heap.size w (wr.setCell ⟨bl k, j, none⟩ (.int .u8 (n8 (Gf.inv ((UInt8.ofNat C + UInt8.ofNat k) ^^^ UInt8.ofNat j))))))
          clear hm hb hmS
          have hk2 : k ≤ 1000 := by omega
          have hj2 : j ≤ 1000 := by omega
          have hcall : ∀ W, Calls Try.prog 74 #[.int .u8 (bits .xor .u8 (IntKind.u8.wrap (IntKind.i64.wrap ((C : Int) + (k : Int)))) (IntKind.u8.wrap (j : Int)))] W fun e w' => e = .returned (.int .u8 (n8 (Gf.inv ((UInt8.ofNat C + UInt8.ofNat k) ^^^ UInt8.ofNat j)))) ∧ W = w' := fun W => by
            rw [cau_spell (by omega)]; exact inverse_any _ _
          have HCA := Lib.hid hcall
          clear hcall
          go_wp2_with fail
          go_region_with (go_at_call 74; (with_reducible refine (HCA.out _).mono ?_); rintro e w' ⟨rfl, rfl⟩)
          all_goals go_wp2
          all_goals go_roundw
          all_goals first | (simp [intOf]; omega) | exact ⟨j + 1, by omega, by go_num, HBS.out.drew, HS.out.drew⟩
        · obtain rfl : j = C := by omega
          have HM3 := Lib.hid (hm.congr (Y := fun i c => if i < k + 1 then Gf.cau j i c else 0) (fun i c _ hc => by
            by_cases e1 : i = k
            · simp [e1, hc]
            · by_cases e2 : i < k
              · simp [e2, Nat.lt_succ_of_lt e2]
              · simp [e1, e2]; omega))
          have HB3 := Lib.hid hb
          clear hm hb
          go_wp2
          go_roundw
          case rel => exact ⟨k + 1, by omega, by go_num, HB3.out, HM3.out⟩
          case measure => simp [intOf]; omega
    · obtain rfl : k = R := by omega
      have HP : Hid (MatP k C (Gf.cau C) w (.returned (.tuple #[.slice (some ⟨g, 0, none⟩) k c, .int .i64 0])) wr) :=
        Lib.hid ⟨⟨g, c, bl, cp, rfl, HC.out.1, HC.out.2, hm.congr (fun i j hi _ => by simp [hi])⟩, hb⟩
      clear hm hb
      go_wp2
      go_ret2
      exact HP.out
end Go.Proofs.Ytppgbapfmijboaa
