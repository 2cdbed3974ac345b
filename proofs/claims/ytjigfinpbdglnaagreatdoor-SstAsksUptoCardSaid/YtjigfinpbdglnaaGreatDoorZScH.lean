/- The reference's readers. -/
import Derived.Test.YtjigfinpbdglnaaGreatDoorZScR
set_option linter.unusedVariables false
set_option linter.unusedSimpArgs false
namespace Go.Proofs.YtjigfinpbdglnaaGreatDoor
open Go.RowKit

set_option maxHeartbeats 1000000 in
theorem refreadbytes_nat (a : Option Addr) (n c : Nat) (l : List UInt8) (m : Nat) (w : World) (h : Bs w a n c l) (hm : m ≤ 9223372036854775807) :
    Calls Tryz.prog 86 #[.slice a n c, .int .i64 (m : Int)] w (RetR w (Codec.rdBytes l (m : Int))) := by
  have hle := h.le.1
  have hlc := h.2.1
  have HL := Lib.hid h.1
  obtain ⟨v, k, er, hd⟩ : ∃ v k er, Codec.dec l = (v, k, er) := ⟨_, _, _, rfl⟩
  have HD := Lib.hid hd
  have t0 : decide ((m : Int) < 0) = false := decide_eq_false (by omega)
  by_cases h1 : er = 0
  · subst h1
    have hb := Codec.dec_back hd
    rw [HL.out] at hb
    obtain ⟨_, hk0, hkn, hk10, hv64⟩ := hb
    have HV := Lib.hid hv64
    clear hv64
    by_cases h2 : m < v
    · have hr : Codec.rdBytes l (m : Int) = ([], 0, 3) := by
        unfold Codec.rdBytes; rw [HD.out]; dsimp only; rw [if_neg (by simp), if_pos (by omega)]
      have HR := Lib.hid hr
      have t2 : decide (m < v) = true := by simp; omega
      clear hd hr
      go_enter Tryz.func86, Tryz.ntmps86
      go_wp2_with fail
      refine (refreadnum_any _ _ _ l _ h).mono ?_
      rintro e w1 ⟨rfl, rfl⟩
      rw [HD.out]
      go_wp2
      go_ret3
      exact ⟨_, _, _, by rw [HR.out]; rfl, by rw [HR.out]; exact Bs.nil _, Below.refl _ _⟩
    · have t2 : decide (m < v) = false := by simp; omega
      by_cases h3 : n - k < v
      · have hr : Codec.rdBytes l (m : Int) = ([], 0, 11) := by
          unfold Codec.rdBytes; rw [HD.out, HL.out]; dsimp only; rw [if_neg (by simp), if_neg (by omega), if_pos (by omega)]
        have HR := Lib.hid hr
        have t3 : decide ((n : Int) - (k : Int) < (v : Int)) = true := by simp; omega
        clear hd hr
        go_enter Tryz.func86, Tryz.ntmps86
        go_wp2_with fail
        refine (refreadnum_any _ _ _ l _ h).mono ?_
        rintro e w1 ⟨rfl, rfl⟩
        rw [HD.out]
        go_wp2
        go_ret3
        exact ⟨_, _, _, by rw [HR.out]; rfl, by rw [HR.out]; exact Bs.nil _, Below.refl _ _⟩
      · have t3 : decide ((n : Int) - (k : Int) < (v : Int)) = false := by simp; omega
        have hr : Codec.rdBytes l (m : Int) = ((l.drop k).take v, k + v, 0) := by
          unfold Codec.rdBytes; rw [HD.out, HL.out]; dsimp only; rw [if_neg (by simp), if_neg (by omega), if_neg (by omega)]
        have HR := Lib.hid hr
        have hc4 : k + v ≤ c := by omega
        clear hd hr
        have hs := fun w => slice_lh a n c (lo := (k : Int)) (hi := (k : Int) + (v : Int)) (lo' := k) (hi' := k + v) rfl (by omega) (by omega) hc4 w
        rw [show k + v - k = v by omega] at hs
        have hp := h.sub (lo := k) (hi := k + v) (by omega) (by omega)
        rw [show k + v - k = v by omega] at hp
        go_enter Tryz.func86, Tryz.ntmps86
        go_wp2_with fail
        refine (refreadnum_any _ _ _ l _ h).mono ?_
        rintro e w1 ⟨rfl, rfl⟩
        rw [HD.out]
        go_wp2
        go_ret3
        exact ⟨_, _, _, by rw [HR.out]; rfl, by rw [HR.out]; exact hp, Below.refl _ _⟩
  · have hr : Codec.rdBytes l (m : Int) = ([], 0, er) := by unfold Codec.rdBytes; rw [HD.out]; simp [h1]
    have HR := Lib.hid hr
    have t1 : ((er : Int) != 0) = true := by simp; omega
    clear hd hr
    go_enter Tryz.func86, Tryz.ntmps86
    go_wp2_with fail
    refine (refreadnum_any _ _ _ l _ h).mono ?_
    rintro e w1 ⟨rfl, rfl⟩
    rw [HD.out]
    go_wp2
    go_ret3
    exact ⟨_, _, _, by rw [HR.out]; rfl, by rw [HR.out]; exact Bs.nil _, Below.refl _ _⟩

set_option maxHeartbeats 1000000 in
theorem refreadbytes_neg (a : Option Addr) (n c : Nat) (l : List UInt8) (most : Int) (w : World) (h : Bs w a n c l) (hm : most < 0) :
    Calls Tryz.prog 86 #[.slice a n c, .int .i64 most] w (RetR w (Codec.rdBytes l most)) := by
  have hle := h.le.1
  have hlc := h.2.1
  have HL := Lib.hid h.1
  obtain ⟨v, k, er, hd⟩ : ∃ v k er, Codec.dec l = (v, k, er) := ⟨_, _, _, rfl⟩
  have HD := Lib.hid hd
  have t0 : decide (most < 0) = true := decide_eq_true hm
  by_cases h1 : er = 0
  · subst h1
    have hb := Codec.dec_back hd
    rw [HL.out] at hb
    obtain ⟨_, hk0, hkn, hk10, hv64⟩ := hb
    have HV := Lib.hid hv64
    clear hv64
    by_cases h2 : 0 < v
    · have hr : Codec.rdBytes l most = ([], 0, 3) := by
        unfold Codec.rdBytes; rw [HD.out]; dsimp only; rw [if_neg (by simp), if_pos (by omega)]
      have HR := Lib.hid hr
      have t2 : decide ((0 : Int) < (v : Int)) = true := by simp; omega
      clear hd hr
      go_enter Tryz.func86, Tryz.ntmps86
      go_wp2_with fail
      refine (refreadnum_any _ _ _ l _ h).mono ?_
      rintro e w1 ⟨rfl, rfl⟩
      rw [HD.out]
      go_wp2
      go_ret3
      exact ⟨_, _, _, by rw [HR.out]; rfl, by rw [HR.out]; exact Bs.nil _, Below.refl _ _⟩
    · have t2 : decide ((0 : Int) < (v : Int)) = false := by simp; omega
      by_cases h3 : n - k < v
      · have hr : Codec.rdBytes l most = ([], 0, 11) := by
          unfold Codec.rdBytes; rw [HD.out, HL.out]; dsimp only; rw [if_neg (by simp), if_neg (by omega), if_pos (by omega)]
        have HR := Lib.hid hr
        have t3 : decide ((n : Int) - (k : Int) < (v : Int)) = true := by simp; omega
        clear hd hr
        go_enter Tryz.func86, Tryz.ntmps86
        go_wp2_with fail
        refine (refreadnum_any _ _ _ l _ h).mono ?_
        rintro e w1 ⟨rfl, rfl⟩
        rw [HD.out]
        go_wp2
        go_ret3
        exact ⟨_, _, _, by rw [HR.out]; rfl, by rw [HR.out]; exact Bs.nil _, Below.refl _ _⟩
      · have t3 : decide ((n : Int) - (k : Int) < (v : Int)) = false := by simp; omega
        have hr : Codec.rdBytes l most = ((l.drop k).take v, k + v, 0) := by
          unfold Codec.rdBytes; rw [HD.out, HL.out]; dsimp only; rw [if_neg (by simp), if_neg (by omega), if_neg (by omega)]
        have HR := Lib.hid hr
        have hc4 : k + v ≤ c := by omega
        clear hd hr
        have hs := fun w => slice_lh a n c (lo := (k : Int)) (hi := (k : Int) + (v : Int)) (lo' := k) (hi' := k + v) rfl (by omega) (by omega) hc4 w
        rw [show k + v - k = v by omega] at hs
        have hp := h.sub (lo := k) (hi := k + v) (by omega) (by omega)
        rw [show k + v - k = v by omega] at hp
        go_enter Tryz.func86, Tryz.ntmps86
        go_wp2_with fail
        refine (refreadnum_any _ _ _ l _ h).mono ?_
        rintro e w1 ⟨rfl, rfl⟩
        rw [HD.out]
        go_wp2
        go_ret3
        exact ⟨_, _, _, by rw [HR.out]; rfl, by rw [HR.out]; exact hp, Below.refl _ _⟩
  · have hr : Codec.rdBytes l most = ([], 0, er) := by unfold Codec.rdBytes; rw [HD.out]; simp [h1]
    have HR := Lib.hid hr
    have t1 : ((er : Int) != 0) = true := by simp; omega
    clear hd hr
    go_enter Tryz.func86, Tryz.ntmps86
    go_wp2_with fail
    refine (refreadnum_any _ _ _ l _ h).mono ?_
    rintro e w1 ⟨rfl, rfl⟩
    rw [HD.out]
    go_wp2
    go_ret3
    exact ⟨_, _, _, by rw [HR.out]; rfl, by rw [HR.out]; exact Bs.nil _, Below.refl _ _⟩

theorem refreadbytes_any (a : Option Addr) (n c : Nat) (l : List UInt8) (most : Int) (w : World) (h : Bs w a n c l) (hm2 : most ≤ 9223372036854775807) :
    Calls Tryz.prog 86 #[.slice a n c, .int .i64 most] w (RetR w (Codec.rdBytes l most)) := by
  by_cases h0 : most < 0
  · exact refreadbytes_neg a n c l most w h h0
  · obtain ⟨m, rfl⟩ : ∃ m : Nat, most = (m : Int) := ⟨most.toNat, by omega⟩
    exact refreadbytes_nat a n c l m w h (by omega)

theorem take4 (l : List UInt8) (h : 4 ≤ l.length) : l.take 4 = [nth l 0, nth l 1, nth l 2, nth l 3] := by
  match l, h with
  | x0 :: x1 :: x2 :: x3 :: r, _ => rfl

theorem subA_block {a : Option Addr} {c k : Nat} {x : Addr} (h : subA a c k = some x) : ∃ y, a = some y ∧ x.block = y.block := by
  unfold subA at h
  split at h
  · exact ⟨x, h, rfl⟩
  · cases a with
    | none => cases h
    | some y => cases h; exact ⟨y, rfl, by show (y.add k).block = y.block; unfold Addr.add; split <;> rfl⟩
/-- What is handed back lies in the block that was handed in. -/
def RetA (w : World) (a0 : Option Addr) (r : List UInt8 × Nat × Nat) (e : Ending) (w' : World) : Prop := ∃ a n c, e = .returned (.tuple #[.slice a n c, .int .i64 r.2.1, .int .i64 r.2.2]) ∧ Bs w' a n c r.1 ∧ Below w.heap.size w w' ∧ ∀ x, a = some x → ∃ y, a0 = some y ∧ x.block = y.block

set_option maxHeartbeats 2000000 in
theorem refreadframe_at (a : Option Addr) (n c : Nat) (l : List UInt8) (w : World) (h : Bs w a n c l) :
    Calls Tryz.prog 53 #[.slice a n c] w (RetA w a (Codec.rdFrame l)) := by
  have hle := h.le.1
  have hlc := h.2.1
  have hcc := h.le.2
  have HL := Lib.hid h.1
  obtain ⟨v, k, er, hd⟩ : ∃ v k er, Codec.dec l = (v, k, er) := ⟨_, _, _, rfl⟩
  have HD := Lib.hid hd
  by_cases h1 : er = 0
  · subst h1
    have hb := Codec.dec_back hd
    rw [HL.out] at hb
    obtain ⟨_, hk0, hkn, hk10, hv64⟩ := hb
    have HV := Lib.hid hv64
    clear hv64
    by_cases h2 : 67108864 < v
    · have hf : Codec.rdFrame l = ([], 0, 3) := by unfold Codec.rdFrame Codec.decFrame; rw [HD.out]; simp [h2]
      have HF := Lib.hid hf
      have t2 : decide ((67108864 : Int) < (v : Int)) = true := by simp; omega
      clear hd hf
      go_enter Tryz.func53, Tryz.ntmps53
      go_wp2_with fail
      refine (refreadnum_any _ _ _ l _ h).mono ?_
      rintro e w1 ⟨rfl, rfl⟩
      rw [HD.out]
      go_wp2
      go_ret3
      exact ⟨_, _, _, by rw [HF.out]; rfl, by rw [HF.out]; exact Bs.nil _, Below.refl _ _, fun x hx => by cases hx⟩
    · have t2 : decide ((67108864 : Int) < (v : Int)) = false := by simp; omega
      by_cases h3 : n - k < v + 4
      · have hf : Codec.rdFrame l = ([], 0, 11) := by unfold Codec.rdFrame Codec.decFrame; rw [HD.out, HL.out]; simp [h2, h3]
        have HF := Lib.hid hf
        clear hd hf
        by_cases h4 : n - k < 4
        · have t3 : decide ((n : Int) - (k : Int) < 4) = true := by simp; omega
          go_enter Tryz.func53, Tryz.ntmps53
          go_wp2_with fail
          refine (refreadnum_any _ _ _ l _ h).mono ?_
          rintro e w1 ⟨rfl, rfl⟩
          rw [HD.out]
          go_wp2
          go_ret3
          exact ⟨_, _, _, by rw [HF.out]; rfl, by rw [HF.out]; exact Bs.nil _, Below.refl _ _, fun x hx => by cases hx⟩
        · have t3 : decide ((n : Int) - (k : Int) < 4) = false := by simp; omega
          have t4 : decide ((n : Int) - (k : Int) - 4 < (v : Int)) = true := by simp; omega
          go_enter Tryz.func53, Tryz.ntmps53
          go_wp2_with fail
          refine (refreadnum_any _ _ _ l _ h).mono ?_
          rintro e w1 ⟨rfl, rfl⟩
          rw [HD.out]
          go_wp2
          go_ret3
          exact ⟨_, _, _, by rw [HF.out]; rfl, by rw [HF.out]; exact Bs.nil _, Below.refl _ _, fun x hx => by cases hx⟩
      · have t3 : decide ((n : Int) - (k : Int) < 4) = false := by simp; omega
        have t4 : decide ((n : Int) - (k : Int) - 4 < (v : Int)) = false := by simp; omega
        have h3' : k + 4 + v ≤ n := by omega
        have h4'' : k + 4 + v ≤ c := by omega
        have hs1 := fun w => slice_lh a n c (lo := (k : Int) + 4) (hi := (k : Int) + 4 + (v : Int)) (lo' := k + 4) (hi' := k + 4 + v) (by omega) (by omega) (by omega) h4'' w
        rw [show k + 4 + v - (k + 4) = v by omega] at hs1
        have hs2 := fun w => slice_l a n c (lo := (k : Int)) (lo' := k) rfl hkn w
        have hp := h.sub (lo := k + 4) (hi := k + 4 + v) (by omega) h3'
        rw [show k + 4 + v - (k + 4) = v by omega] at hp
        have hq := h.drop (k := k) hkn
        have e4 := take4 (l.drop k) (by rw [List.length_drop, HL.out]; omega)
        have hdec : (Codec.sum ((l.drop (k + 4)).take v) == Codec.rf4 (nth (l.drop k) 0) (nth (l.drop k) 1) (nth (l.drop k) 2) (nth (l.drop k) 3)) = decide ((l.drop k).take 4 = Codec.four (Codec.sum ((l.drop (k + 4)).take v))) := by
          rw [Bool.eq_iff_iff]
          simp only [beq_iff_eq, decide_eq_true_eq]
          rw [e4]
          exact Codec.rf4_iff _ _ _ _ _
        have hdf : Codec.decFrame l = if (l.drop k).take 4 = Codec.four (Codec.sum ((l.drop (k + 4)).take v)) then (k + 4, k + 4 + v, 0) else (0, 0, 13) := by
          unfold Codec.decFrame; rw [HD.out, HL.out]; simp [h2, h3]
        have HS := Lib.hid (hp.below (Below.refl _ _).drew)
        have HQ := Lib.hid (hq.below (Below.refl _ _).drew)
        have hnk : 4 ≤ n - k := by omega
        have HP := Lib.hid hp
        by_cases h5 : (l.drop k).take 4 = Codec.four (Codec.sum ((l.drop (k + 4)).take v))
        · have hr : Codec.rdFrame l = ((l.drop (k + 4)).take v, k + 4 + v, 0) := by
            unfold Codec.rdFrame; rw [hdf, if_pos h5]; simp
          have HF := Lib.hid hr
          rw [decide_eq_true h5] at hdec
          have EQ := Lib.hid hdec
          clear hd hdf hr hdec h5 e4 hq hp
          go_enter Tryz.func53, Tryz.ntmps53
          go_wp2_with fail
          refine (refreadnum_any _ _ _ l _ h).mono ?_
          rintro e w1 ⟨rfl, rfl⟩
          rw [HD.out]
          go_wp2_with fail
          go_region_with (first | (go_at_call 50; refine (refsum_any _ _ _ _ _ HS.out).mono ?_; rintro e w1 ⟨rfl, rfl⟩) | (go_at_call 51; refine (readfour_any _ _ _ _ _ HQ.out hnk).mono ?_; rintro e w3 ⟨rfl, hb3⟩))
          go_wp2
          · have hx : (!(Codec.sum (List.take v (List.drop (k + 4) l)) == Codec.rf4 (nth (List.drop k l) 0) (nth (List.drop k l) 1) (nth (List.drop k l) 2) (nth (List.drop k l) 3))) = true := by assumption
            rw [EQ.out] at hx
            cases hx
          · go_ret3
            have hb4 := (Below.refl w.heap.size w).drew.trans hb3
            exact ⟨_, _, _, by rw [HF.out]; rfl, by rw [HF.out]; exact HP.out.below hb4, hb4, fun x hx => subA_block hx⟩
        · have hr : Codec.rdFrame l = ([], 0, 13) := by
            unfold Codec.rdFrame; rw [hdf, if_neg h5]; simp
          have HF := Lib.hid hr
          rw [decide_eq_false h5] at hdec
          have EQ := Lib.hid hdec
          clear hd hdf hr hdec h5 e4 hq hp
          go_enter Tryz.func53, Tryz.ntmps53
          go_wp2_with fail
          refine (refreadnum_any _ _ _ l _ h).mono ?_
          rintro e w1 ⟨rfl, rfl⟩
          rw [HD.out]
          go_wp2_with fail
          go_region_with (first | (go_at_call 50; refine (refsum_any _ _ _ _ _ HS.out).mono ?_; rintro e w1 ⟨rfl, rfl⟩) | (go_at_call 51; refine (readfour_any _ _ _ _ _ HQ.out hnk).mono ?_; rintro e w3 ⟨rfl, hb3⟩))
          go_wp2
          · go_ret3
            exact ⟨_, _, _, by rw [HF.out]; rfl, by rw [HF.out]; exact Bs.nil _, (Below.refl _ _).drew.trans hb3, fun x hx => by cases hx⟩
          · have hx : (!(Codec.sum (List.take v (List.drop (k + 4) l)) == Codec.rf4 (nth (List.drop k l) 0) (nth (List.drop k l) 1) (nth (List.drop k l) 2) (nth (List.drop k l) 3))) = false := by assumption
            rw [EQ.out] at hx
            cases hx
  · have hf : Codec.rdFrame l = ([], 0, er) := by unfold Codec.rdFrame Codec.decFrame; rw [HD.out]; simp [h1]
    have HF := Lib.hid hf
    have t1 : ((er : Int) != 0) = true := by simp; omega
    clear hd hf
    go_enter Tryz.func53, Tryz.ntmps53
    go_wp2_with fail
    refine (refreadnum_any _ _ _ l _ h).mono ?_
    rintro e w1 ⟨rfl, rfl⟩
    rw [HD.out]
    go_wp2
    go_ret3
    exact ⟨_, _, _, by rw [HF.out]; rfl, by rw [HF.out]; exact Bs.nil _, Below.refl _ _, fun x hx => by cases hx⟩
theorem refreadframe_any (a : Option Addr) (n c : Nat) (l : List UInt8) (w : World) (h : Bs w a n c l) :
    Calls Tryz.prog 53 #[.slice a n c] w (RetR w (Codec.rdFrame l)) :=
  (refreadframe_at a n c l w h).mono fun _ _ ⟨a', n', c', h1, h2, h3, _⟩ => ⟨a', n', c', h1, h2, h3⟩
end Go.Proofs.YtjigfinpbdglnaaGreatDoor
