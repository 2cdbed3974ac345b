/- Equal; frames that are read. -/
import Derived.Test.YtfgifndpglgjkaaGreatDoorZScA
import Derived.Deep.RegionWith
set_option linter.unusedVariables false
set_option linter.unusedSimpArgs false
namespace Go.Proofs.YtfgifndpglgjkaaGreatDoor
open Go.RowKit

theorem take_ne {l l' : List UInt8} {k : Nat} (hl : k < l.length) (hl' : k < l'.length) (h : (nth l k == nth l' k) = false) : decide (l = l') = false := by
  rw [decide_eq_false_iff_not]
  intro e
  subst e
  simp at h
theorem take_grow {l l' : List UInt8} {k : Nat} (hl : k < l.length) (hl' : k < l'.length) (ht : l.take k = l'.take k) (h : (nth l k == nth l' k) = true) : l.take (k + 1) = l'.take (k + 1) := by
  rw [take_snoc l hl, take_snoc l' hl', ht, beq_iff_eq.1 h]

set_option maxHeartbeats 1000000 in
theorem equal_any (a a' : Option Addr) (n c n' c' : Nat) (l l' : List UInt8) (w : World) (h : Bs w a n c l) (h' : Bs w a' n' c' l') :
    Calls Tryz.prog 110 #[.slice a n c, .slice a' n' c'] w fun e w' => e = .returned (.bool (decide (l = l'))) ∧ Below w.heap.size w w' := by
  have hle := h.le.1
  have hle' := h'.le.1
  have HL := Lib.hid h.1
  have HL' := Lib.hid h'.1
  by_cases hn : n = n'
  · subst hn
    go_enter Tryz.func110, Tryz.ntmps110
    go_wp2
    go_loopw [13] (fun i wr => ∃ k : Nat, k ≤ n ∧ i = .int .i64 k ∧ l.take k = l'.take k ∧ Below w.heap.size w wr) (fun i _ => n - (intOf i).toNat)
    case atStart => exact ⟨0, by omega, rfl, rfl, Below.refl _ _⟩
    case round =>
      obtain ⟨k, hk, rfl, ht, hb⟩ := hrel
      have HT := Lib.hid ht
      clear ht
      by_cases hlt : k < n
      · obtain ⟨b, off, rfl, hc⟩ := (h.below hb).byte hlt
        obtain ⟨b', off', rfl, hc'⟩ := (h'.below hb).byte hlt
        cases he : (nth l k == nth l' k)
        · have hF := Lib.hid (take_ne (by rw [HL.out]; exact hlt) (by rw [HL'.out]; exact hlt) he)
          go_wp2
          go_quiet (fail)
          go_wp2
          go_ret
          exact ⟨by rw [hF.out]; rfl, below_drewN hb _⟩
        · have hG := Lib.hid (take_grow (by rw [HL.out]; exact hlt) (by rw [HL'.out]; exact hlt) HT.out he)
          go_wp2
          go_quiet (fail)
          go_wp2
          go_roundw
          case rel => exact ⟨k + 1, by omega, by go_num, hG.out, below_drewN hb _⟩
          case measure => simp [intOf]; omega
      · obtain rfl : k = n := by omega
        go_wp2
        go_ret
        refine ⟨?_, hb⟩
        have := HT.out
        rw [← HL.out, List.take_length, HL.out, ← HL'.out, List.take_length] at this
        rw [this]
        simp
  · have hN : ((n : Int) != (n' : Int)) = true := by simp; omega
    go_enter Tryz.func110, Tryz.ntmps110
    go_wp2
    go_ret
    refine ⟨?_, Below.refl _ _⟩
    have : decide (l = l') = false := by
      rw [decide_eq_false_iff_not]; intro e; subst e; exact hn (HL.out.symm.trans HL'.out)
    rw [this]
    rfl

set_option maxHeartbeats 2000000 in
theorem frameread_any (a : Option Addr) (n c : Nat) (l : List UInt8) (w : World) (h : Bs w a n c l) :
    Calls Tryz.prog 77 #[.slice a n c] w fun e w' => e = .returned (.tuple #[.int .i64 (Codec.decFrame l).1, .int .i64 (Codec.decFrame l).2.1, .int .i64 (Codec.decFrame l).2.2]) ∧ Below w.heap.size w w' := by
  have hle := h.le.1
  have hlc := h.2.1
  have hcc := h.le.2
  have HL := Lib.hid h.1
  obtain ⟨v, k, er, hd⟩ : ∃ v k er, Codec.dec l = (v, k, er) := ⟨_, _, _, rfl⟩
  have HD := Lib.hid hd
  by_cases h1 : er = 0
  · subst h1
    have hb := Codec.dec_back hd
    rw [HL.out] at hb
    obtain ⟨_, hk0, hkn, hk10, hv64⟩ := hb
    have HV := Lib.hid hv64
    clear hv64
    by_cases h2 : 67108864 < v
    · have hf : Codec.decFrame l = (0, 0, 3) := by unfold Codec.decFrame; rw [HD.out]; simp [h2]
      have HF := Lib.hid hf
      have t2 : decide ((67108864 : Int) < (v : Int)) = true := by simp; omega
      clear hd hf
      go_enter Tryz.func77, Tryz.ntmps77
      go_wp2_with fail
      refine (readnum_any _ _ _ l _ h).mono ?_
      rintro e w1 ⟨rfl, rfl⟩
      rw [HD.out]
      go_wp2
      go_ret3
      exact ⟨by rw [HF.out]; rfl, Below.refl _ _⟩
    · have t2 : decide ((67108864 : Int) < (v : Int)) = false := by simp; omega
      by_cases h3 : n - k < v + 4
      · have hf : Codec.decFrame l = (0, 0, 11) := by unfold Codec.decFrame; rw [HD.out, HL.out]; simp [h2, h3]
        have HF := Lib.hid hf
        have t3 : decide ((n : Int) - (k : Int) < (v : Int) + 4) = true := by simp; omega
        clear hd hf
        go_enter Tryz.func77, Tryz.ntmps77
        go_wp2_with fail
        refine (readnum_any _ _ _ l _ h).mono ?_
        rintro e w1 ⟨rfl, rfl⟩
        rw [HD.out]
        go_wp2
        go_ret3
        exact ⟨by rw [HF.out]; rfl, Below.refl _ _⟩
      · have t3 : decide ((n : Int) - (k : Int) < (v : Int) + 4) = false := by simp; omega
        have h3' : k + 4 + v ≤ n := by omega
        have h3'' : k + 4 ≤ c := by omega
        have h4'' : k + 4 + v ≤ c := by omega
        have hf : Codec.decFrame l = if (l.drop k).take 4 = Codec.four (Codec.sum ((l.drop (k + 4)).take v)) then (k + 4, k + 4 + v, 0) else (0, 0, 13) := by
          unfold Codec.decFrame; rw [HD.out, HL.out]; simp [h2, h3]
        have HF := Lib.hid hf
        clear hd hf
        go_enter Tryz.func77, Tryz.ntmps77
        go_wp2_with fail
        refine (readnum_any _ _ _ l _ h).mono ?_
        rintro e w1 ⟨rfl, rfl⟩
        rw [HD.out]
        have hs1 := fun w => slice_lh a n c (lo := (k : Int)) (hi := (k : Int) + 4) (lo' := k) (hi' := k + 4) rfl (by omega) (by omega) h3'' w
        have hs2 := fun w => slice_lh a n c (lo := (k : Int) + 4) (hi := (k : Int) + 4 + (v : Int)) (lo' := k + 4) (hi' := k + 4 + v) (by omega) (by omega) (by omega) h4'' w
        rw [show k + 4 - k = 4 by omega] at hs1
        rw [show k + 4 + v - (k + 4) = v by omega] at hs2
        have hp := h.sub (lo := k + 4) (hi := k + 4 + v) (by omega) h3'
        rw [show k + 4 + v - (k + 4) = v by omega] at hp
        have hq := h.sub (lo := k) (hi := k + 4) (by omega) (by omega)
        rw [show k + 4 - k = 4 by omega] at hq
        have HS := Lib.hid ((Bss.one hp).below (Below.refl _ _).drew)
        have hb0 : Below w.heap.size w (w.alloc (.cells #[.slice (subA a c (k + 4)) v (c - (k + 4))] 25)).drew := ((Below.refl _ _).alloc (Nat.le_refl _) _).drew
        have HB0 := Lib.hid hb0
        have HQ := Lib.hid hq
        have fsum := Lib.hid (show (0 : Nat) + 4 ≤ 140737488355328 by omega)
        clear hp hq hb0
        have hdec : decide (List.take 4 (List.drop k l) = [] ++ Codec.low 4 (Codec.sum (List.take v (List.drop (k + 4) l))).toNat) = decide ((l.drop k).take 4 = Codec.four (Codec.sum ((l.drop (k + 4)).take v))) := by
          rw [Codec.four_eq]; simp
        by_cases h5 : (l.drop k).take 4 = Codec.four (Codec.sum ((l.drop (k + 4)).take v))
        · have HF2 := Lib.hid (HF.out.trans (if_pos h5))
          rw [decide_eq_true h5] at hdec
          have EQ := Lib.hid hdec
          clear hdec h5
          go_wp2_with fail
          go_region_with (first | (go_at_call 25; refine (sum_any _ _ _ _ _ HS.out).mono ?_; rintro e w1 ⟨rfl, hb1⟩) | (go_at_call 71; refine (low_any w1.heap.size none 0 0 [] _ 4 _ (Nat.le_refl _) (Own.nil _ _) fsum.out).mono ?_; rintro e w2 ⟨a2, n2, c2, rfl, ho2, hb2, _⟩) | (go_at_call 110; refine (equal_any _ _ _ _ _ _ _ _ _ (HQ.out.below (HB0.out.trans ((hb1.mono HB0.out.size).trans (hb2.mono (Nat.le_trans HB0.out.size hb1.size))))) ho2.bs).mono ?_; rintro e w3 ⟨rfl, hb3⟩; rw [EQ.out]))
          have hb4 : Below w.heap.size w w3 := HB0.out.trans ((hb1.mono HB0.out.size).trans ((hb2.mono (Nat.le_trans HB0.out.size hb1.size)).trans (hb3.mono (Nat.le_trans (Nat.le_trans HB0.out.size hb1.size) hb2.size))))
          go_wp2
          go_ret3
          exact ⟨by rw [HF2.out]; rfl, hb4⟩
        · have HF2 := Lib.hid (HF.out.trans (if_neg h5))
          rw [decide_eq_false h5] at hdec
          have EQ := Lib.hid hdec
          clear hdec h5
          go_wp2_with fail
          go_region_with (first | (go_at_call 25; refine (sum_any _ _ _ _ _ HS.out).mono ?_; rintro e w1 ⟨rfl, hb1⟩) | (go_at_call 71; refine (low_any w1.heap.size none 0 0 [] _ 4 _ (Nat.le_refl _) (Own.nil _ _) fsum.out).mono ?_; rintro e w2 ⟨a2, n2, c2, rfl, ho2, hb2, _⟩) | (go_at_call 110; refine (equal_any _ _ _ _ _ _ _ _ _ (HQ.out.below (HB0.out.trans ((hb1.mono HB0.out.size).trans (hb2.mono (Nat.le_trans HB0.out.size hb1.size))))) ho2.bs).mono ?_; rintro e w3 ⟨rfl, hb3⟩; rw [EQ.out]))
          have hb4 : Below w.heap.size w w3 := HB0.out.trans ((hb1.mono HB0.out.size).trans ((hb2.mono (Nat.le_trans HB0.out.size hb1.size)).trans (hb3.mono (Nat.le_trans (Nat.le_trans HB0.out.size hb1.size) hb2.size))))
          go_wp2
          go_ret3
          exact ⟨by rw [HF2.out]; rfl, hb4⟩
  · have hf : Codec.decFrame l = (0, 0, er) := by unfold Codec.decFrame; rw [HD.out]; simp [h1]
    have HF := Lib.hid hf
    have t1 : ((er : Int) != 0) = true := by simp; omega
    clear hd hf
    go_enter Tryz.func77, Tryz.ntmps77
    go_wp2_with fail
    refine (readnum_any _ _ _ l _ h).mono ?_
    rintro e w1 ⟨rfl, rfl⟩
    rw [HD.out]
    go_wp2
    go_ret3
    exact ⟨by rw [HF.out]; rfl, Below.refl _ _⟩
end Go.Proofs.YtfgifndpglgjkaaGreatDoor
