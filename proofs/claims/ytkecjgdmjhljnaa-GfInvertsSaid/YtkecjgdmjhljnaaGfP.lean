/- The reference's Times. -/
import Derived.Test.YtkecjgdmjhljnaaGfO
namespace Go.Proofs.Ytkecjgdmjhljnaa
open Go.RowKit Go.Deep

theorem refright_yes {a : Option Addr} {n c : Nat} {ls : List (List UInt8)} {w : World} (hr : Gf.right ls = true) (h : Bss w a n c ls) :
    Calls Try.prog 28 #[.slice a n c] w fun e w' => e = .returned (.bool true) ∧ ∃ q, w' = w.drewN q := by rw [← hr]; exact refright_any a n c ls w h
theorem refright_no {a : Option Addr} {n c : Nat} {ls : List (List UInt8)} {w : World} (hr : Gf.right ls = false) (h : Bss w a n c ls) :
    Calls Try.prog 28 #[.slice a n c] w fun e w' => e = .returned (.bool false) ∧ ∃ q, w' = w.drewN q := by rw [← hr]; exact refright_any a n c ls w h
theorem refmul_q (a b : UInt8) (w : World) : Calls Try.prog 20 #[.int .u8 (n8 a), .int .u8 (n8 b)] w fun e w' => e = .returned (.int .u8 (n8 (Gf.mul a b))) ∧ w' = w := (refmul_any a b w).mono fun _ _ ⟨h1, h2⟩ => ⟨h1, h2.symm⟩

/-- The product while it is made: rows before i, of row i the columns before j, of that place k terms. -/
def Gf.part (f : Nat → Nat → Nat → UInt8) (K i j k : Nat) : Nat → Nat → UInt8 := fun r c => if r < i ∨ r = i ∧ c < j then Gf.sm K (f r c) else if r = i ∧ c = j then Gf.sm k (f r c) else 0
theorem part_row (f : Nat → Nat → Nat → UInt8) (K C i : Nat) (r c : Nat) (hc : c < C) : Gf.part f K i C 0 r c = Gf.part f K (i + 1) 0 0 r c := by
  unfold Gf.part
  by_cases h1 : r < i
  · simp [h1, Nat.lt_succ_of_lt h1]
  · by_cases h2 : r = i
    · simp [h2, hc]
    · simp [h1, h2, Gf.sm]; omega
theorem part_col (f : Nat → Nat → Nat → UInt8) (K i j : Nat) (r c : Nat) : Gf.part f K i j K r c = Gf.part f K i (j + 1) 0 r c := by
  unfold Gf.part
  by_cases h1 : r < i
  · simp [h1]
  · by_cases h2 : r = i
    · by_cases h3 : c < j
      · simp [h2, h3, Nat.lt_succ_of_lt h3]
      · by_cases h4 : c = j
        · simp [h2, h4]
        · simp [h2, h3, h4, Gf.sm]; omega
    · simp [h1, h2]
theorem part_term (f : Nat → Nat → Nat → UInt8) (K i j k : Nat) (r c : Nat) : (if r = i ∧ c = j then Gf.part f K i j k i j ^^^ f i j k else Gf.part f K i j k r c) = Gf.part f K i j (k + 1) r c := by
  unfold Gf.part
  by_cases h : r = i ∧ c = j
  · obtain ⟨rfl, rfl⟩ := h
    simp [Gf.sm]
  · simp [h]
theorem part_zero (f : Nat → Nat → Nat → UInt8) (K : Nat) (r c : Nat) : Gf.part f K 0 0 0 r c = 0 := by
  unfold Gf.part; simp [Gf.sm]
theorem part_full (f : Nat → Nat → Nat → UInt8) (K R : Nat) (r c : Nat) (hr : r < R) : Gf.part f K R 0 0 r c = Gf.sm K (f r c) := by
  unfold Gf.part; simp [hr]

theorem refres_nil {w w' : World} {er : Int} (q : Nat) (h : w' = w.drewN q) : MOwn [] er w (.returned (.tuple #[.slice none 0 0, .int .i64 er])) w' :=
  nil_own rfl (h ▸ below_drewN (Below.refl _ _) q)
set_option maxHeartbeats 8000000 in
theorem reftimes_any (am ao : Option Addr) (nm cm no co : Nat) (lm lo : List (List UInt8)) (w : World) (hm : Bss w am nm cm lm) (ho : Bss w ao no co lo) :
    Calls Try.prog 35 #[.slice am nm cm, .slice ao no co] w (MOwn (Gf.timesL lm lo) (Gf.timesE lm lo) w) := by
  have hlm := hm.1
  have hlo := ho.1
  have hlem := hm.le.1
  have hleo := ho.le.1
  have HBm : Hid (∀ W, Below w.heap.size w W → Bss W am nm cm lm) := Lib.hid fun W h => hm.below h
  have HBo : Hid (∀ W, Below w.heap.size w W → Bss W ao no co lo) := Lib.hid fun W h => ho.below h
  have HQ : ∀ q, Below w.heap.size w (w.drewN q) := fun q => below_drewN (Below.refl _ _) q
  clear hm ho
  by_cases h1 : Gf.right lm = true
  case neg =>
    have h1 : Gf.right lm = false := by simpa using h1
    obtain ⟨e1, e2⟩ := times_bad (m := lm) (o := lo) (by unfold Gf.timesOk; rw [h1]; rfl)
    rw [e1, e2]
    clear e1 e2
    have H1 := Lib.hid h1
    clear h1
    go_enter Try.func35, Try.ntmps35
    go_wp2_with (go_at_call 28; refine (refright_no H1.out (HBm.out _ (Below.refl _ _))).mono ?_; rintro e w1 ⟨rfl, q, rfl⟩)
    go_ret2
    exact refres_nil q rfl
  have H1 := Lib.hid h1
  by_cases h2 : Gf.right lo = true
  case neg =>
    have h2 : Gf.right lo = false := by simpa using h2
    obtain ⟨e1, e2⟩ := times_bad (m := lm) (o := lo) (by unfold Gf.timesOk; rw [h2]; simp)
    rw [e1, e2]
    clear e1 e2 h1
    have H2 := Lib.hid h2
    clear h2
    go_enter Try.func35, Try.ntmps35
    go_wp2_with fail
    refine (refright_yes H1.out (HBm.out _ (Below.refl _ _))).mono ?_
    rintro e w1 ⟨rfl, q, hq⟩
    have HW := Lib.hid hq
    clear hq
    go_wp2_with fail
    refine (refright_no H2.out (HBo.out _ (HW.out ▸ HQ q))).mono ?_
    rintro e w2 ⟨rfl, q2, rfl⟩
    go_wp2
    go_ret2
    exact refres_nil (q + q2) (by rw [HW.out, World.drewN_drewN])
  have H2 := Lib.hid h2
  obtain ⟨r1, r2, r3, r4, r5⟩ := right_spec h1
  obtain ⟨s1, s2, s3, s4, s5⟩ := right_spec h2
  rw [hlm] at r1 r2 r5
  rw [hlo] at s1 s2 s5
  obtain ⟨bm, om, am0, nm0, cm0, rfl, dm, hm0⟩ := (HBm.out w (Below.refl _ _)).get (show 0 < nm by omega)
  obtain ⟨bo, oo, ao0, no0, co0, rfl, do_, ho0⟩ := (HBo.out w (Below.refl _ _)).get (show 0 < no by omega)
  have em := hm0.1
  have eo := ho0.1
  rw [Nat.add_zero] at dm do_
  have hp1 : 0 < nm := by omega
  have hp2 : 0 < no := by omega
  have hle3 : nm0 ≤ 9223372036854775807 ∧ no0 ≤ 9223372036854775807 := by omega
  by_cases h3 : nm0 = no
  case neg =>
    obtain ⟨e1, e2⟩ := times_bad (m := lm) (o := lo) (by unfold Gf.timesOk; rw [h1, h2, em, hlo, decide_eq_false h3]; rfl)
    rw [e1, e2]
    have t : ((nm0 : Int) != (no : Int)) = true := by simp; omega
    have DM := Lib.hid dm
    clear e1 e2 h1 h2 r1 r2 r3 r4 r5 s1 s2 s3 s4 s5 em eo hlm hlo h3 hm0 ho0 do_ dm
    go_enter Try.func35, Try.ntmps35
    go_wp2_with fail
    refine (refright_yes H1.out (HBm.out _ (Below.refl _ _))).mono ?_
    rintro e w1 ⟨rfl, q, hq⟩
    have HW := Lib.hid hq
    clear hq
    go_wp2_with fail
    refine (refright_yes H2.out (HBo.out _ (HW.out ▸ HQ q))).mono ?_
    rintro e w2 ⟨rfl, q2, hq2⟩
    have dm2 := cell_later (show Below w.heap.size w w2 by rw [hq2, HW.out, World.drewN_drewN]; exact HQ _) DM.out
    have HW2 := Lib.hid hq2
    clear hq2
    go_wp2
    go_ret2
    exact refres_nil (q + q2) (by rw [HW2.out, HW.out, World.drewN_drewN])
  obtain ⟨e1, e2⟩ := times_good (m := lm) (o := lo) (by unfold Gf.timesOk; rw [h1, h2, em, hlo, decide_eq_true h3]; rfl)
  rw [e1, e2, hlm, hlo, eo]
  have h3 := h3.symm
  subst h3
  have t : ((no : Int) != (no : Int)) = false := by simp
  have hbd : nm ≤ 255 ∧ no ≤ 255 ∧ no0 ≤ 255 ∧ 1 ≤ no0 := by omega
  have HF := Lib.hid (And.intro (fun i hi => (r5 i hi).trans em : ∀ i, i < nm → (nth lm i).length = no) (fun i hi => (s5 i hi).trans eo : ∀ i, i < no → (nth lo i).length = no0))
  have DM := Lib.hid (And.intro dm do_)
  clear e1 e2 h1 h2 r1 r2 r3 r4 r5 s1 s2 s3 s4 s5 em eo hlm hlo hm0 ho0 dm do_
  go_enter Try.func35, Try.ntmps35
  go_wp2_with fail
  refine (refright_yes H1.out (HBm.out _ (Below.refl _ _))).mono ?_
  rintro e w1 ⟨rfl, q, hq⟩
  have HW := Lib.hid hq
  clear hq
  go_wp2_with fail
  refine (refright_yes H2.out (HBo.out _ (HW.out ▸ HQ q))).mono ?_
  rintro e w2 ⟨rfl, q2, hq2⟩
  have hb2 : Below w.heap.size w w2 := by rw [hq2, HW.out, World.drewN_drewN]; exact HQ _
  have dm2 := cell_later hb2 DM.out.1
  have do2 := cell_later hb2 DM.out.2
  have HB2 := Lib.hid hb2
  clear hq2 hb2 HW HQ
  go_wp2_with fail
  refine (blank_any nm no0 _ (by omega) (by omega) (by omega)).mono ?_
  rintro e w3 ⟨⟨g, c, bl, cp, rfl, g1, g2, hm⟩, hb3⟩
  have HB3 := Lib.hid (HB2.out.trans (hb3.mono HB2.out.size))
  have do3 := cell_later hb3 do2
  have HM3 := Lib.hid (hm.mono HB2.out.size)
  have HC := Lib.hid (And.intro g1 g2)
  clear hm hb3 g1 g2 dm2 do2 t
  go_wp2_with fail
  go_loopw [7] (fun i wr => ∃ k : Nat, k ≤ nm ∧ i = .int .i64 k ∧ Below w.heap.size w wr ∧ My wr w.heap.size g nm no0 bl cp (Gf.part (fun i j k => Gf.mul (at2 lm i k) (at2 lo k j)) no k 0 0)) (fun i _ => nm - (intOf i).toNat)
  case atStart => exact ⟨0, Nat.zero_le _, rfl, HB3.out, HM3.out.congr (fun i j _ _ => (part_zero _ _ _ _).symm)⟩
  case round =>
    clear do3
    obtain ⟨k, hk, rfl, hb, hm⟩ := hrel
    by_cases hlt : k < nm
    · have HB4 := Lib.hid hb
      have HM4 := Lib.hid hm
      clear hb hm
      go_wp2_with fail
      go_loopw [8] (fun i wi => ∃ j : Nat, j ≤ no0 ∧ i = .int .i64 j ∧ Below w.heap.size w wi ∧ My wi w.heap.size g nm no0 bl cp (Gf.part (fun i j k => Gf.mul (at2 lm i k) (at2 lo k j)) no k j 0)) (fun i _ => no0 - (intOf i).toNat)
      case atStart => exact ⟨0, Nat.zero_le _, rfl, HB4.out, HM4.out⟩
      case round =>
        obtain ⟨j, hj, rfl, hb, hm⟩ := hrel
        have do4 := cell_later hb DM.out.2
        by_cases hlj : j < no0
        · have HB5 := Lib.hid hb
          have HM5 := Lib.hid hm
          clear hb hm
          go_wp2_with fail
          clear do4
          go_loopw [9] (fun i wj => ∃ p : Nat, p ≤ no ∧ i = .int .i64 p ∧ Below w.heap.size w wj ∧ My wj w.heap.size g nm no0 bl cp (Gf.part (fun i j k => Gf.mul (at2 lm i k) (at2 lo k j)) no k j p)) (fun i _ => no - (intOf i).toNat)
          case atStart => exact ⟨0, Nat.zero_le _, rfl, HB5.out, HM5.out⟩
          case round =>
            obtain ⟨p, hp, rfl, hb, hm⟩ := hrel
            by_cases hlp : p < no
            · have c1 : wr.cell? ⟨g, k, none⟩ = some (.slice (some ⟨bl k, 0, none⟩) no0 (cp k)) := hm.top.cell hlt
              have c2 := (hm.row k hlt).2.2.cell hlj
              have c3 := (hm.row k hlt).2.2.frozen j
              obtain ⟨x1, o1, k1, y1, p1, q1, d1, d2⟩ := (HBm.out _ hb).at2 hlt (j := p) (by rw [HF.out.1 k hlt]; exact hlp)
              obtain ⟨x2, o2, k2, y2, p2, q2, d3, d4⟩ := (HBo.out _ hb).at2 hlp (j := j) (by rw [HF.out.2 p hlp]; exact hlj)
              cases q1
              cases q2
              rw [HF.out.1 k hlt] at d1
              rw [HF.out.2 p hlp] at d3
              have hmS := (hm.set hlt j (Gf.part (fun i j k => Gf.mul (at2 lm i k) (at2 lo k j)) no k j p k j ^^^ Gf.mul (at2 lm k p) (at2 lo p j))).congr (fun r c _ _ => part_term (fun i j k => Gf.mul (at2 lm i k) (at2 lo k j)) no k j p r c)
              generalize Gf.part (fun i j k => Gf.mul (at2 lm i k) (at2 lo k j)) no k j p k j = sv at *
              have HS := Lib.hid hmS
              have HBS := Lib.hid (hb.setCell (hm.row k hlt).1 _ : Below w.heap.size w (wr.setCell ⟨bl k, j, none⟩ (.int .u8 (n8 (sv ^^^ Gf.mul (at2 lm k p) (at2 lo p j))))))
              clear hm hb hmS
              go_wp2_with fail
              refine wp_region_still_tail 29 (by kernel_rfl) (by kernel_rfl) ?_
              simp only [List.take_succ_cons, List.take_zero, List.drop_succ_cons, List.drop_zero]
              repeat still_step
              still_call (refmul_q _ _ _)
              repeat still_step
              refine wpStill_nil ?_
              go_wp2
              go_roundw
              case rel => exact ⟨p + 1, by omega, by go_num, HBS.out.drew, HS.out.drew⟩
              case measure => simp [intOf]; omega
            · obtain rfl : p = no := by omega
              have HM6 := Lib.hid (hm.congr (fun r c _ _ => part_col _ _ _ _ r c))
              have HB6 := Lib.hid hb
              clear hm hb
              go_wp2
              go_roundw
              case rel => exact ⟨j + 1, by omega, by go_num, HB6.out, HM6.out⟩
              case measure => simp [intOf]; omega
        · obtain rfl : j = no0 := by omega
          have HM6 := Lib.hid (hm.congr (fun r c _ hc => part_row _ _ _ _ r c hc))
          have HB6 := Lib.hid hb
          clear hm hb
          go_wp2
          go_roundw
          case rel => exact ⟨k + 1, by omega, by go_num, HB6.out, HM6.out⟩
          case measure => simp [intOf]; omega
    · obtain rfl : k = nm := by omega
      have hm2 := hm.congr (fun r c hr _ => part_full (fun i j k => Gf.mul (at2 lm i k) (at2 lo k j)) no _ r c hr)
      have HP : Hid (MOwn (mat k no0 fun i j => Gf.sm no fun k => Gf.mul (at2 lm i k) (at2 lo k j)) 0 w (.returned (.tuple #[.slice (some ⟨g, 0, none⟩) k c, .int .i64 0])) wr) :=
        Lib.hid ⟨⟨_, _, _, rfl, hm2.bss HC.out.1 HC.out.2, .inr ⟨g, no0, bl, cp, _, rfl, hm2, rfl⟩⟩, hb⟩
      clear hm hb hm2
      go_wp2
      go_ret2
      exact HP.out
end Go.Proofs.Ytkecjgdmjhljnaa
