/- gf's Times. -/
import Derived.Test.YtkecjgdmjhljnaaGfN
import Derived.Test.YtkecjgdmjhljnaaQuiet
namespace Go.Proofs.Ytkecjgdmjhljnaa
open Go.RowKit Go.Deep

def at2 (ls : List (List UInt8)) (i j : Nat) : UInt8 := nth (nth ls i) j
theorem Bss.at2 {w : World} {a : Option Addr} {n c : Nat} {ls : List (List UInt8)} (h : Bss w a n c ls) {i j : Nat} (hi : i < n) (hj : j < (nth ls i).length) :
    ∃ b off ci b2 off2, a = some ⟨b, off, none⟩ ∧ w.cell? ⟨b, off + i, none⟩ = some (.slice (some ⟨b2, off2, none⟩) (nth ls i).length ci) ∧ w.cell? ⟨b2, off2 + j, none⟩ = some (.int .u8 (n8 (at2 ls i j))) := by
  obtain ⟨b, off, ai, ni, ci, h1, h2, h3⟩ := h.get hi
  have e := h3.1
  subst e
  obtain ⟨b2, off2, rfl, h4⟩ := h3.byte hj
  exact ⟨b, off, ci, b2, off2, h1, h2, h4⟩
theorem right_spec {ls : List (List UInt8)} (h : Gf.right ls = true) : 1 ≤ ls.length ∧ ls.length ≤ 255 ∧ 1 ≤ (nth ls 0).length ∧ (nth ls 0).length ≤ 255 ∧ ∀ k, k < ls.length → (nth ls k).length = (nth ls 0).length := by
  unfold Gf.right at h; exact of_decide_eq_true h
theorem right_yes {a : Option Addr} {n c : Nat} {ls : List (List UInt8)} {w : World} (hr : Gf.right ls = true) (h : Bss w a n c ls) :
    Calls Try.prog 27 #[.slice a n c] w fun e w' => e = .returned (.bool true) ∧ Below w.heap.size w w' := by rw [← hr]; exact right_any a n c ls w h
theorem right_no {a : Option Addr} {n c : Nat} {ls : List (List UInt8)} {w : World} (hr : Gf.right ls = false) (h : Bss w a n c ls) :
    Calls Try.prog 27 #[.slice a n c] w fun e w' => e = .returned (.bool false) ∧ Below w.heap.size w w' := by rw [← hr]; exact right_any a n c ls w h
theorem mul_q (a b : UInt8) (w : World) : Calls Try.prog 19 #[.int .u8 (n8 a), .int .u8 (n8 b)] w fun e w' => e = .returned (.int .u8 (n8 (Gf.mul a b))) ∧ w' = w := (mul_any a b w).mono fun _ _ ⟨h1, h2⟩ => ⟨h1, h2.symm⟩
theorem add_q (a b : UInt8) (w : World) : Calls Try.prog 18 #[.int .u8 (n8 a), .int .u8 (n8 b)] w fun e w' => e = .returned (.int .u8 (n8 (a ^^^ b))) ∧ w' = w := (add_any a b w).mono fun _ _ ⟨h1, h2⟩ => ⟨h1, h2.symm⟩

set_option maxHeartbeats 1000000 in
theorem timesElem (i j K C : Nat) (am ao : Option Addr) (nm cm no co : Nat) (lm lo : List (List UInt8)) (b2 b3 : Nat) (w : World) (hm : Bss w am nm cm lm) (ho : Bss w ao no co lo)
    (c2 : w.cell? ⟨b2, 0, none⟩ = some (.slice ao no co)) (c3 : w.cell? ⟨b3, 0, none⟩ = some (.slice am nm cm)) (hi : i < nm) (hj : j < C) (hK : no = K) (hK2 : K ≤ 255) (hC : C ≤ 255) (hn : nm ≤ 255)
    (hmr : (nth lm i).length = K) (hor : ∀ k, k < K → (nth lo k).length = C) :
    Calls Try.prog 57 #[.int .i64 i, .int .i64 j, .pointer (some ⟨b2, 0, none⟩), .pointer (some ⟨b3, 0, none⟩)] w fun e w' =>
      e = .returned (.int .u8 (n8 (Gf.sm K (fun k => Gf.mul (at2 lm i k) (at2 lo k j))))) ∧ ∃ q, w' = w.drewN q := by
  subst hK
  have HM := Lib.hid hm
  have HO := Lib.hid ho
  have HR := Lib.hid (And.intro hmr hor)
  have hib : i ≤ 255 := by omega
  have hjb : j ≤ 255 := by omega
  clear hm ho hmr hor
  have HC2 := Lib.hid c2
  have HC3 := Lib.hid c3
  go_enter Try.func57, Try.ntmps57
  go_wp2
  clear c2 c3
  go_loopw [7, 11] (fun s k wr => ∃ t q : Nat, t ≤ no ∧ k = .int .i64 t ∧ s = .int .u8 (n8 (Gf.sm t (fun k => Gf.mul (at2 lm i k) (at2 lo k j)))) ∧ wr = w.drewN q) (fun _ k _ => no - (intOf k).toNat)
  case atStart => exact ⟨0, 0, by omega, rfl, rfl, rfl⟩
  case round =>
    obtain ⟨t, q, ht, rfl, rfl, hwr⟩ := hrel
    have htb : t ≤ 255 := by omega
    have hbw : Below w.heap.size w wr := by rw [hwr]; exact below_drewN (Below.refl _ _) q
    have g2 := cell_later hbw HC2.out
    have g3 := cell_later hbw HC3.out
    have HWR := Lib.hid hwr
    have HBW := Lib.hid hbw
    clear hbw hwr
    by_cases hlt : t < no
    · obtain ⟨x1, o1, k1, y1, p1, rfl, d1, d2⟩ := (HM.out.below HBW.out).at2 hi (j := t) (by rw [HR.out.1]; exact hlt)
      obtain ⟨x2, o2, k2, y2, p2, rfl, d3, d4⟩ := (HO.out.below HBW.out).at2 hlt (j := j) (by rw [HR.out.2 t hlt]; exact hj)
      rw [HR.out.1] at d1
      rw [HR.out.2 t hlt] at d3
      have hs : Gf.sm (t + 1) (fun k => Gf.mul (at2 lm i k) (at2 lo k j)) = Gf.sm t (fun k => Gf.mul (at2 lm i k) (at2 lo k j)) ^^^ Gf.mul (at2 lm i t) (at2 lo t j) := rfl
      have HS := Lib.hid hs
      generalize Gf.sm t (fun k => Gf.mul (at2 lm i k) (at2 lo k j)) = sv at *
      clear hs
      go_wp2_with fail
      go_quiet ((first | (go_at_call 19; exact Calls.quiet_of_same (mul_q _ _ _)) | (go_at_call 18; exact Calls.quiet_of_same (add_q _ _ _))))
      go_wp2
      go_roundw
      case rel => exact ⟨t + 1, q + nq, by omega, by go_num, by rw [HS.out], by rw [HWR.out, World.drewN_drewN]⟩
      case measure => simp [intOf]; omega
    · obtain rfl : t = no := by omega
      go_wp2
      go_ret
      exact ⟨rfl, q, HWR.out⟩

def Gf.timesOk (m o : List (List UInt8)) : Bool := Gf.right m && Gf.right o && decide ((nth m 0).length = o.length)
def Gf.timesL (m o : List (List UInt8)) : List (List UInt8) := if Gf.timesOk m o = true then mat m.length (nth o 0).length (fun i j => Gf.sm o.length (fun k => Gf.mul (at2 m i k) (at2 o k j))) else []
def Gf.timesE (m o : List (List UInt8)) : Int := if Gf.timesOk m o = true then 0 else 1
theorem times_bad {m o : List (List UInt8)} (h : Gf.timesOk m o = false) : Gf.timesL m o = [] ∧ Gf.timesE m o = 1 := by
  unfold Gf.timesL Gf.timesE; rw [h]; exact ⟨rfl, rfl⟩
theorem times_good {m o : List (List UInt8)} (h : Gf.timesOk m o = true) : Gf.timesL m o = mat m.length (nth o 0).length (fun i j => Gf.sm o.length (fun k => Gf.mul (at2 m i k) (at2 o k j))) ∧ Gf.timesE m o = 0 := by
  unfold Gf.timesL Gf.timesE; rw [if_pos h, if_pos h]; exact ⟨rfl, rfl⟩
/-- A matrix of the call's own is told, or nil. -/
def MOwn (ls : List (List UInt8)) (er : Int) (w : World) (e : Ending) (w' : World) : Prop :=
  (∃ a n c, e = .returned (.tuple #[.slice a n c, .int .i64 er]) ∧ Bss w' a n c ls ∧ ((a = none ∧ n = 0) ∨ ∃ g C bl cp Z, a = some ⟨g, 0, none⟩ ∧ My w' w.heap.size g n C bl cp Z ∧ ls = mat n C Z)) ∧ Below w.heap.size w w'
theorem MOwn.res {ls : List (List UInt8)} {er : Int} {w w' : World} {e : Ending} (h : MOwn ls er w e w') : MRes ls er w e w' := by
  obtain ⟨⟨a, n, c, h1, h2, _⟩, hb⟩ := h
  exact ⟨⟨a, n, c, h1, h2⟩, hb⟩
theorem nil_own {w w' : World} {e : Ending} {er : Int} (h : e = .returned (.tuple #[.slice none 0 0, .int .i64 er])) (hb : Below w.heap.size w w') : MOwn [] er w e w' :=
  ⟨⟨_, _, _, h, Bss.nil w', .inl ⟨rfl, rfl⟩⟩, hb⟩
theorem Mx.own {w w' W : World} {g n C : Nat} {bl : Nat → Nat} {Z : Nat → Nat → UInt8} {er : Int} (h : Mx w' W.heap.size g n C bl Z) (hW : w.heap.size ≤ W.heap.size) (hn : n ≤ 255) (hC : C ≤ 255) (hb : Below w.heap.size w w') :
    MOwn (mat n C Z) er w (.returned (.tuple #[.slice (some ⟨g, 0, none⟩) n n, .int .i64 er])) w' :=
  ⟨⟨_, _, _, rfl, h.bss (Nat.le_refl _) (by simp only [maxLen]; omega) (by simp only [maxLen]; omega), .inr ⟨g, C, bl, _, Z, rfl, (h.mono hW).my (by simp only [maxLen]; omega), rfl⟩⟩, hb⟩
theorem MOwn.of_eq {ls ls' : List (List UInt8)} {er er' : Int} {w w' : World} {e : Ending} (h : MOwn ls er w e w') (h1 : ls = ls') (h2 : er = er') : MOwn ls' er' w e w' := by subst h1; subst h2; exact h

set_option maxHeartbeats 8000000 in
theorem times_any (am ao : Option Addr) (nm cm no co : Nat) (lm lo : List (List UInt8)) (w : World) (hm : Bss w am nm cm lm) (ho : Bss w ao no co lo) :
    Calls Try.prog 31 #[.slice am nm cm, .slice ao no co] w (MOwn (Gf.timesL lm lo) (Gf.timesE lm lo) w) := by
  have hlm := hm.1
  have hlo := ho.1
  have hlem := hm.le.1
  have hleo := ho.le.1
  generalize hW0 : (w.alloc (.cells #[.slice am nm cm] 40)).alloc (.cells #[.slice ao no co] 40) = w0
  have hb0 : Below w.heap.size w w0 := by rw [← hW0]; exact ((Below.refl _ _).alloc (Nat.le_refl _) _).alloc (le_alloc (Nat.le_refl _)) _
  have HBm : Hid (∀ W, Below w0.heap.size w0 W → Bss W am nm cm lm) := Lib.hid fun W h => (hm.below hb0).below h
  have HBo : Hid (∀ W, Below w0.heap.size w0 W → Bss W ao no co lo) := Lib.hid fun W h => (ho.below hb0).below h
  have c2 : w0.cell? ⟨w.heap.size, 0, none⟩ = some (.slice am nm cm) := by
    rw [← hW0]
    exact cell_later ((Below.refl _ _).alloc (Nat.le_refl _) _) (cell_of_row _ _ 0 #[.slice am nm cm] 40 (0, 0) (heap_alloc_new w _))
  have c3 : w0.cell? ⟨w.heap.size + 1, 0, none⟩ = some (.slice ao no co) := by
    rw [← hW0]
    have h := cell_of_row _ _ 0 #[.slice ao no co] 40 (0, 0) (heap_alloc_new (w.alloc (.cells #[.slice am nm cm] 40)) (.cells #[.slice ao no co] 40))
    rw [show (w.alloc (.cells #[.slice am nm cm] 40)).heap.size = w.heap.size + 1 by simp] at h
    exact h
  have hsz : w0.heap.size = w.heap.size + 2 := by rw [← hW0]; simp
  have HW := Lib.hid hW0
  have HB0 := Lib.hid hb0
  have HSZ := Lib.hid hsz
  clear hm ho hb0 hsz hW0
  by_cases h1 : Gf.right lm = true
  case neg =>
    have h1 : Gf.right lm = false := by simpa using h1
    obtain ⟨e1, e2⟩ := times_bad (m := lm) (o := lo) (by unfold Gf.timesOk; rw [h1]; rfl)
    rw [e1, e2]
    clear e1 e2
    have H1 := Lib.hid h1
    clear h1
    go_enter Try.func31, Try.ntmps31
    go_wp2_with fail
    rw [HW.out]
    refine wp_region_class (w0 := w0) (by kernel_rfl) (by kernel_rfl) (Below.refl _ _) ?_
    have l2 := BW.cell c2
    have l3 := BW.cell c3
    repeat (first | go_big_quiet_step ((go_at_call 27; exact calls_class (right_no H1.out (HBm.out _ (BW.b _))))))
    refine wpQuiet_nil ?_
    intro w1 hb1; replace hb1 := BW.of hb1
    clear l2 l3
    have HS := Lib.hid hb1
    clear hb1
    go_wp2
    go_ret2
    exact nil_own rfl (HB0.out.trans (HS.out.mono HB0.out.size))
  have H1 := Lib.hid h1
  by_cases h2 : Gf.right lo = true
  case neg =>
    have h2 : Gf.right lo = false := by simpa using h2
    obtain ⟨e1, e2⟩ := times_bad (m := lm) (o := lo) (by unfold Gf.timesOk; rw [h2]; simp)
    rw [e1, e2]
    clear e1 e2 h1
    have H2 := Lib.hid h2
    clear h2
    go_enter Try.func31, Try.ntmps31
    go_wp2_with fail
    rw [HW.out]
    refine wp_region_class (w0 := w0) (by kernel_rfl) (by kernel_rfl) (Below.refl _ _) ?_
    have l2 := BW.cell c2
    have l3 := BW.cell c3
    repeat (first | go_big_quiet_step ((go_at_call 27; first | exact calls_class (right_yes H1.out (HBm.out _ (BW.b _))) | exact calls_class (right_no H2.out (HBo.out _ (BW.b _))))))
    refine wpQuiet_nil ?_
    intro w1 hb1; replace hb1 := BW.of hb1
    clear l2 l3
    have HS := Lib.hid hb1
    clear hb1
    go_wp2
    go_ret2
    exact nil_own rfl (HB0.out.trans (HS.out.mono HB0.out.size))
  have H2 := Lib.hid h2
  obtain ⟨r1, r2, r3, r4, r5⟩ := right_spec h1
  obtain ⟨s1, s2, s3, s4, s5⟩ := right_spec h2
  rw [hlm] at r1 r2 r5
  rw [hlo] at s1 s2 s5
  obtain ⟨bm, om, am0, nm0, cm0, rfl, dm, hm0⟩ := (HBm.out w0 (Below.refl _ _)).get (show 0 < nm by omega)
  obtain ⟨bo, oo, ao0, no0, co0, rfl, do_, ho0⟩ := (HBo.out w0 (Below.refl _ _)).get (show 0 < no by omega)
  have em := hm0.1
  have eo := ho0.1
  rw [Nat.add_zero] at dm do_
  have hp1 : 0 < nm := by omega
  have hp2 : 0 < no := by omega
  have hle3 : nm0 ≤ 9223372036854775807 ∧ no0 ≤ 9223372036854775807 := by omega
  have hbd : nm ≤ 1000 ∧ no ≤ 1000 ∧ nm0 ≤ 1000 ∧ no0 ≤ 1000 := by omega
  by_cases h3 : nm0 = no
  case neg =>
    obtain ⟨e1, e2⟩ := times_bad (m := lm) (o := lo) (by unfold Gf.timesOk; rw [h1, h2, em, hlo, decide_eq_false h3]; rfl)
    rw [e1, e2]
    have t : ((nm0 : Int) != (no : Int)) = true := by simp; omega
    clear e1 e2 h1 h2 r1 r2 r3 r4 r5 s1 s2 s3 s4 s5 em eo hlm hlo h3 hm0 ho0 hbd
    go_enter Try.func31, Try.ntmps31
    go_wp2_with fail
    rw [HW.out]
    refine wp_region_class (w0 := w0) (by kernel_rfl) (by kernel_rfl) (Below.refl _ _) ?_
    have l2 := BW.cell c2
    have l3 := BW.cell c3
    have l4 := BW.cell dm
    repeat (first | go_big_quiet_step ((go_at_call 27; first | exact calls_class (right_yes H1.out (HBm.out _ (BW.b _))) | exact calls_class (right_yes H2.out (HBo.out _ (BW.b _))))))
    refine wpQuiet_nil ?_
    intro w1 hb1; replace hb1 := BW.of hb1
    clear l2 l3 l4
    have HS := Lib.hid hb1
    clear hb1
    go_wp2
    go_ret2
    exact nil_own rfl (HB0.out.trans (HS.out.mono HB0.out.size))
  obtain ⟨e1, e2⟩ := times_good (m := lm) (o := lo) (by unfold Gf.timesOk; rw [h1, h2, em, hlo, decide_eq_true h3]; rfl)
  rw [e1, e2, hlm, hlo, eo]
  have h3 := h3.symm
  subst h3
  have t : ((no : Int) != (no : Int)) = false := by simp
  have HF := Lib.hid (And.intro (And.intro r1 (And.intro r2 (And.intro r3 (And.intro r4 r5)))) (And.intro s1 (And.intro s2 (And.intro s3 (And.intro s4 s5)))))
  have HM := Lib.hid (And.intro em eo)
  clear e1 e2 h1 h2 r1 r2 r3 r4 r5 s1 s2 s3 s4 s5 em eo hlm hlo hm0 ho0
  go_enter Try.func31, Try.ntmps31
  go_wp2_with fail
  rw [HW.out]
  refine wp_region_class (w0 := w0) (by kernel_rfl) (by kernel_rfl) (Below.refl _ _) ?_
  have l2 := BW.cell c2
  have l3 := BW.cell c3
  have l4 := BW.cell dm
  repeat (first | go_big_quiet_step ((go_at_call 27; first | exact calls_class (right_yes H1.out (HBm.out _ (BW.b _))) | exact calls_class (right_yes H2.out (HBo.out _ (BW.b _))))))
  refine wpQuiet_nil ?_
  intro w1 hb1; replace hb1 := BW.of hb1
  clear l2 l3 l4
  have HS := Lib.hid hb1
  have k2 := cell_later hb1 c2
  have k3 := cell_later hb1 c3
  have k4 := cell_later hb1 do_
  have hel : ∀ W, Below w1.heap.size w1 W → Elem W 57 #[.pointer (some ⟨w.heap.size + 1, 0, none⟩), .pointer (some ⟨w.heap.size, 0, none⟩)] nm no0 (fun i j => Gf.sm no (fun k => Gf.mul (at2 lm i k) (at2 lo k j))) := by
    intro W hW V i j hV hi hj
    have hv : Below w0.heap.size w0 V := HS.out.trans ((hW.trans (hV.mono hW.size)).mono HS.out.size)
    obtain ⟨⟨r1, r2, r3, r4, r5⟩, s1, s2, s3, s4, s5⟩ := HF.out
    have e1 := HM.out.1
    have e2 := HM.out.2
    exact timesElem i j no no0 _ _ nm cm no co lm lo _ _ V (HBm.out V hv) (HBo.out V hv) (cell_later hv c3) (cell_later hv c2) hi hj rfl s2 (by omega) r2 (by rw [r5 i hi, e1]) (fun k hk => by rw [s5 k hk, e2])
  have HE := Lib.hid hel
  clear hel hb1 c2 c3 dm do_
  have hbR : nm ≤ 256 ∧ no0 ≤ 256 := by
    obtain ⟨⟨r1, r2, r3, r4, r5⟩, s1, s2, s3, s4, s5⟩ := HF.out
    have e2 := HM.out.2
    omega
  have HR := Lib.hid hbR
  clear hbR
  go_wp2_with fail
  go_still_tail 7, (by kernel_rfl)
  go_wp2_with (go_at_call 39; refine (made_ex 57 _ nm no0 _ _ (enters_of Try.func57 (by kernel_rfl) rfl) HR.out.1 HR.out.2 (HE.out _ (Below.refl _ _).drew)).mono ?_; rintro e w' ⟨g, bl, rfl, hm, hb⟩)
  go_ret2
  have hbb : Below w.heap.size w w' := HB0.out.trans ((HS.out.trans (((Below.refl _ _).drew.trans hb).mono HS.out.size)).mono HB0.out.size)
  exact (hm.own (w := w) (W := w1.drew) (Nat.le_trans HB0.out.size HS.out.size) (by
    obtain ⟨⟨r1, r2, r3, r4, r5⟩, s1, s2, s3, s4, s5⟩ := HF.out
    omega) (by
    obtain ⟨⟨r1, r2, r3, r4, r5⟩, s1, s2, s3, s4, s5⟩ := HF.out
    have e2 := HM.out.2
    omega) hbb)
end Go.Proofs.Ytkecjgdmjhljnaa
