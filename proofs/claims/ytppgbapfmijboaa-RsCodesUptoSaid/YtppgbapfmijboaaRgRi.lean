/- The reference's Inverse. -/
import Derived.Test.YtppgbapfmijboaaRgc
set_option linter.unusedVariables false
set_option linter.unusedSimpArgs false
set_option maxRecDepth 100000
namespace Go.Proofs.Ytppgbapfmijboaa
open Go.RowKit Go.Deep

structure RSt (w wr : World) (B2 B4 gA gO n : Nat) (s : Gf.Mt × Gf.Mt) : Prop where
  below : Below w.heap.size w wr
  size : B4 ≤ wr.heap.size
  pl : (w.heap.size ≤ gA ∧ gA < B2) ∧ (B2 ≤ gO ∧ gO < B4)
  gi : GI wr w.heap.size B2 B2 B4 gA gO n s
theorem RSt.later {w wr w2 : World} {B2 B4 gA gO n : Nat} {s : Gf.Mt × Gf.Mt} (h : RSt w wr B2 B4 gA gO n s) (k : Below wr.heap.size wr w2) : RSt w w2 B2 B4 gA gO n s :=
  ⟨h.below.trans (k.mono h.below.size), Nat.le_trans h.size k.size, h.pl, h.gi.below k⟩
theorem RSt.doA {w wr w2 : World} {B2 B4 gA gO n : Nat} {s : Gf.Mt × Gf.Mt} {bl : Nat → Nat} {Y : Gf.Mt} {e : Ending} (h : RSt w wr B2 B4 gA gO n s) (hb : ∀ i, i < n → w.heap.size ≤ bl i ∧ bl i < B2) (d : DoP w.heap.size gA n n bl Y wr e w2) : RSt w w2 B2 B4 gA gO n (Y, s.2) := by
  obtain ⟨_, bl', cp', d2, d3, d4⟩ := d
  obtain ⟨blO, cpO, o1, o2⟩ := h.gi.o
  have hp := h.pl
  have hS : ∀ b, (b = gA ∨ ∃ i, i < n ∧ b = bl i) → w.heap.size ≤ b ∧ b < B2 := by
    rintro b (rfl | ⟨i, hi, rfl⟩)
    · exact hp.1
    · exact hb i hi
  refine ⟨h.below.trans (d3.below h.below.size (fun b hb' => (hS b hb').1)), Nat.le_trans h.size d3.size, hp, ⟨bl', cp', d2, fun i hi => by obtain ⟨j, hj, e⟩ := d4 i hi; rw [e]; exact hb j hj⟩, ⟨blO, cpO, o1.onl d3 (fun e => ?_) (fun i hi e => ?_), o2⟩⟩
  · have := hS _ e; omega
  · have := hS _ e; have := o2 i hi; omega
theorem RSt.doO {w wr w2 : World} {B2 B4 gA gO n : Nat} {s : Gf.Mt × Gf.Mt} {bl : Nat → Nat} {Y : Gf.Mt} {e : Ending} (h : RSt w wr B2 B4 gA gO n s) (hb : ∀ i, i < n → B2 ≤ bl i ∧ bl i < B4) (d : DoP B2 gO n n bl Y wr e w2) : RSt w w2 B2 B4 gA gO n (s.1, Y) := by
  obtain ⟨_, bl', cp', d2, d3, d4⟩ := d
  obtain ⟨blA, cpA, o1, o2⟩ := h.gi.a
  have hp := h.pl
  have hS : ∀ b, (b = gO ∨ ∃ i, i < n ∧ b = bl i) → B2 ≤ b ∧ b < B4 := by
    rintro b (rfl | ⟨i, hi, rfl⟩)
    · exact hp.2
    · exact hb i hi
  refine ⟨h.below.trans (d3.below h.below.size (fun b hb' => by have := hS b hb'; omega)), Nat.le_trans h.size d3.size, hp, ⟨blA, cpA, o1.onl d3 (fun e => ?_) (fun i hi e => ?_), o2⟩, ⟨bl', cp', d2, fun i hi => by obtain ⟨j, hj, e⟩ := d4 i hi; rw [e]; exact hb j hj⟩⟩
  · have := hS _ e; omega
  · have := hS _ e; have := o2 i hi; omega
set_option maxRecDepth 100000 in
set_option maxHeartbeats 16000000 in
theorem refinv_any (am : Option Addr) (n c : Nat) (lm : List (List UInt8)) (w : World) (hm : Bss w am n c lm) :
    Calls Try.prog 59 #[.slice am n c] w (MOwn (Gf.invL lm) (Gf.invE lm) w) := by
  have hlm := hm.1
  have hlem := hm.le.1
  have HBm : Hid (∀ W, Below w.heap.size w W → Bss W am n c lm) := Lib.hid fun W h => hm.below h
  have HQ : ∀ q, Below w.heap.size w (w.drewN q) := fun q => below_drewN (Below.refl _ _) q
  clear hm
  by_cases h1 : Gf.right lm = true
  case neg =>
    have h1 : Gf.right lm = false := by simpa using h1
    obtain ⟨e1, e2⟩ := inv_bad (m := lm) (by unfold Gf.sq; rw [h1]; rfl)
    rw [e1, e2]
    clear e1 e2
    have H1 := Lib.hid h1
    clear h1
    go_enter Try.func59, Try.ntmps59
    go_wp2_with (go_at_call 75; refine (refright_no H1.out (HBm.out _ (Below.refl _ _))).mono ?_; rintro e w1 ⟨rfl, q, rfl⟩)
    go_ret2
    exact refres_nil q rfl
  have H1 := Lib.hid h1
  obtain ⟨r1, r2, r3, r4, r5⟩ := right_spec h1
  rw [hlm] at r1 r2 r5
  obtain ⟨bm, om, am0, nm0, cm0, rfl, dm, hm0⟩ := (HBm.out w (Below.refl _ _)).get (show 0 < n by omega)
  have em := hm0.1
  rw [Nat.add_zero] at dm
  have hp1 : 0 < n := by omega
  have hle3 : nm0 ≤ 9223372036854775807 := by omega
  by_cases h3 : n = nm0
  case neg =>
    obtain ⟨e1, e2⟩ := inv_bad (m := lm) (by unfold Gf.sq; rw [h1, em, hlm, decide_eq_false h3]; rfl)
    rw [e1, e2]
    have t : ((n : Int) != (nm0 : Int)) = true := by simp; omega
    clear e1 e2 h1 r1 r2 r3 r4 r5 em hlm h3 hm0
    go_enter Try.func59, Try.ntmps59
    go_wp2_with (go_at_call 75; refine (refright_yes H1.out (HBm.out _ (Below.refl _ _))).mono ?_; rintro e w1 ⟨rfl, q, rfl⟩)
    go_ret2
    exact refres_nil q rfl
  have hsq : Gf.sq lm = true := by unfold Gf.sq; rw [h1, em, hlm, decide_eq_true h3]; rfl
  have HSQ := Lib.hid hsq
  have HLM := Lib.hid hlm
  subst h3
  have HL := Lib.hid (fun i hi => (r5 i hi).trans em : ∀ i, i < n → (nth lm i).length = n)
  have hn255 : n ≤ 255 := by omega
  have t : ((n : Int) != (n : Int)) = false := by simp
  clear h1 r1 r2 r3 r4 r5 em hlm hm0 hsq
  go_enter Try.func59, Try.ntmps59
  go_wp2_with fail
  refine (refright_yes H1.out (HBm.out _ (Below.refl _ _))).mono ?_
  rintro e w1 ⟨rfl, q, hq⟩
  have hb1 : Below w.heap.size w w1 := hq ▸ HQ q
  have dm1 := cell_later hb1 dm
  have HB1 := Lib.hid hb1
  clear hq hb1 HQ dm
  go_wp2_with fail
  clear t dm1
  go_loopw [5, 6] (fun v i wr => ∃ (k c : Nat) (a : Option Addr) (bl cp : Nat → Nat), k ≤ n ∧ i = .int .i64 k ∧ v = .slice a k c ∧ Below w.heap.size w wr ∧ Mo wr w.heap.size a k c n bl cp (at2 lm)) (fun _ i _ => n - (intOf i).toNat)
  case atStart => exact ⟨0, 0, none, id, id, Nat.zero_le _, rfl, rfl, HB1.out, Mo.nil _ _ _ _ _ _⟩
  case round =>
    clear HB1
    obtain ⟨k, c', a, bl, cp, hk, rfl, rfl, hb, hm⟩ := hrel
    have hkb : k ≤ 1000 := by omega
    by_cases hlt : k < n
    · obtain ⟨b2, o2, ai, ni, ci, e, d2, hr⟩ := (HBm.out _ hb).get hlt
      cases e
      obtain rfl : n = ni := by rw [← hr.1, HL.out k hlt]
      have HM := Lib.hid hm
      have HB2 := Lib.hid hb
      have HR := Lib.hid (hr.below (below_alloc wr (.cells #[] 5)))
      have hwz := hb.size
      have d2' := cell_later (below_alloc wr (.cells #[] 5)) d2
      clear hm hb hr
      go_wp2_with (first | (at_builtin; refine app_own (l := []) rfl _ _ rfl wr.heap.size rfl (Own.lit wr wr.heap.size [] (Nat.le_refl _) (by simp [maxLen])) rfl HR.out (by simp; omega) (le_alloc (Nat.le_refl _)) ?_; intro a3 c3 w3 h3 hb3 _; simp only [List.length_nil, Nat.zero_add, List.nil_append] at h3; obtain ⟨g3, rfl, hnr⟩ := new_row HM.out hwz hp1 h3 hb3 (fun j _ => rfl); clear h3 hb3; have HNR := Lib.hid hnr; clear hnr) | (at_builtin; refine app_mo rfl _ _ rfl w.heap.size rfl HNR.out.mo rfl HNR.out.cell HNR.out.cap HNR.out.row (by have := HNR.out.le; omega) HNR.out.ne.1 HNR.out.ne.2 (by omega) (by have := HNR.out.below.size; simp; omega) ?_; intro a' c' w' bl' cp' hm' hb'))
      have hb9 : Below w.heap.size w w' := (HB2.out.trans (HNR.out.below.mono HB2.out.size)).trans (((below_alloc w3 _).mono (Nat.le_trans hwz HNR.out.below.size)).trans hb')
      clear HM HB2 HNR
      go_wp2
      go_roundw
      case rel => exact ⟨k + 1, c', a', bl', cp', by omega, by go_num, rfl, hb9, hm'⟩
      case measure => simp [intOf]; omega
    · obtain rfl : k = n := by omega
      obtain ⟨gA, rfl, hA⟩ := hm.my hp1
      have HA := Lib.hid hA
      have HB2 := Lib.hid hb
      clear hm hA hb
      go_wp2_with fail
      refine (refunit_any k wr hp1 hn255).mono ?_
      rintro e w3 ⟨⟨gO, cO, blO, cpO, rfl, hc1, hc2, hO⟩, hb3⟩
      have hst : RSt w w3 wr.heap.size w3.heap.size gA gO k (at2 lm, Gf.idm) :=
        ⟨HB2.out.trans (hb3.mono HB2.out.size), Nat.le_refl _, ⟨⟨HA.out.base, HA.out.top.lt⟩, ⟨hO.base, hO.top.lt⟩⟩, ⟨⟨bl, cp, HA.out.below hb3, fun i hi => ⟨(HA.out.row i hi).1, (HA.out.row i hi).2.2.lt⟩⟩, ⟨blO, cpO, hO, fun i hi => ⟨(hO.row i hi).1, (hO.row i hi).2.2.lt⟩⟩⟩⟩
      have HST := Lib.hid hst
      have hcO : k ≤ cO ∧ cO ≤ maxLen := ⟨hc1, hc2⟩
      have HCO := Lib.hid hcO
      clear hst hO hb3 HA HB2 hc1 hc2 hcO
      go_wp2_with fail
      generalize wr.heap.size = B2 at *
      generalize w3.heap.size = B4 at *
      clear wr
      go_loopw [9] (fun v wi => ∃ (m : Nat) (s : Gf.Mt × Gf.Mt), m ≤ k ∧ v = .int .i64 m ∧ RSt w wi B2 B4 gA gO k s ∧ Hid (Gf.gauss k (at2 lm) m = some s)) (fun v _ => k - (intOf v).toNat)
      case atStart => exact ⟨0, _, Nat.zero_le _, rfl, HST.out, Lib.hid rfl⟩
      case round =>
        clear HST
        obtain ⟨m, s, hm, rfl, hst, HG⟩ := hrel
        by_cases hlt : m < k
        · have HST := Lib.hid hst
          clear hst
          go_wp2_with fail
          go_loop [10] (fun v => ∃ p : Nat, m ≤ p ∧ p ≤ k ∧ v = .int .i64 p ∧ Hid (∀ r, m ≤ r → r < p → s.1 r m = 0)) (fun v => k - (intOf v).toNat)
          case atStart => exact ⟨m, Nat.le_refl _, hm, rfl, Lib.hid (fun r h1 h2 => by omega)⟩
          case round =>
            obtain ⟨p, hmp, hpk, rfl, hz⟩ := hrel
            obtain ⟨blA, cpA, hA, hA2⟩ := HST.out.gi.a
            by_cases hlp : p < k
            · have c1 := hA.top.cell hlp
              have c2 := (hA.row p hlp).2.2.cell hlt
              have t1 : decide (p < k) = true := decide_eq_true hlp
              generalize hx : s.1 p m = x at *
              have HX := Lib.hid hx
              clear hx
              by_cases hx0 : x = 0
              · have t2 : (x == 0) = true := by simpa using hx0
                have HX0 := Lib.hid hx0
                clear hx0 hA hA2
                go_wp2
                go_round
                case rel => exact ⟨p + 1, by omega, by omega, by go_num, Lib.hid (fun r h1 h2 => by
                  by_cases e : r = p
                  · rw [e, HX.out, HX0.out]
                  · exact hz.out r h1 (by omega))⟩
                case measure => simp [intOf]; omega
              · have t2 : (x == 0) = false := by simpa using hx0
                have hpiv : Gf.piv k s.1 m = p := Gf.piv_of hmp (by omega) hz.out (fun _ => by rw [HX.out]; exact hx0)
                have HPIV := Lib.hid hpiv
                have HX0 := Lib.hid hx0
                clear hx0 hpiv
                have t3 : ((p : Int) == (k : Int)) = false := by simp; omega
                have c1m := hA.top.cell hlt
                have fz1 := hA.top.frozen m
                have fz2 := hA.top.frozen p
                obtain ⟨v2, hv2⟩ : ∃ v2, (wr.setCell ⟨gA, m, none⟩ (.slice (some ⟨blA p, 0, none⟩) k (cpA p))).cell? ⟨gA, p, none⟩ = some v2 := ⟨_, (hA.top.set m _).cell hlp⟩
                have hv3 : (wr.setCell ⟨gA, m, none⟩ (.slice (some ⟨blA p, 0, none⟩) k (cpA p))).frozen? ⟨gA, p, none⟩ = false := (hA.top.set m _).frozen p
                have hsw := HST.out.doA hA2 (swap_do hA hlt hlp rfl)
                have HSA := Lib.hid hsw
                clear hsw hA hA2
                go_wp2_with fail
                go_region
                all_goals
                  go_wp2_with fail
                  clear c1 c2 c1m fz1 fz2 hv2 hv3 t1 t2 t3
                  generalize ((wr.setCell ⟨gA, m, none⟩ (.slice (some ⟨blA p, 0, none⟩) k (cpA p))).setCell ⟨gA, p, none⟩ (.slice (some ⟨blA m, 0, none⟩) k (cpA m))).drew = w5 at *
                  obtain ⟨blO, cpO, hO, hO2⟩ := HSA.out.gi.o
                  have c1 := hO.top.cell hlp
                  have c1m := hO.top.cell hlt
                  have fz1 := hO.top.frozen m
                  have fz2 := hO.top.frozen p
                  obtain ⟨v3, hv2⟩ : ∃ v2, (w5.setCell ⟨gO, m, none⟩ (.slice (some ⟨blO p, 0, none⟩) k (cpO p))).cell? ⟨gO, p, none⟩ = some v2 := ⟨_, (hO.top.set m _).cell hlp⟩
                  have hv3 : (w5.setCell ⟨gO, m, none⟩ (.slice (some ⟨blO p, 0, none⟩) k (cpO p))).frozen? ⟨gO, p, none⟩ = false := (hO.top.set m _).frozen p
                  have hsw := HSA.out.doO hO2 (swap_do hO hlt hlp rfl)
                  have HSB := Lib.hid hsw
                  clear hsw hO hO2 HSA
                  go_region
                  all_goals
                    clear c1 c1m fz1 fz2 hv2 hv3
                    generalize ((w5.setCell ⟨gO, m, none⟩ (.slice (some ⟨blO p, 0, none⟩) k (cpO p))).setCell ⟨gO, p, none⟩ (.slice (some ⟨blO m, 0, none⟩) k (cpO m))).drew = w6 at *
                    dsimp only at HSB
                    obtain ⟨bl6, cp6, hA6, hA62⟩ := HSB.out.gi.a
                    have d1 := hA6.top.cell hlt
                    have d2 := (hA6.row m hlt).2.2.cell hlt
                    have hxm : (Gf.swapR s.1 m p) m m = x := by rw [← HX.out]; simp [Gf.swapR]
                    dsimp only at d2
                    rw [hxm] at d2
                    have HXM := Lib.hid hxm
                    clear hxm
                    have HR6 := Lib.hid (hA6.row m hlt).2.2
                    go_wp2_with (go_at_call 74; refine (inverse_any _ _).mono ?_; rintro e w' ⟨rfl, rfl⟩)
                    refine (refscale_any _ _ _ _ (Gf.inv x) _ HR6.out hn255).mono ?_
                    rintro e w7 hr7
                    have hs7 := HSB.out.doA hA62 (turn_do hA6 hlt hr7)
                    obtain rfl := hr7.1
                    have HS7 := Lib.hid hs7
                    clear hs7 hr7 hA6 hA62 HR6 d1 d2 HSB
                    obtain ⟨bl7, cp7, hO7, hO72⟩ := HS7.out.gi.o
                    have d1 := hO7.top.cell hlt
                    have HR7 := Lib.hid (hO7.row m hlt).2.2
                    go_wp2_with fail
                    refine (refscale_any _ _ _ _ (Gf.inv x) _ HR7.out hn255).mono ?_
                    rintro e w8 hr8
                    have hs8 := HS7.out.doO hO72 (turn_do hO7 hlt hr8)
                    obtain rfl := hr8.1
                    have egs : ((fun r => if r = m then fun j => Gf.mul (Gf.swapR s.1 m p m j) (Gf.inv x) else Gf.swapR s.1 m p r), (fun r => if r = m then fun j => Gf.mul (Gf.swapR s.2 m p m j) (Gf.inv x) else Gf.swapR s.2 m p r)) = Gf.gscale m p s := by
                      unfold Gf.gscale
                      rw [HXM.out]
                      rfl
                    have hs8' : RSt w w8 B2 B4 gA gO k (Gf.gscale m p s) := egs ▸ hs8
                    have HS8 := Lib.hid hs8'
                    have hstep : Gf.gauss k (at2 lm) (m + 1) = some (Gf.elim m k (Gf.gscale m p s)) := by
                      have := Gf.gauss_succ HG.out (show Gf.piv k s.1 m < k by rw [HPIV.out]; exact hlp)
                      rw [this]
                      unfold Gf.gstep
                      rw [HPIV.out]
                    have HSTEP := Lib.hid hstep
                    generalize Gf.gscale m p s = S at *
                    clear hs8 hs8' hr8 hO7 hO72 HR7 d1 HS7 egs hstep HXM HPIV HX HX0
                    go_wp2_with fail
                    go_loopw [12] (fun v wi => ∃ j : Nat, j ≤ k ∧ v = .int .i64 j ∧ RSt w wi B2 B4 gA gO k (Gf.elim m j S)) (fun v _ => k - (intOf v).toNat)
                    case atStart => exact ⟨0, Nat.zero_le _, rfl, HS8.out⟩
                    case round =>
                      clear HS8 HST
                      obtain ⟨j, hj, rfl, hst⟩ := hrel
                      by_cases hlj : j < k
                      · obtain ⟨blj, cpj, hAj, hAj2⟩ := hst.gi.a
                        have c1 := hAj.top.cell hlj
                        have c2 := (hAj.row j hlj).2.2.cell hlt
                        have c3 := hAj.top.cell hlt
                        have HRj := Lib.hid (hAj.row j hlj).2.2
                        have HRm := Lib.hid (hAj.row m hlt).2.2
                        have elp : j ≠ m ∧ (Gf.elim m j S).1 j m ≠ 0 → Gf.elim m (j + 1) S = (Gf.mixR (Gf.elim m j S).1 j m ((Gf.elim m j S).1 j m), Gf.mixR (Gf.elim m j S).2 j m ((Gf.elim m j S).1 j m)) := fun h => if_pos h
                        have eln : ¬ (j ≠ m ∧ (Gf.elim m j S).1 j m ≠ 0) → Gf.elim m (j + 1) S = Gf.elim m j S := fun h => if_neg h
                        generalize hyy : (Gf.elim m j S).1 j m = y at *
                        have ELP := Lib.hid elp
                        have ELN := Lib.hid eln
                        have HSJ := Lib.hid hst
                        have HAJ := Lib.hid (And.intro hAj hAj2)
                        clear elp eln hyy hst hAj hAj2
                        have hjb : j ≤ 1000 ∧ m ≤ 1000 := by omega
                        by_cases hjm : j = m
                        · have u1 : ((j : Int) != (m : Int)) = false := by simp [hjm]
                          have HEL := Lib.hid (ELN.out (fun h => h.1 hjm))
                          clear hjm
                          go_wp2
                          go_roundw
                          case rel => exact ⟨j + 1, by omega, by go_num, by rw [HEL.out]; exact HSJ.out⟩
                          case measure => simp [intOf]; omega
                        · have u1 : ((j : Int) != (m : Int)) = true := by simp; omega
                          by_cases hy0 : y = 0
                          · have HEL := Lib.hid (ELN.out (fun h => h.2 hy0))
                            have u2 : (n8 y != (0 : Int)) = false := by rw [hy0]; rfl
                            have u3 : (y == 0) = true := by simpa using hy0
                            clear hjm hy0
                            go_wp2
                            go_roundw
                            case rel => exact ⟨j + 1, by omega, by go_num, by rw [HEL.out]; exact HSJ.out⟩
                            case measure => simp [intOf]; omega
                          · have HEL := Lib.hid (ELP.out ⟨hjm, hy0⟩)
                            have u2 : (n8 y != (0 : Int)) = true := by rw [n8_bne0]; simpa using hy0
                            have u3 : (y == 0) = false := by simpa using hy0
                            have HJM := Lib.hid hjm
                            have HNE := Lib.hid (show blj m ≠ blj j from fun e => hjm (HAJ.out.1.apart m j hlt hlj e).symm)
                            clear hjm hy0
                            go_wp2_with fail
                            clear u1 u2 u3
                            go_still_tail 9, (by kernel_rfl)
                            go_wp2_with fail
                            refine (mix_any _ _ _ _ _ _ _ y _ (HRj.out.below (Below.refl _ _).drew) (HRm.out.below (Below.refl _ _).drew) HNE.out hn255).mono ?_
                            rintro e w9 hr9
                            have hs9 := HSJ.out.doA HAJ.out.2 (turn_do (HAJ.out.1.below (Below.refl _ _).drew) hlj hr9).from_drew
                            obtain rfl := hr9.1
                            have HS9 := Lib.hid hs9
                            clear hs9 hr9 c1 c2 c3 HRj HRm HSJ HAJ HNE
                            obtain ⟨blo, cpo, hOj, hOj2⟩ := HS9.out.gi.o
                            have c1 := hOj.top.cell hlj
                            have c3 := hOj.top.cell hlt
                            have HRj := Lib.hid (hOj.row j hlj).2.2
                            have HRm := Lib.hid (hOj.row m hlt).2.2
                            have HNE := Lib.hid (show blo m ≠ blo j from fun e => HJM.out (hOj.apart m j hlt hlj e).symm)
                            have HOJ := Lib.hid (And.intro hOj hOj2)
                            clear hOj hOj2
                            go_wp2_with fail
                            go_still_tail 9, (by kernel_rfl)
                            go_wp2_with fail
                            refine (mix_any _ _ _ _ _ _ _ y _ (HRj.out.below (Below.refl _ _).drew) (HRm.out.below (Below.refl _ _).drew) HNE.out hn255).mono ?_
                            rintro e w10 hr10
                            have hs10 := HS9.out.doO HOJ.out.2 (turn_do (HOJ.out.1.below (Below.refl _ _).drew) hlj hr10).from_drew
                            obtain rfl := hr10.1
                            have hs11 : RSt w w10 B2 B4 gA gO k (Gf.elim m (j + 1) S) := by rw [HEL.out]; exact hs10
                            have HS11 := Lib.hid hs11
                            clear hs10 hs11 hr10 c1 c3 HRj HRm HOJ HNE HS9
                            go_wp2
                            go_roundw
                            case rel => exact ⟨j + 1, by omega, by go_num, HS11.out⟩
                            case measure => simp [intOf]; omega
                      · obtain rfl : j = k := by omega
                        have HSN := Lib.hid hst
                        clear hst
                        go_wp2
                        go_roundw
                        case rel => exact ⟨m + 1, _, by omega, by go_num, HSN.out, HSTEP⟩
                        case measure => simp [intOf]; omega
            · obtain rfl : p = k := by omega
              have t1 : decide (p < p) = false := by simp
              have t3 : ((p : Int) == (p : Int)) = true := by simp
              have hg := Gf.gauss_fail hlt HG.out (by rw [Gf.piv_of hmp (Nat.le_refl _) hz.out (fun h => by omega)]; exact Nat.le_refl _)
              obtain ⟨e1, e2⟩ := inv_none HSQ.out HLM.out hg
              have HE1 := Lib.hid e1
              have HE2 := Lib.hid e2
              clear hg e1 e2 hA hA2
              go_wp2
              go_ret2
              rw [HE1.out, HE2.out]
              exact nil_own rfl HST.out.below
        · obtain rfl : m = k := by omega
          obtain ⟨e1, e2⟩ := inv_some HSQ.out HLM.out HG.out
          obtain ⟨bl, cp, hO, _⟩ := hst.gi.o
          have hnw : w.heap.size ≤ B2 := by have := hst.pl; omega
          have HP : Hid (MOwn (Gf.invL lm) (Gf.invE lm) w (.returned (.tuple #[.slice (some ⟨gO, 0, none⟩) m cO, .int .i64 0])) wr) := Lib.hid (by
            rw [e1, e2]
            exact ⟨⟨_, _, _, rfl, hO.bss HCO.out.1 HCO.out.2, .inr ⟨gO, m, bl, cp, s.2, rfl, hO.mono hnw, rfl⟩⟩, hst.below⟩)
          clear hst hO e1 e2
          go_wp2
          go_ret2
          exact HP.out
end Go.Proofs.Ytppgbapfmijboaa
