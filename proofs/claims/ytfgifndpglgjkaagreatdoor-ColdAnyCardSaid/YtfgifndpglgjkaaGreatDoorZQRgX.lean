/- gf's Inverse: the walk. -/
import Derived.Test.YtfgifndpglgjkaaGreatDoorZQRgc
set_option linter.unusedVariables false
set_option linter.unusedSimpArgs false
set_option linter.unusedVariables false
set_option linter.unusedSimpArgs false
set_option maxRecDepth 100000
namespace Go.Proofs.YtfgifndpglgjkaaGreatDoor
open Go.RowKit Go.Deep

set_option maxHeartbeats 16000000 in
theorem minv_any (am : Option Addr) (n c : Nat) (lm : List (List UInt8)) (w : World) (hm : Bss w am n c lm) :
    Calls Tryz.prog 113 #[.slice am n c] w (MOwn (Gf.invL lm) (Gf.invE lm) w) := by
  have hlm := hm.1
  have hlem := hm.le.1
  generalize hW0 : w.alloc (.cells #[.slice am n c] 97) = w0
  have hb0 : Below w.heap.size w w0 := by rw [← hW0]; exact (Below.refl _ _).alloc (Nat.le_refl _) _
  have HBm : Hid (∀ W, Below w0.heap.size w0 W → Bss W am n c lm) := Lib.hid fun W h => (hm.below hb0).below h
  have c1 : w0.cell? ⟨w.heap.size, 0, none⟩ = some (.slice am n c) := by
    rw [← hW0]
    exact cell_of_row _ _ 0 #[.slice am n c] 97 (0, 0) (heap_alloc_new w _)
  have HW := Lib.hid hW0
  have HB0 := Lib.hid hb0
  clear hm hb0 hW0
  by_cases h1 : Gf.right lm = true
  case neg =>
    have h1 : Gf.right lm = false := by simpa using h1
    obtain ⟨e1, e2⟩ := inv_bad (m := lm) (by unfold Gf.sq; rw [h1]; rfl)
    rw [e1, e2]
    clear e1 e2
    have H1 := Lib.hid h1
    clear h1
    go_enter Tryz.func113, Tryz.ntmps113
    go_wp2_with fail
    rw [HW.out]
    refine wp_region_class (w0 := w0) (by kernel_rfl) (by kernel_rfl) (Below.refl _ _) ?_
    have l1 := BW.cell c1
    repeat (first | go_big_quiet_step ((go_at_call 129; exact calls_class (right_no H1.out (HBm.out _ (BW.b _))))))
    refine wpQuiet_nil ?_
    intro w1 hb1; replace hb1 := BW.of hb1
    clear l1
    have HS := Lib.hid hb1
    clear hb1
    go_wp2
    go_ret2
    exact nil_own rfl (HB0.out.trans (HS.out.mono HB0.out.size))
  have H1 := Lib.hid h1
  obtain ⟨r1, r2, r3, r4, r5⟩ := right_spec h1
  rw [hlm] at r1 r2 r5
  obtain ⟨bm, om, am0, nm0, cm0, rfl, dm, hm0⟩ := (HBm.out w0 (Below.refl _ _)).get (show 0 < n by omega)
  have em := hm0.1
  rw [Nat.add_zero] at dm
  have hp1 : 0 < n := by omega
  have hle3 : nm0 ≤ 9223372036854775807 := by omega
  by_cases h3 : n = nm0
  case neg =>
    obtain ⟨e1, e2⟩ := inv_bad (m := lm) (by unfold Gf.sq; rw [h1, em, hlm, decide_eq_false h3]; rfl)
    rw [e1, e2]
    have t : ((n : Int) != (nm0 : Int)) = true := by simp; omega
    clear e1 e2 h1 r1 r2 r3 r4 r5 em hlm h3 hm0
    go_enter Tryz.func113, Tryz.ntmps113
    go_wp2_with fail
    rw [HW.out]
    refine wp_region_class (w0 := w0) (by kernel_rfl) (by kernel_rfl) (Below.refl _ _) ?_
    have l1 := BW.cell c1
    have l4 := BW.cell dm
    repeat (first | go_big_quiet_step ((go_at_call 129; exact calls_class (right_yes H1.out (HBm.out _ (BW.b _))))))
    refine wpQuiet_nil ?_
    intro w1 hb1; replace hb1 := BW.of hb1
    clear l1 l4
    have HS := Lib.hid hb1
    clear hb1
    go_wp2
    go_ret2
    exact nil_own rfl (HB0.out.trans (HS.out.mono HB0.out.size))
  have hsq : Gf.sq lm = true := by unfold Gf.sq; rw [h1, em, hlm, decide_eq_true h3]; rfl
  have HSQ := Lib.hid hsq
  have HLM := Lib.hid hlm
  subst h3
  have HL := Lib.hid (fun i hi => (r5 i hi).trans em : ∀ i, i < n → (nth lm i).length = n)
  have HN : Hid (n ≤ 255) := Lib.hid (by omega)
  have hn3 : n ≤ 1000 := by omega
  have t : ((n : Int) != (n : Int)) = false := by simp
  clear h1 r1 r2 r3 r4 r5 em hlm hm0 hsq
  go_enter Tryz.func113, Tryz.ntmps113
  go_wp2_with fail
  rw [HW.out]
  refine wp_region_class (w0 := w0) (by kernel_rfl) (by kernel_rfl) (Below.refl _ _) ?_
  have l1 := BW.cell c1
  have l4 := BW.cell dm
  repeat (first | go_big_quiet_step ((go_at_call 129; exact calls_class (right_yes H1.out (HBm.out _ (BW.b _))))))
  refine wpQuiet_nil ?_
  intro w1 hb1; replace hb1 := BW.of hb1
  clear l1 l4 t
  have k1 := cell_later hb1 c1
  have HS := Lib.hid hb1
  have hel : Elem w1 130 #[.pointer (some ⟨w.heap.size, 0, none⟩)] n n (at2 lm) := by
    intro V i j hV hi hj
    have hv : Below w0.heap.size w0 V := HS.out.trans (hV.mono HS.out.size)
    exact copyElem i j _ n c lm _ n V (HBm.out V hv) (cell_later hv c1) hi hj HN.out HN.out (HL.out i hi)
  have HE := Lib.hid hel
  clear hel hb1 c1 dm
  go_wp2_with fail
  refine (made_ex 130 _ n n _ _ (enters_of Tryz.func130 (by kernel_rfl) rfl) (by have := HN.out; omega) (by have := HN.out; omega) HE.out).mono ?_
  rintro e w2 ⟨gA, blA, rfl, hmA, hbA⟩
  have HMA := Lib.hid hmA
  have HBA := Lib.hid hbA
  clear hmA hbA k1
  go_wp2_with fail
  refine (unit_any n _ (by omega) HN.out).mono ?_
  rintro e w3 ⟨⟨gO, blO, rfl, hmO⟩, hbO⟩
  have hbox : (w2.alloc (.cells #[.slice (some ⟨gA, 0, none⟩) n n] 97)).heap.size = w2.heap.size + 1 := by simp
  rw [hbox] at hmO
  have hb3 := (below_alloc w2 (.cells #[.slice (some ⟨gA, 0, none⟩) n n] 97)).trans (hbO.mono (by simp))
  have hb4 := hb3.trans ((below_alloc w3 (.cells #[.slice (some ⟨gO, 0, none⟩) n n] 97)).mono hb3.size)
  have hw1 : Below w.heap.size w w1 := HB0.out.trans (HS.out.mono HB0.out.size)
  have hw2 : Below w.heap.size w w2 := hw1.trans (HBA.out.mono hw1.size)
  have hnM : n ≤ maxLen := by have := HN.out; simp only [maxLen]; omega
  have hltA := HMA.out.top.lt
  have hltO := hmO.top.lt
  have hst : St w (w3.alloc (.cells #[.slice (some ⟨gO, 0, none⟩) n n] 97)) w1.heap.size w2.heap.size w3.heap.size gA gO n (at2 lm, Gf.idm) := by
    refine ⟨hw2.trans (hb4.mono hw2.size), ?_, box_new w3 _ _, by simp, ⟨⟨blA, _, (HMA.out.my hnM).below hb4, fun i hi => ⟨(HMA.out.row i hi).1, (HMA.out.row i hi).2.2.lt⟩⟩, ⟨blO, _, ((hmO.my hnM).below (below_alloc w3 _)).congr (fun i j _ _ => rfl), fun i hi => ⟨(hmO.row i hi).1, (hmO.row i hi).2.2.lt⟩⟩⟩⟩
    exact cell_later (below_alloc w3 _) (cell_later hbO (box_new w2 _ _))
  have hnm : Nm w w1.heap.size w2.heap.size w3.heap.size gA gO := ⟨hw1.size, ⟨HMA.out.base, hltA⟩, ⟨hmO.base, hltO⟩⟩
  have HST := Lib.hid hst
  have NM := Lib.hid hnm
  clear hmO hbO hbox hb3 hb4 hw1 hw2 hltA hltO hst hnm HMA HBA hnM HE HS
  go_wp2_with fail
  generalize w3.alloc (.cells #[.slice (some ⟨gO, 0, none⟩) n n] 97) = w4 at *
  generalize w1.heap.size = B1 at *
  generalize w2.heap.size = B2 at *
  generalize w3.heap.size = B4 at *
  clear w1 w2 w3
  go_loopw [40] (fun i wr => ∃ (k : Nat) (s : Gf.Mt × Gf.Mt), k ≤ n ∧ i = .int .i64 k ∧ St w wr B1 B2 B4 gA gO n s ∧ Hid (Gf.gauss n (at2 lm) k = some s)) (fun i _ => n - (intOf i).toNat)
  case atStart => exact ⟨0, _, Nat.zero_le _, rfl, HST.out, Lib.hid rfl⟩
  case round =>
    clear HST
    obtain ⟨k, s, hk, rfl, hst, HG⟩ := hrel
    by_cases hlt : k < n
    · have hkb : k ≤ 1000 := by omega
      have hca : ∀ o, (wr.alloc o).cell? ⟨B2, 0, none⟩ = some (.slice (some ⟨gA, 0, none⟩) n n) := fun o => cell_later (below_alloc wr o) hst.ca
      have hs := slice_from gA n k hlt
      have hsz := hst.size
      have HST := Lib.hid hst
      clear hst
      go_wp2_with fail
      clear hca hs
      obtain ⟨bl, cp, hA, _⟩ := (HST.out.later (below_alloc wr (.cells #[.int .i64 k] 3))).gi.a
      have hbk := box_new wr (.int .i64 k) 3
      refine (idx_any 133 #[.pointer (some ⟨wr.heap.size, 0, none⟩)] (some ⟨gA, k, none⟩) (n - k) (n - k) (fun i => .slice (some ⟨bl (k + i), 0, none⟩) n (cp (k + i))) (fun i => !(s.1 (k + i) k == 0)) _ (enters_of Tryz.func133 (by kernel_rfl) rfl) (by omega)
        (fun i hi => ⟨gA, k, rfl, hA.top.cell (by omega)⟩) (fun q i hi => (pivElem _ n _ _ k _ _ _ rfl ((hA.row (k + i) (by omega)).2.2.below (below_drewN (Below.refl _ _) q)) hlt HN.out (cell_later (below_drewN (Below.refl _ _) q) hbk)).mono fun e w' ⟨g1, q', g2⟩ => ⟨g1, q' + q, by rw [g2, World.drewN_drewN, Nat.add_comm]⟩)).mono ?_
      rintro e w5 ⟨r, q, rfl, hf, hq⟩
      have hst5 : St w w5 B1 B2 B4 gA gO n s := (HST.out.later (below_alloc wr (.cells #[.int .i64 k] 3))).later (hq ▸ below_drewN (Below.refl _ _) q)
      have hbk5 : w5.cell? ⟨wr.heap.size, 0, none⟩ = some (.int .i64 k) := cell_later (hq ▸ below_drewN (Below.refl _ _) q) hbk
      have hsz5 : w5.heap.size = wr.heap.size + 1 := by rw [hq]; simp
      have HST5 := Lib.hid hst5
      have HBK5 := Lib.hid hbk5
      have HSZ5 := Lib.hid hsz5
      clear hst5 hbk5 hA hbk hq HST hsz5
      rcases first_or (n - k) (fun i => !(s.1 (k + i) k == 0)) with hno | ⟨i, hi, hy, hfi⟩
      · obtain rfl := hf.none hno
        have hp := piv_no hk hno
        have hg := Gf.gauss_fail hlt HG.out (by omega)
        obtain ⟨e1, e2⟩ := inv_none HSQ.out HLM.out hg
        have HE1 := Lib.hid e1
        have HE2 := Lib.hid e2
        clear hno hf hp hg e1 e2
        go_wp2
        go_ret2
        rw [HE1.out, HE2.out]
        exact nil_own rfl (HST5.out.below.alloc HST5.out.below.size _)
      · obtain rfl := hf.some i hi hy hfi
        have hp := piv_at hi hy hfi
        have HP := Lib.hid hp
        have hnz : s.1 (k + i) k ≠ 0 := by simpa using hy
        have HNZ := Lib.hid hnz
        have hib : i ≤ 1000 := by omega
        have hin : k + i < n := by omega
        clear hf hy hfi hp hnz
        have h24 : B2 < B4 := by have := NM.out.o; omega
        have hb9 : B4 < wr.heap.size := hsz
        have hb10 : B4 < w5.heap.size := by have := HSZ5.out; omega
        go_wp2_with fail
        have hci := box_new w5 (.int .i64 i) 3
        have hck := cell_later (below_alloc w5 (.cells #[.int .i64 i] 3)) HBK5.out
        refine ((HST5.out.later (below_alloc w5 (.cells #[.int .i64 i] 3))).both NM.out 134 #[.pointer (some ⟨wr.heap.size, 0, none⟩), .pointer (some ⟨w5.heap.size, 0, none⟩)] (fun Z => Gf.swapR Z k (k + i)) (enters_of Tryz.func134 (by kernel_rfl) rfl)
          (fun W B g bl cp Z ho hg hM => doSwap B g n n n bl cp Z k i _ _ W hM hlt hin HN.out (by omega) (by omega) (box_kept ho hb9 h24 hck) (box_kept ho hb10 h24 hci))).mono ?_
        rintro e w6 ⟨rfl, ho6, hst6⟩
        have c9 := box_kept ho6 hb9 h24 hck
        have hsz6 := hst6.size
        have ca6 := hst6.ca
        obtain ⟨bl6, cp6, hA6, _⟩ := hst6.gi.a
        have c61 := hA6.top.cell hlt
        have c62 := (hA6.row k hlt).2.2.cell hlt
        have HST6 := Lib.hid hst6
        have HX : Hid ((Gf.swapR s.1 k (k + i)) k k ≠ 0) := Lib.hid (by simpa [Gf.swapR] using HNZ.out)
        have hw6 : w5.heap.size < w6.heap.size := by have := ho6.size; simp at this; omega
        clear ho6 hst6 hA6 hci hck
        dsimp only at c62
        generalize hxx : Gf.swapR s.1 k (k + i) k k = x at *
        have HXX := Lib.hid hxx
        clear hxx
        go_wp2_with fail
        go_region_held3 (fun W => W.cell? ⟨B2, 0, none⟩ = some (.slice (some ⟨gA, 0, none⟩) n n) ∧ W.cell? ⟨wr.heap.size, 0, none⟩ = some (.int .i64 k) ∧ W.cell? ⟨gA, k, none⟩ = some (.slice (some ⟨bl6 k, 0, none⟩) n (cp6 k)) ∧ W.cell? ⟨bl6 k, k, none⟩ = some (.int .u8 (n8 x))) (go_keep) (first | (go_at_call 92; refine (div_any 1 _ _).mono ?_; rintro e w' ⟨rfl, rfl⟩))
        all_goals
          rename_i hHeld
          clear hHeld
          have hb11 : B4 < w6.heap.size := by omega
          have e7 : Below w6.heap.size w6 (w6.alloc (.cells #[.int .u8 (n8 (Gf.div 1 x))] 5)).drew := (below_alloc w6 _).drew
          have hck7 := cell_later e7 c9
          have hcx7 : (w6.alloc (.cells #[.int .u8 (n8 (Gf.div 1 x))] 5)).drew.cell? ⟨w6.heap.size, 0, none⟩ = some (.int .u8 (n8 (Gf.div 1 x))) := box_new w6 _ _
          have hst7 := HST6.out.later e7
          clear e7 c61 c62 ca6
          have HST7 := Lib.hid hst7
          clear hst7
          go_wp2_with fail
          refine (HST7.out.both NM.out 135 #[.pointer (some ⟨wr.heap.size, 0, none⟩), .pointer (some ⟨w6.heap.size, 0, none⟩)] (fun Z => Gf.scaleR Z k (Gf.div 1 x)) (enters_of Tryz.func135 (by kernel_rfl) rfl)
            (fun W B g bl cp Z ho hg hM => doScale B g n n n bl cp Z (Gf.div 1 x) k _ _ W hM hlt HN.out HN.out (box_kept ho hb9 h24 hck7) (box_kept ho hb11 h24 hcx7))).mono ?_
          rintro e w8 ⟨rfl, ho8, hst8⟩
          have c98 := box_kept ho8 hb9 h24 hck7
          have egs : ((Gf.scaleR (Gf.swapR s.1 k (k + i)) k (Gf.div 1 x)), (Gf.scaleR (Gf.swapR s.2 k (k + i)) k (Gf.div 1 x))) = Gf.gscale k (k + i) s := by
            unfold Gf.gscale
            rw [HXX.out, div_one]
          dsimp only at hst8
          rw [egs] at hst8
          have HST8 := Lib.hid hst8
          have HC98 := Lib.hid c98
          have hstep : Gf.gauss n (at2 lm) (k + 1) = some (Gf.elim k n (Gf.gscale k (k + i) s)) := by
            have := Gf.gauss_succ HG.out (show Gf.piv n s.1 k < n by rw [HP.out]; exact hin)
            rw [this]
            unfold Gf.gstep
            rw [HP.out]
          have HSTEP := Lib.hid hstep
          generalize Gf.gscale k (k + i) s = S at *
          clear hck7 hcx7 HST7 HST6 ho8 hst8 c98 egs HX HXX HST5 HBK5 HSZ5 hw6 hsz6 HP HNZ c9 hstep hb11 hb10
          go_wp2_with fail
          generalize wr.heap.size = b9 at *
          clear wr
          go_loopw [68] (fun ii wi => ∃ j : Nat, j ≤ n ∧ ii = .int .i64 j ∧ St w wi B1 B2 B4 gA gO n (Gf.elim k j S) ∧ wi.cell? ⟨b9, 0, none⟩ = some (.int .i64 k)) (fun ii _ => n - (intOf ii).toNat)
          case atStart => exact ⟨0, Nat.zero_le _, rfl, HST8.out, HC98.out⟩
          case round =>
            clear HST8 HC98
            obtain ⟨j, hj, rfl, hstj, hcj⟩ := hrel
            by_cases hlj : j < n
            · have hjb : j ≤ 1000 := by omega
              have hszj := hstj.size
              obtain ⟨blj, cpj, hAj, _⟩ := hstj.gi.a
              have w9 : ∃ w9, wr.alloc (.cells #[.int .i64 j] 3) = w9 := ⟨_, rfl⟩
              obtain ⟨w9, hw9⟩ := w9
              have e9 : Below wr.heap.size wr w9 := hw9 ▸ below_alloc wr _
              have d0 := cell_later e9 hstj.ca
              have d1 : w9.cell? ⟨wr.heap.size, 0, none⟩ = some (.int .i64 j) := hw9 ▸ box_new wr _ _
              have d2 := cell_later e9 hcj
              have d3 := cell_later e9 (hAj.top.cell hlj)
              have d4 := cell_later e9 ((hAj.row j hlj).2.2.cell hlt)
              have hz9 : w9.heap.size = wr.heap.size + 1 := by rw [← hw9]; simp
              have HST9 := Lib.hid (hstj.later e9)
              have HW9 := Lib.hid hw9
              clear hstj hAj hcj e9 hw9
              have elp : j ≠ k ∧ (Gf.elim k j S).1 j k ≠ 0 → Gf.elim k (j + 1) S = (Gf.mixR (Gf.elim k j S).1 j k ((Gf.elim k j S).1 j k), Gf.mixR (Gf.elim k j S).2 j k ((Gf.elim k j S).1 j k)) := fun h => if_pos h
              have eln : ¬ (j ≠ k ∧ (Gf.elim k j S).1 j k ≠ 0) → Gf.elim k (j + 1) S = Gf.elim k j S := fun h => if_neg h
              generalize hyy : (Gf.elim k j S).1 j k = y at *
              have ELP := Lib.hid elp
              have ELN := Lib.hid eln
              clear elp eln hyy
              go_wp2_with fail
              rw [HW9.out]
              go_region_held3 (fun W => W.cell? ⟨B2, 0, none⟩ = some (.slice (some ⟨gA, 0, none⟩) n n) ∧ W.cell? ⟨wr.heap.size, 0, none⟩ = some (.int .i64 j) ∧ W.cell? ⟨b9, 0, none⟩ = some (.int .i64 k) ∧ W.cell? ⟨gA, j, none⟩ = some (.slice (some ⟨blj j, 0, none⟩) n (cpj j)) ∧ W.cell? ⟨blj j, k, none⟩ = some (.int .u8 (n8 y))) (go_keep) (fail)
              all_goals
                rename_i hHeld
                clear hHeld
                have e10 : Below w9.heap.size w9 (w9.alloc (.cells #[.int .u8 (n8 y)] 5)).drew := (below_alloc w9 _).drew
                have f1 := cell_later e10 d1
                have f2 := cell_later e10 d2
                have f3 : (w9.alloc (.cells #[.int .u8 (n8 y)] 5)).drew.cell? ⟨wr.heap.size + 1, 0, none⟩ = some (.int .u8 (n8 y)) := by rw [← hz9]; exact box_new w9 _ _
                have HST10 := Lib.hid (HST9.out.later e10)
                have hb14 : B4 < wr.heap.size + 1 := by omega
                clear e10 d0 d1 d2 d3 d4 HST9 HW9 hz9
                generalize (w9.alloc (.cells #[.int .u8 (n8 y)] 5)).drew = w10 at *
                by_cases hjk : j = k
                · have t1 : ((j : Int) != (k : Int)) = false := by simp [hjk]
                  have HEL := Lib.hid (ELN.out (fun h => h.1 hjk))
                  clear hjk
                  go_wp2
                  go_roundw
                  case rel => exact ⟨j + 1, by omega, by go_num, by rw [HEL.out]; exact HST10.out, f2⟩
                  case measure => simp [intOf]; omega
                · have t1 : ((j : Int) != (k : Int)) = true := by simp; omega
                  by_cases hy0 : y = 0
                  · have HEL := Lib.hid (ELN.out (fun h => h.2 hy0))
                    have t2 : (n8 y != (0 : Int)) = false := by rw [hy0]; rfl
                    clear hjk hy0
                    go_wp2
                    go_roundw
                    case rel => exact ⟨j + 1, by omega, by go_num, by rw [HEL.out]; exact HST10.out, f2⟩
                    case measure => simp [intOf]; omega
                  · have HEL := Lib.hid (ELP.out ⟨hjk, hy0⟩)
                    have t2 : (n8 y != (0 : Int)) = true := by rw [n8_bne0]; simpa using hy0
                    have t3 : (y == 0) = false := by simpa using hy0
                    have HJK := Lib.hid hjk
                    clear hjk hy0
                    go_wp2_with fail
                    refine (HST10.out.both NM.out 137 #[.pointer (some ⟨wr.heap.size, 0, none⟩), .pointer (some ⟨b9, 0, none⟩), .pointer (some ⟨wr.heap.size + 1, 0, none⟩)] (fun Z => Gf.mixR Z j k y) (enters_of Tryz.func137 (by kernel_rfl) rfl)
                      (fun W B g bl cp Z ho hg hM => doPlus B g n n n bl cp Z y j k _ _ _ W hM hlj hlt HJK.out HN.out HN.out (box_kept ho hszj h24 f1) (box_kept ho hb9 h24 f2) (box_kept ho hb14 h24 f3))).mono ?_
                    rintro e w11 ⟨rfl, ho11, hst11⟩
                    have f4 := box_kept ho11 hb9 h24 f2
                    rw [← HEL.out] at hst11
                    have HST11 := Lib.hid hst11
                    clear ho11 hst11 t1 t2 t3
                    go_wp2
                    go_roundw
                    case rel => exact ⟨j + 1, by omega, by go_num, HST11.out, f4⟩
                    case measure => simp [intOf]; omega
            · obtain rfl : j = n := by omega
              have HSTN := Lib.hid hstj
              clear hstj hcj
              go_wp2
              go_roundw
              case rel => exact ⟨k + 1, _, by omega, by go_num, HSTN.out, HSTEP⟩
              case measure => simp [intOf]; omega
    · obtain rfl : k = n := by omega
      obtain ⟨e1, e2⟩ := inv_some HSQ.out HLM.out HG.out
      have hco := hst.co
      obtain ⟨bl, cp, hO, _⟩ := hst.gi.o
      have hnw : w.heap.size ≤ B2 + 1 := by have := NM.out.b1; have := NM.out.a; omega
      have HP : Hid (MOwn (Gf.invL lm) (Gf.invE lm) w (.returned (.tuple #[.slice (some ⟨gO, 0, none⟩) k k, .int .i64 0])) wr) := Lib.hid (by
        rw [e1, e2]
        exact ⟨⟨_, _, _, rfl, hO.bss (Nat.le_refl _) (by have := HN.out; simp only [maxLen]; omega), .inr ⟨gO, k, bl, cp, s.2, rfl, hO.mono hnw, rfl⟩⟩, hst.below⟩)
      clear hst hO e1 e2
      go_wp2
      go_ret2
      exact HP.out
end Go.Proofs.YtfgifndpglgjkaaGreatDoor
