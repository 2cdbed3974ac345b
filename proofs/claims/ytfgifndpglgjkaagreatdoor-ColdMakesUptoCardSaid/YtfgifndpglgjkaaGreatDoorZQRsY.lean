/- rs, the reference: parity, Encode, Parity. -/
import Derived.Test.YtfgifndpglgjkaaGreatDoorZQRsX
import Derived.Deep.RegionHeld3
set_option linter.unusedVariables false
set_option linter.unusedSimpArgs false
set_option maxRecDepth 100000
set_option linter.unusedVariables false
set_option linter.unusedSimpArgs false
namespace Go.Proofs.YtfgifndpglgjkaaGreatDoor
open Go.RowKit Go.Deep

/-- A row of sums while it is made: before x all terms, at x k of them. -/
def Rs.pj (f : Nat → Nat → UInt8) (K x k y : Nat) : UInt8 := if y < x then Gf.sm K (f y) else if y = x then Gf.sm k (f y) else 0
theorem pj_zero (f : Nat → Nat → UInt8) (K y : Nat) : Rs.pj f K 0 0 y = 0 := by unfold Rs.pj; simp [Gf.sm]
theorem pj_next (f : Nat → Nat → UInt8) (K x y : Nat) : Rs.pj f K x K y = Rs.pj f K (x + 1) 0 y := by
  unfold Rs.pj
  by_cases h1 : y < x
  · rw [if_pos h1, if_pos (by omega)]
  · by_cases h2 : y = x
    · rw [if_neg h1, if_pos h2, if_pos (by omega)]
    · rw [if_neg h1, if_neg h2, if_neg (by omega)]; simp [Gf.sm]
theorem pj_done {f : Nat → Nat → UInt8} {K L y : Nat} (h : y < L) : Rs.pj f K L 0 y = Gf.sm K (f y) := by unfold Rs.pj; rw [if_pos h]
theorem pj_step {w : World} {b K x k C : Nat} {f : Nat → Nat → UInt8} (h : rowTo w b 5 C (fun y => .int .u8 (n8 (Rs.pj f K x k y)))) :
    rowTo (w.setCell ⟨b, x, none⟩ (.int .u8 (n8 (Rs.pj f K x k x ^^^ f x k)))) b 5 C (fun y => .int .u8 (n8 (Rs.pj f K x (k + 1) y))) := by
  refine (h.set x _).congr fun y hy => ?_
  show (if y = x then _ else Value.int .u8 (n8 (Rs.pj f K x k y))) = .int .u8 (n8 (Rs.pj f K x (k + 1) y))
  by_cases e : y = x
  · subst e
    rw [if_pos rfl]
    unfold Rs.pj
    simp [Gf.sm]
  · rw [if_neg e]
    unfold Rs.pj
    rw [if_neg e, if_neg e]

set_option maxHeartbeats 4000000 in
theorem refpar_any (b K M : Nat) (aq : Option Addr) (cs L : Nat) (ls : List (List UInt8)) (w : World) (hc : RCod w b K M) (hs : Bss w aq K cs ls) (hL : ∀ i, i < K → (nth ls i).length = L)
    (h1 : 1 ≤ K) (h2 : K + M ≤ 255) (h3 : 1 ≤ L) (h4 : L ≤ 100000000) :
    Calls Tryz.prog 76 #[.pointer (some ⟨b, 0, none⟩), .slice aq K cs] w (MoP M L (Rs.tm (mat M K (Gf.cau K)) ls K) w) := by
  have HC : Hid (∀ W, Below w.heap.size w W → RCod W b K M) := Lib.hid fun W h => hc.below h
  have HS : Hid (∀ W, Below w.heap.size w W → Bss W aq K cs ls) := Lib.hid fun W h => hs.below h
  have k1 := hc.k
  have k2 := hc.m
  have HL := Lib.hid hL
  clear hc hs hL
  by_cases hM : M = 0
  · subst hM
    have t2 : (((0 : Nat) : Int) == 0) = true := rfl
    go_enter Tryz.func76, Tryz.ntmps76
    go_wp2
    go_ret
    exact ⟨⟨_, _, id, id, rfl, Mo.nil _ _ _ _ _ _⟩, Below.refl _ _⟩
  have t2 : ((M : Int) == 0) = false := by simp; omega
  have hM1 : 1 ≤ M := by omega
  clear hM
  have hmk := run_make_row' (P := Tryz.prog) 25 5 (.int .u8 0) 1 Tryz.underlying25 info8 rfl .i64 .i64 L (by omega) (by omega)
  go_enter Tryz.func76, Tryz.ntmps76
  go_wp2_with fail
  have hRC : M + K ≤ 256 := by omega
  go_region_held3 (fun W => W.cell? ⟨b, 0, none⟩ = some (.int .i64 K) ∧ W.cell? ⟨b, 1, none⟩ = some (.int .i64 M)) (go_keep) (first | (go_at_call 108; refine (refcauchy_any M K _ hM1 h1 hRC).mono ?_; rintro e w2 ⟨⟨g, cg, blg, cpg, rfl, g1, g2, hmg⟩, hb2⟩; have HB2 : Hid (Below w.heap.size w w2) := Lib.hid ((Below.refl w.heap.size w).drew.trans hb2); have q1 := cell_later HB2.out k1; have q2 := cell_later HB2.out k2))
  rename_i hHeld
  clear hHeld
  have HG : Hid (∀ W, Below w2.heap.size w2 W → Bss W (some ⟨g, 0, none⟩) M cg (mat M K (Gf.cau K))) := Lib.hid fun W h => (hmg.bss g1 g2).below h
  obtain ⟨Y, hY⟩ : ∃ Y, Rs.tm (mat M K (Gf.cau K)) ls K = Y := ⟨_, rfl⟩
  have HY := Lib.hid hY
  obtain ⟨Zm, hZm⟩ : ∃ Zm, mat M K (Gf.cau K) = Zm := ⟨_, rfl⟩
  have HZL : Hid (∀ j, j < M → (nth Zm j).length = K) := Lib.hid fun j hj => by rw [← hZm]; exact cau_row hj
  have HYt : Hid (∀ j y, Gf.sm K ((fun y q => Rs.term Zm ls j y q) y) = Y j y) := Lib.hid fun j y => by rw [← hY, ← hZm]; rfl
  rw [hZm] at HG
  clear hmg hb2 k1 k2 q1 q2 t2 g1 g2 hY hZm hRC
  go_wp2_with fail
  go_loopw [7, 8] (fun m i wr => ∃ (j c : Nat) (a : Option Addr) (bl cp : Nat → Nat), j ≤ M ∧ i = .int .i64 j ∧ m = .slice a j c ∧ Below w2.heap.size w2 wr ∧ Mo wr w2.heap.size a j c L bl cp Y) (fun _ i _ => M - (intOf i).toNat)
  case atStart => exact ⟨0, 0, none, id, id, Nat.zero_le _, rfl, rfl, Below.refl _ _, Mo.nil _ _ _ _ _ _⟩
  case round =>
    obtain ⟨j, c, a, bl, cp, hj, rfl, rfl, hb, hm⟩ := hrel
    obtain ⟨wo, rfl⟩ : ∃ x, x = wr := ⟨wr, rfl⟩
    have hbw := HB2.out.trans (hb.mono HB2.out.size)
    have k2 := (HC.out _ hbw).m
    by_cases hlt : j < M
    · obtain ⟨ai, ci, hv⟩ := (HS.out _ hbw).vals
      obtain ⟨b0, o0, e0, d0⟩ := (hv 0 h1).1
      rw [HL.out 0 h1, Nat.add_zero] at d0
      subst e0
      have HM := Lib.hid hm
      have HB := Lib.hid hb
      have HBW := Lib.hid hbw
      have hwz := hb.size
      obtain ⟨f, hf⟩ : ∃ f : Nat → Nat → UInt8, (fun y q => Rs.term Zm ls j y q) = f := ⟨_, rfl⟩
      have HF : Hid (∀ y q, f y q = Gf.mul (at2 Zm j q) (at2 ls q y)) := Lib.hid fun y q => by rw [← hf]; rfl
      have HFY : Hid (∀ y, Gf.sm K (f y) = Y j y) := Lib.hid fun y => by rw [← hf]; exact HYt.out j y
      have hrow0 : rowTo (wo.alloc (.cells (madeCells #[.int .u8 0] L) 5)) wo.heap.size 5 L (fun y => .int .u8 (n8 (Rs.pj f K 0 0 y))) := (rowTo.of_is (World.rowIs_made wo (.int .u8 0) L 5)).congr (fun y _ => by rw [pj_zero]; rfl)
      have HR0 := Lib.hid hrow0
      clear hm hb hv hbw hrow0 hf
      go_wp2_with fail
      clear k2 d0
      go_loopw [10] (fun i wx => ∃ x : Nat, x ≤ L ∧ i = .int .i64 x ∧ Below wo.heap.size wo wx ∧ rowTo wx wo.heap.size 5 L (fun y => .int .u8 (n8 (Rs.pj f K x 0 y)))) (fun i _ => L - (intOf i).toNat)
      case atStart => exact ⟨0, Nat.zero_le _, rfl, below_alloc wo _, HR0.out⟩
      case round =>
        clear HR0
        obtain ⟨x, hx, rfl, hbx, hr⟩ := hrel
        obtain ⟨wx, rfl⟩ : ∃ y, y = wr := ⟨wr, rfl⟩
        by_cases hxL : x < L
        · have HBX := Lib.hid hbx
          have HR := Lib.hid hr
          clear hbx hr
          go_wp2_with fail
          go_loopw [11] (fun i wx => ∃ k : Nat, k ≤ K ∧ i = .int .i64 k ∧ Below wo.heap.size wo wx ∧ rowTo wx wo.heap.size 5 L (fun y => .int .u8 (n8 (Rs.pj f K x k y)))) (fun i _ => K - (intOf i).toNat)
          case atStart => exact ⟨0, Nat.zero_le _, rfl, HBX.out, HR.out⟩
          case round =>
            clear HBX HR
            obtain ⟨k, hk, rfl, hbk, hr⟩ := hrel
            have hbkw := HBW.out.trans (hbk.mono HBW.out.size)
            have k1 := (HC.out _ hbkw).k
            by_cases hkK : k < K
            · have c2 := hr.cell hxL
              have c3 := hr.frozen x
              obtain ⟨x1, o1, z1, y1, p1, q1, d1, d2⟩ := (HG.out _ (HB.out.trans (hbk.mono HB.out.size))).at2 hlt (j := k) (by rw [HZL.out j hlt]; exact hkK)
              obtain ⟨x2, o2, z2, y2, p2, q2, d3, d4⟩ := (HS.out _ hbkw).at2 hkK (j := x) (by rw [HL.out k hkK]; exact hxL)
              cases q1
              cases q2
              rw [HZL.out j hlt, Nat.zero_add] at d1
              rw [HL.out k hkK] at d3
              have HS2 := Lib.hid (pj_step hr)
              rw [HF.out x k] at HS2
              generalize Rs.pj f K x k x = sv at *
              have HBS := Lib.hid (hbk.setCell (Nat.le_refl _) _ : Below wo.heap.size wo (wr.setCell ⟨wo.heap.size, x, none⟩ (.int .u8 (n8 (sv ^^^ Gf.mul (at2 Zm j k) (at2 ls k x))))))
              clear hbk hr hbkw
              go_wp2_with fail
              clear k1
              refine wp_region_still_tail 23 (by kernel_rfl) (by kernel_rfl) ?_
              simp only [List.take_succ_cons, List.take_zero, List.drop_succ_cons, List.drop_zero]
              repeat still_step
              still_call (refmul_q _ _ _)
              repeat still_step
              refine wpStill_nil ?_
              go_wp2
              go_roundw
              case rel => exact ⟨k + 1, by omega, by go_num, HBS.out.drew, HS2.out.below (Below.refl _ _).drew⟩
              case measure => simp [intOf]; omega
            · obtain rfl : k = K := by omega
              have HR := Lib.hid (hr.congr (fun y _ => by rw [pj_next]))
              have HBX := Lib.hid hbk
              clear hbk hr hbkw
              go_wp2
              go_roundw
              case rel => exact ⟨x + 1, by omega, by go_num, HBX.out, HR.out⟩
              case measure => simp [intOf]; omega
        · obtain rfl : x = L := by omega
          have hrr : rowTo wx wo.heap.size 5 x (fun y => .int .u8 (n8 (Y j y))) := hr.congr (fun y hy => by rw [pj_done hy, HFY.out])
          have HNR := Lib.hid (new_made HM.out hwz (by simp only [maxLen]; omega) hbx hrr)
          clear hr hrr hbx
          go_wp2_with (at_builtin; refine app_mo rfl _ _ rfl w2.heap.size rfl HNR.out.mo rfl HNR.out.cell HNR.out.cap HNR.out.row (by have := HNR.out.le; omega) HNR.out.ne.1 HNR.out.ne.2 (by omega) (by have := HNR.out.below.size; simp; omega) ?_; intro a' c' w' bl' cp' hm' hb'; have HB10 := Lib.hid ((HB.out.trans (HNR.out.below.mono hwz)).trans (((below_alloc wx _).mono (Nat.le_trans hwz HNR.out.below.size)).trans hb')); have HM10 := Lib.hid hm'; clear hm' hb')
          go_roundw
          case rel => exact ⟨j + 1, c', a', bl', cp', by omega, by go_num, rfl, HB10.out, HM10.out⟩
          case measure => simp [intOf]; omega
    · obtain rfl : j = M := by omega
      have HM := Lib.hid (hm.mono HB2.out.size)
      have HB := Lib.hid (HB2.out.trans (hb.mono HB2.out.size))
      clear hm hb hbw
      go_wp2
      go_ret
      rw [HY.out]
      exact ⟨⟨_, _, _, _, rfl, HM.out⟩, HB.out⟩
end Go.Proofs.YtfgifndpglgjkaaGreatDoor
