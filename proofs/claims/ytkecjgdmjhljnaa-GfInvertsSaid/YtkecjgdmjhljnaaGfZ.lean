/- The reference's Rows. -/
import Derived.Test.YtkecjgdmjhljnaaGfY
namespace Go.Proofs.Ytkecjgdmjhljnaa
open Go.RowKit Go.Deep

theorem own_rowTo {w : World} {B n c : Nat} {a : Option Addr} {l : List UInt8} (h : Own w B a n c l) (hn : 0 < n) : ∃ g, a = some ⟨g, 0, none⟩ ∧ B ≤ g ∧ (n ≤ c ∧ c ≤ maxLen) ∧ rowTo w g 5 n (fun j => .int .u8 (n8 (nth l j))) := by
  have hb := h.bs
  rcases h.2 with ⟨h1, h2⟩ | ⟨g, cap, cur, h1, h2, h3, h4, h5, h6, h7⟩
  · cases h1; omega
  · cases h1
    refine ⟨g, rfl, h2, ⟨h4, h5⟩, cur, h3, by simp at h6; omega, fun i hi => ?_⟩
    have e : (List.take (n * 1) cur.toList)[i]? = (vs l)[i]? := by rw [h7]
    rw [List.getElem?_take] at e
    have hl := hb.1
    simp [vs, hi, nth_eq l (show i < l.length by omega), (show i < l.length by omega)] at e ⊢
    exact e
/-- What a new row brings: all the facts that its append wants. -/
structure NewRow (w w3 : World) (B : Nat) (a : Option Addr) (n c C : Nat) (bl cp : Nat → Nat) (Z : Nat → Nat → UInt8) (g3 c3 : Nat) : Prop where
  below : Below w.heap.size w w3
  le : w.heap.size ≤ g3
  cap : C ≤ c3 ∧ c3 ≤ maxLen
  mo : Mo (w3.alloc (.cells #[.slice (some ⟨g3, 0, none⟩) C c3] 56)) B a n c C bl cp Z
  row : rowTo (w3.alloc (.cells #[.slice (some ⟨g3, 0, none⟩) C c3] 56)) g3 5 C (fun j => .int .u8 (n8 (Z n j)))
  cell : (w3.alloc (.cells #[.slice (some ⟨g3, 0, none⟩) C c3] 56)).cell? ⟨w3.heap.size, 0, none⟩ = some (.slice (some ⟨g3, 0, none⟩) C c3)
  ne : (∀ x, a = some x → g3 ≠ x.block) ∧ ∀ i, i < n → bl i ≠ g3
theorem new_row {w w3 : World} {B : Nat} {a a3 : Option Addr} {n c C c3 : Nat} {bl cp : Nat → Nat} {Z : Nat → Nat → UInt8} {o : Obj} {l : List UInt8} (hm : Mo w B a n c C bl cp Z) (hB : B ≤ w.heap.size) (hC : 0 < C)
    (h3 : Own w3 w.heap.size a3 C c3 l) (hb3 : Below w.heap.size (w.alloc o) w3) (hl : ∀ j, j < C → nth l j = Z n j) : ∃ g3, a3 = some ⟨g3, 0, none⟩ ∧ NewRow w w3 B a n c C bl cp Z g3 c3 := by
  obtain ⟨g3, rfl, h4, h5, h6⟩ := own_rowTo h3 hC
  have hb := (below_alloc w o).trans hb3
  refine ⟨g3, rfl, hb, h4, h5, (hm.below hb).below (below_alloc w3 _), (h6.congr (fun j hj => by rw [hl j hj])).below (below_alloc w3 _), box_new w3 _ _, fun x hx e => ?_, fun i hi e => ?_⟩
  · have := (hm.own.new x hx).2; omega
  · have := (hm.row i hi).2.2.lt; omega
set_option maxHeartbeats 4000000 in
theorem refrows_any (am an : Option Addr) (nm cm nn cn : Nat) (lm : List (List UInt8)) (ln : List Int) (w : World) (hm : Bss w am nm cm lm) (hv : Is w an nn cn ln) :
    Calls Try.prog 33 #[.slice am nm cm, .slice an nn cn] w (MOwn (Gf.rowsL lm ln) (Gf.rowsE lm ln) w) := by
  have hlm := hm.1
  have hlv := hv.1
  have hlem := hm.le.1
  have hlev := hv.le.1
  have HBm : Hid (∀ W, Below w.heap.size w W → Bss W am nm cm lm) := Lib.hid fun W h => hm.below h
  have HBv : Hid (∀ W, Below w.heap.size w W → Is W an nn cn ln) := Lib.hid fun W h => hv.below h
  have HQ : ∀ q, Below w.heap.size w (w.drewN q) := fun q => below_drewN (Below.refl _ _) q
  clear hm hv
  by_cases h1 : Gf.right lm = true
  case neg =>
    have h1 : Gf.right lm = false := by simpa using h1
    obtain ⟨e1, e2⟩ := rows_bad (m := lm) (v := ln) (by unfold Gf.rowsOk; rw [h1]; rfl)
    rw [e1, e2]
    clear e1 e2
    have H1 := Lib.hid h1
    clear h1
    go_enter Try.func33, Try.ntmps33
    go_wp2_with (go_at_call 28; refine (refright_no H1.out (HBm.out _ (Below.refl _ _))).mono ?_; rintro e w1 ⟨rfl, q, rfl⟩)
    go_ret2
    exact refres_nil q rfl
  have H1 := Lib.hid h1
  by_cases h2 : nn < 1
  · obtain ⟨e1, e2⟩ := rows_bad (m := lm) (v := ln) (by unfold Gf.rowsOk; rw [h1, hlv, decide_eq_false (fun h => by omega)]; rfl)
    rw [e1, e2]
    have t1 : decide ((nn : Int) < 1) = true := decide_eq_true (by omega)
    clear e1 e2 h1 h2 hlm hlv
    go_enter Try.func33, Try.ntmps33
    go_wp2_with (go_at_call 28; refine (refright_yes H1.out (HBm.out _ (Below.refl _ _))).mono ?_; rintro e w1 ⟨rfl, q, rfl⟩)
    go_ret2
    exact refres_nil q rfl
  have t1 : decide ((nn : Int) < 1) = false := decide_eq_false (by omega)
  by_cases h3 : 255 < nn
  · obtain ⟨e1, e2⟩ := rows_bad (m := lm) (v := ln) (by unfold Gf.rowsOk; rw [h1, hlv, decide_eq_false (fun h => by omega)]; rfl)
    rw [e1, e2]
    have t2 : decide ((255 : Int) < (nn : Int)) = true := decide_eq_true (by omega)
    clear e1 e2 h1 h2 h3 hlm hlv
    go_enter Try.func33, Try.ntmps33
    go_wp2_with (go_at_call 28; refine (refright_yes H1.out (HBm.out _ (Below.refl _ _))).mono ?_; rintro e w1 ⟨rfl, q, rfl⟩)
    go_ret2
    exact refres_nil q rfl
  have t2 : decide ((255 : Int) < (nn : Int)) = false := decide_eq_false (by omega)
  obtain ⟨r1, r2, r3, r4, r5⟩ := right_spec h1
  rw [hlm] at r1 r2 r5
  have HF := Lib.hid (And.intro (And.intro h1 hlm) (And.intro hlv (And.intro (And.intro r3 r4) r5)))
  have hbd : nm ≤ 255 ∧ nn ≤ 255 ∧ 1 ≤ nn := by omega
  generalize hC : (nth lm 0).length = C at *
  have HC := Lib.hid hC
  clear h1 h2 h3 hlm hlv r1 r2 r3 r4 r5 hC
  go_enter Try.func33, Try.ntmps33
  go_wp2_with fail
  refine (refright_yes H1.out (HBm.out _ (Below.refl _ _))).mono ?_
  rintro e w1 ⟨rfl, q, hq⟩
  have hb1 : Below w.heap.size w w1 := hq ▸ HQ q
  have HB1 := Lib.hid hb1
  clear hq hb1 HQ
  go_wp2_with fail
  clear t1 t2
  go_loopw [6, 7] (fun v i wr => ∃ (k c : Nat) (a : Option Addr) (bl cp : Nat → Nat), k ≤ nn ∧ i = .int .i64 k ∧ v = .slice a k c ∧ Below w.heap.size w wr ∧ Mo wr w.heap.size a k c C bl cp (fun i j => at2 lm (nth ln i).toNat j) ∧ Hid (∀ r, r < k → 0 ≤ nth ln r ∧ nth ln r < nm)) (fun _ i _ => nn - (intOf i).toNat)
  case atStart => exact ⟨0, 0, none, id, id, Nat.zero_le _, rfl, rfl, HB1.out, Mo.nil _ _ _ _ _ _, Lib.hid (fun r hr => by omega)⟩
  case round =>
    clear HB1
    obtain ⟨k, c, a, bl, cp, hk, rfl, rfl, hb, hm, hall⟩ := hrel
    have hkb : k ≤ 1000 := by omega
    by_cases hlt : k < nn
    · obtain ⟨b1, o1, rfl, d1⟩ := (HBv.out _ hb).get hlt
      generalize hz : nth ln k = z at *
      have HZ := Lib.hid hz
      clear hz
      by_cases hbad : z < 0 ∨ (nm : Int) ≤ z
      · obtain ⟨e1, e2⟩ := rows_bad (m := lm) (v := ln) (by
          unfold Gf.rowsOk
          rw [HF.out.1.1, HF.out.2.1, HF.out.1.2, decide_eq_false (fun h => by have := h.2.2 k hlt; rw [HZ.out] at this; omega)]
          rfl)
        rw [e1, e2]
        clear e1 e2
        have HB2 := Lib.hid hb
        by_cases hneg : z < 0
        · have t3 : decide (z < 0) = true := decide_eq_true hneg
          clear hbad hneg hm hb
          go_wp2
          go_ret2
          exact nil_own rfl HB2.out
        · have t3 : decide (z < 0) = false := decide_eq_false hneg
          obtain ⟨y, rfl⟩ : ∃ y : Nat, z = (y : Int) := ⟨z.toNat, by omega⟩
          have t4 : decide ((nm : Int) ≤ (y : Int)) = true := decide_eq_true (by omega)
          have t5 : decide (nm ≤ y) = true := decide_eq_true (by omega)
          clear hbad hneg hm hb
          go_wp2
          go_ret2
          exact nil_own rfl HB2.out
      · obtain ⟨y, rfl⟩ : ∃ y : Nat, z = (y : Int) := ⟨z.toNat, by omega⟩
        have hy : y < nm := by omega
        have t3 : decide ((y : Int) < 0) = false := decide_eq_false (by omega)
        have t4 : decide ((nm : Int) ≤ (y : Int)) = false := decide_eq_false (by omega)
        have t5 : decide (nm ≤ y) = false := decide_eq_false (by omega)
        obtain ⟨b2, o2, ai, ni, ci, rfl, d2, hr⟩ := (HBm.out _ hb).get hy
        obtain rfl : C = ni := by rw [← hr.1, HF.out.2.2.2 y hy]
        have HM := Lib.hid hm
        have HB2 := Lib.hid hb
        have HR := Lib.hid (hr.below (below_alloc wr (.cells #[] 5)))
        have hyb : y ≤ 255 := by omega
        have d1' := cell_later (below_alloc wr (.cells #[] 5)) d1
        have d2' := cell_later (below_alloc wr (.cells #[] 5)) d2
        have hCp : 0 < C := HF.out.2.2.1.1
        have hCb : C ≤ 255 := HF.out.2.2.1.2
        have hwz := hb.size
        clear hbad hm hb hr
        go_wp2_with (first | (at_builtin; refine app_own (l := []) rfl _ _ rfl wr.heap.size rfl (Own.lit wr wr.heap.size [] (Nat.le_refl _) (by simp [maxLen])) rfl HR.out (by simp; omega) (le_alloc (Nat.le_refl _)) ?_; intro a3 c3 w3 h3 hb3 _; simp only [List.length_nil, Nat.zero_add, List.nil_append] at h3; obtain ⟨g3, rfl, hnr⟩ := new_row HM.out hwz hCp h3 hb3 (fun j _ => by rw [HZ.out]; rfl); clear h3 hb3; have HNR := Lib.hid hnr; clear hnr) | (at_builtin; refine app_mo rfl _ _ rfl w.heap.size rfl HNR.out.mo rfl HNR.out.cell HNR.out.cap HNR.out.row (by have := HNR.out.le; omega) HNR.out.ne.1 HNR.out.ne.2 (by omega) (by have := HNR.out.below.size; simp; omega) ?_; intro a' c' w' bl' cp' hm' hb'))
        have hb9 : Below w.heap.size w w' := (HB2.out.trans (HNR.out.below.mono HB2.out.size)).trans (((below_alloc w3 _).mono (Nat.le_trans hwz HNR.out.below.size)).trans hb')
        clear HM HB2 HNR
        go_wp2
        go_roundw
        case rel => exact ⟨k + 1, c', a', bl', cp', by omega, by go_num, rfl, hb9, hm', Lib.hid (fun r hr => by
          by_cases e : r = k
          · rw [e, HZ.out]; omega
          · exact hall.out r (by omega))⟩
        case measure => simp [intOf]; omega
    · obtain rfl : k = nn := by omega
      obtain ⟨e1, e2⟩ := rows_good (m := lm) (v := ln) (by
          unfold Gf.rowsOk
          rw [HF.out.1.1, HF.out.2.1, HF.out.1.2, decide_eq_true ⟨by omega, by omega, hall.out⟩]
          rfl)
      obtain ⟨g, rfl, hmy⟩ := hm.my (by omega)
      have HP : Hid (MOwn (Gf.rowsL lm ln) (Gf.rowsE lm ln) w (.returned (.tuple #[.slice (some ⟨g, 0, none⟩) k c, .int .i64 0])) wr) := Lib.hid (by
        rw [e1, e2, HF.out.2.1, HC.out]
        exact ⟨⟨_, _, _, rfl, hmy.bss hm.own.len.2.1 hm.own.len.2.2, .inr ⟨g, C, bl, cp, _, rfl, hmy, rfl⟩⟩, hb⟩)
      clear e1 e2 hmy hm hb
      go_wp2
      go_ret2
      exact HP.out
end Go.Proofs.Ytkecjgdmjhljnaa
