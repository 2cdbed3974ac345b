/- gf's Rows. -/
import Derived.Test.YtkecjgdmjhljnaaGfQ
import Derived.Test.YtkecjgdmjhljnaaInts
namespace Go.Proofs.Ytkecjgdmjhljnaa
open Go.RowKit Go.Deep

set_option maxHeartbeats 1000000 in
theorem idxi_any (f : Nat) (cap : Array Value) (a : Option Addr) (n c : Nat) (v : Nat → Value) (p : Nat → Bool) (w : World) (eg : Enters Try.prog f) (hn : n ≤ 1000000000)
    (hrow : RowV w a n v) (hp : PredO w f cap n v p) :
    Calls Try.prog 62 #[.slice a n c, .func (.func f) #[] cap] w (IdxPost n p w) := by
  have eg' : ∀ (args : Array Value) (w : World), (callFunc f args).run Try.prog w = .ok (.enter f args) w := eg
  have HP := Lib.hid hp
  have HR := Lib.hid hrow
  clear hp hrow
  go_enter Try.func62, Try.ntmps62
  go_wp2
  go_loopw [8] (fun i wr => ∃ k q : Nat, k ≤ n ∧ i = .int .i64 k ∧ wr = w.drewN q ∧ Hid (∀ j, j < k → p j = false)) (fun i _ => n - (intOf i).toNat)
  case atStart => exact ⟨0, 0, by omega, rfl, rfl, Lib.hid (fun j hj => by omega)⟩
  case round =>
    obtain ⟨k, q, hk, rfl, rfl, hall⟩ := hrel
    by_cases hlt : k < n
    · obtain ⟨b, off, rfl, hc⟩ := HR.out k hlt
      generalize hvk : v k = vk at *
      have hcall := HP.out q k hlt
      rw [hvk] at hcall
      have HV := Lib.hid hvk
      clear hvk
      by_cases hpk : p k = true
      · rw [hpk] at hcall
        have HC := Lib.hid hcall
        clear hcall
        have HK := Lib.hid hpk
        clear hpk
        go_wp2_with (go_at_fn f; refine HC.out.mono ?_; rintro e w' ⟨rfl, q', rfl⟩)
        go_ret
        exact ⟨k, _, rfl, fst_at hlt HK.out hall.out, rfl⟩
      · have hpk : p k = false := by simpa using hpk
        rw [hpk] at hcall
        have HC := Lib.hid hcall
        clear hcall
        have HK := Lib.hid hpk
        clear hpk
        go_wp2_with (go_at_fn f; refine HC.out.mono ?_; rintro e w' ⟨rfl, q', rfl⟩)
        go_roundw
        case rel => exact ⟨k + 1, q', by omega, by go_num, rfl, Lib.hid (fun j hj => by
            by_cases e : j = k
            · rw [e]; exact HK.out
            · exact hall.out j (by omega))⟩
        case measure => simp [intOf]; omega
    · obtain rfl : k = n := by omega
      go_wp2
      go_ret
      exact ⟨-1, _, rfl, fst_none hall.out, rfl⟩

theorem coni_any (f : Nat) (cap : Array Value) (a : Option Addr) (n c : Nat) (v : Nat → Value) (p : Nat → Bool) (w : World) (eg : Enters Try.prog f) (hn : n ≤ 1000000000)
    (hrow : RowV w a n v) (hp : PredO w f cap n v p) :
    Calls Try.prog 45 #[.slice a n c, .func (.func f) #[] cap] w (ConPost n p w) := by
  have HP := Lib.hid hp
  have HR := Lib.hid hrow
  clear hp hrow
  go_enter Try.func45, Try.ntmps45
  go_wp2_with fail
  refine (idxi_any f cap a n c v p w eg hn HR.out HP.out).mono ?_
  rintro e w' ⟨r, q, rfl, hf, rfl⟩
  rcases first_or n p with h | ⟨k, hk, h1, h2⟩
  · obtain rfl := hf.none h
    go_wp2
    go_ret
    exact ⟨_, q, rfl, ex_false h, rfl⟩
  · obtain rfl := hf.some k hk h1 h2
    have HH := Lib.hid (show ∃ k, k < n ∧ p k = true from ⟨k, hk, h1⟩)
    clear h1 h2 hf
    go_wp2
    go_ret
    exact ⟨true, q, rfl, ⟨fun _ => HH.out, fun _ => rfl⟩, rfl⟩


theorem rowsIn (z : Int) (am : Option Addr) (nm cm : Nat) (b : Nat) (w : World) (c2 : w.cell? ⟨b, 0, none⟩ = some (.slice am nm cm)) (hn : nm ≤ 255) :
    Calls Try.prog 46 #[.int .i64 z, .pointer (some ⟨b, 0, none⟩)] w fun e w' => e = .returned (.bool (!decide (0 ≤ z ∧ z < nm))) ∧ ∃ q, w' = w.drewN q := by
  go_enter Try.func46, Try.ntmps46
  by_cases h1 : z < 0
  · have t1 : decide (z < 0) = true := decide_eq_true h1
    have e : (!decide (0 ≤ z ∧ z < nm)) = true := by simp; omega
    rw [e]
    clear h1
    go_wp2
    go_ret
    exact ⟨rfl, 0, rfl⟩
  have t1 : decide (z < 0) = false := decide_eq_false h1
  obtain ⟨k, rfl⟩ : ∃ k : Nat, z = (k : Int) := ⟨z.toNat, by omega⟩
  by_cases h2 : nm ≤ k
  · have t2 : decide ((nm : Int) ≤ (k : Int)) = true := decide_eq_true (by omega)
    have t3 : decide (nm ≤ k) = true := decide_eq_true h2
    have e : (!decide (0 ≤ (k : Int) ∧ (k : Int) < nm)) = true := by simp; omega
    rw [e]
    clear h2 h1
    go_wp2
    go_ret
    exact ⟨rfl, 0, rfl⟩
  · have t2 : decide ((nm : Int) ≤ (k : Int)) = false := decide_eq_false (by omega)
    have t3 : decide (nm ≤ k) = false := decide_eq_false h2
    have e : (!decide (0 ≤ (k : Int) ∧ (k : Int) < nm)) = false := by simp; omega
    rw [e]
    clear h2 h1
    go_wp2
    go_ret
    exact ⟨rfl, 0, rfl⟩
theorem rowsElem (i j : Nat) (am an : Option Addr) (nm cm nn cn : Nat) (lm : List (List UInt8)) (ln : List Int) (C : Nat) (b2 b3 : Nat) (w : World) (hm : Bss w am nm cm lm) (hv : Is w an nn cn ln)
    (c2 : w.cell? ⟨b2, 0, none⟩ = some (.slice am nm cm)) (c3 : w.cell? ⟨b3, 0, none⟩ = some (.slice an nn cn)) (hi : i < nn) (hb : nn ≤ 255) (hC : ∀ k, k < nm → (nth lm k).length = C) (hj : j < C) (hCb : C ≤ 255) (hmb : nm ≤ 255)
    (hz : 0 ≤ nth ln i ∧ nth ln i < nm) :
    Calls Try.prog 47 #[.int .i64 i, .int .i64 j, .pointer (some ⟨b2, 0, none⟩), .pointer (some ⟨b3, 0, none⟩)] w fun e w' => e = .returned (.int .u8 (n8 (at2 lm (nth ln i).toNat j))) ∧ ∃ q, w' = w.drewN q := by
  obtain ⟨b1, o1, rfl, d1⟩ := hv.get hi
  generalize nth ln i = z at *
  obtain ⟨k, rfl⟩ : ∃ k : Nat, z = (k : Int) := ⟨z.toNat, by omega⟩
  have hk : k < nm := by omega
  obtain ⟨x1, o1, k1, y1, p1, rfl, d2, d3⟩ := hm.at2 hk (j := j) (by rw [hC k hk]; exact hj)
  rw [hC k hk] at d2
  have hi2 : i ≤ 255 := by omega
  have hj2 : j ≤ 255 := by omega
  have hk2 : k ≤ 255 := by omega
  have e : ((k : Int)).toNat = k := by simp
  rw [e]
  clear hv hm hC hz e
  go_enter Try.func47, Try.ntmps47
  go_wp2_with fail
  go_quiet (fail)
  go_wp2
  go_ret
  exact ⟨rfl, nq, rfl⟩
def Gf.rowsOk (m : List (List UInt8)) (n : List Int) : Bool := Gf.right m && decide (1 ≤ n.length ∧ n.length ≤ 255 ∧ ∀ i, i < n.length → 0 ≤ nth n i ∧ nth n i < m.length)
def Gf.rowsL (m : List (List UInt8)) (n : List Int) : List (List UInt8) := if Gf.rowsOk m n = true then mat n.length (nth m 0).length (fun i j => at2 m (nth n i).toNat j) else []
def Gf.rowsE (m : List (List UInt8)) (n : List Int) : Int := if Gf.rowsOk m n = true then 0 else 1
theorem rows_bad {m : List (List UInt8)} {v : List Int} (h : Gf.rowsOk m v = false) : Gf.rowsL m v = [] ∧ Gf.rowsE m v = 1 := by
  unfold Gf.rowsL Gf.rowsE; rw [h]; exact ⟨rfl, rfl⟩
theorem rows_good {m : List (List UInt8)} {v : List Int} (h : Gf.rowsOk m v = true) : Gf.rowsL m v = mat v.length (nth m 0).length (fun i j => at2 m (nth v i).toNat j) ∧ Gf.rowsE m v = 0 := by
  unfold Gf.rowsL Gf.rowsE; rw [if_pos h, if_pos h]; exact ⟨rfl, rfl⟩
set_option maxHeartbeats 4000000 in
theorem rows_any (am an : Option Addr) (nm cm nn cn : Nat) (lm : List (List UInt8)) (ln : List Int) (w : World) (hm : Bss w am nm cm lm) (hv : Is w an nn cn ln) (hnb : nn ≤ 1000000) :
    Calls Try.prog 29 #[.slice am nm cm, .slice an nn cn] w (MOwn (Gf.rowsL lm ln) (Gf.rowsE lm ln) w) := by
  have hlm := hm.1
  have hlv := hv.1
  have hlem := hm.le.1
  generalize hW0 : (w.alloc (.cells #[.slice am nm cm] 40)).alloc (.cells #[.slice an nn cn] 50) = w0
  have hb0 : Below w.heap.size w w0 := by rw [← hW0]; exact ((Below.refl _ _).alloc (Nat.le_refl _) _).alloc (le_alloc (Nat.le_refl _)) _
  have HBm : Hid (∀ W, Below w0.heap.size w0 W → Bss W am nm cm lm) := Lib.hid fun W h => (hm.below hb0).below h
  have HBv : Hid (∀ W, Below w0.heap.size w0 W → Is W an nn cn ln) := Lib.hid fun W h => (hv.below hb0).below h
  have c2 : w0.cell? ⟨w.heap.size, 0, none⟩ = some (.slice am nm cm) := by
    rw [← hW0]
    exact cell_later ((Below.refl _ _).alloc (Nat.le_refl _) _) (cell_of_row _ _ 0 #[.slice am nm cm] 40 (0, 0) (heap_alloc_new w _))
  have c3 : w0.cell? ⟨w.heap.size + 1, 0, none⟩ = some (.slice an nn cn) := by
    rw [← hW0]
    have h := cell_of_row _ _ 0 #[.slice an nn cn] 50 (0, 0) (heap_alloc_new (w.alloc (.cells #[.slice am nm cm] 40)) (.cells #[.slice an nn cn] 50))
    rw [show (w.alloc (.cells #[.slice am nm cm] 40)).heap.size = w.heap.size + 1 by simp] at h
    exact h
  have HW := Lib.hid hW0
  have HB0 := Lib.hid hb0
  clear hm hv hb0 hW0
  by_cases h1 : Gf.right lm = true
  case neg =>
    have h1 : Gf.right lm = false := by simpa using h1
    obtain ⟨e1, e2⟩ := rows_bad (m := lm) (v := ln) (by unfold Gf.rowsOk; rw [h1]; rfl)
    rw [e1, e2]
    clear e1 e2
    have H1 := Lib.hid h1
    clear h1
    go_enter Try.func29, Try.ntmps29
    go_wp2_with fail
    rw [HW.out]
    refine (right_no H1.out (HBm.out _ (Below.refl _ _))).mono ?_
    rintro e w1 ⟨rfl, hb1⟩
    have HS := Lib.hid hb1
    clear hb1
    go_wp2
    go_ret2
    exact nil_own rfl (HB0.out.trans (HS.out.mono HB0.out.size))
  have H1 := Lib.hid h1
  by_cases h2 : nn < 1
  · obtain ⟨e1, e2⟩ := rows_bad (m := lm) (v := ln) (by unfold Gf.rowsOk; rw [h1, hlv, decide_eq_false (fun h => by omega)]; rfl)
    rw [e1, e2]
    have t1 : decide ((nn : Int) < 1) = true := decide_eq_true (by omega)
    clear e1 e2 h1 h2 hlm hlv
    go_enter Try.func29, Try.ntmps29
    go_wp2_with fail
    rw [HW.out]
    refine (right_yes H1.out (HBm.out _ (Below.refl _ _))).mono ?_
    rintro e w1 ⟨rfl, hb1⟩
    have k3 := cell_later hb1 c3
    have HS := Lib.hid hb1
    clear hb1 c2 c3
    go_wp2
    go_ret2
    exact nil_own rfl (HB0.out.trans (HS.out.mono HB0.out.size))
  have t1 : decide ((nn : Int) < 1) = false := decide_eq_false (by omega)
  by_cases h3 : 255 < nn
  · obtain ⟨e1, e2⟩ := rows_bad (m := lm) (v := ln) (by unfold Gf.rowsOk; rw [h1, hlv, decide_eq_false (fun h => by omega)]; rfl)
    rw [e1, e2]
    have t2 : decide ((255 : Int) < (nn : Int)) = true := decide_eq_true (by omega)
    clear e1 e2 h1 h2 h3 hlm hlv
    go_enter Try.func29, Try.ntmps29
    go_wp2_with fail
    rw [HW.out]
    refine (right_yes H1.out (HBm.out _ (Below.refl _ _))).mono ?_
    rintro e w1 ⟨rfl, hb1⟩
    have k3 := cell_later hb1 c3
    have HS := Lib.hid hb1
    clear hb1 c2 c3
    go_wp2
    go_ret2
    exact nil_own rfl (HB0.out.trans (HS.out.mono HB0.out.size))
  have t2 : decide ((255 : Int) < (nn : Int)) = false := decide_eq_false (by omega)
  obtain ⟨r1, r2, r3, r4, r5⟩ := right_spec h1
  rw [hlm] at r1 r2 r5
  have hcon : ∀ W, Below w0.heap.size w0 W → Calls Try.prog 45 #[.slice an nn cn, .func (.func 46) #[] #[.pointer (some ⟨w.heap.size, 0, none⟩)]] W (ConPost nn (fun i => !decide (0 ≤ nth ln i ∧ nth ln i < nm)) W) := by
    intro W hW
    refine coni_any 46 _ _ nn cn (fun i => .int .i64 (nth ln i)) _ W (enters_of Try.func46 (by kernel_rfl) rfl) (by omega) (fun i hi => (HBv.out W hW).get hi) ?_
    intro q i hi
    exact (rowsIn _ am nm cm _ _ (cell_later (hW.trans (below_drewN (Below.refl _ _) q) |>.mono (Nat.le_refl _)) c2) r2).mono fun e w' ⟨g1, q', g2⟩ => ⟨g1, q' + q, by rw [g2, World.drewN_drewN, Nat.add_comm]⟩
  have HCON := Lib.hid hcon
  clear hcon
  obtain ⟨bm, om, am0, nm0, cm0, rfl, dm, hm0⟩ := (HBm.out w0 (Below.refl _ _)).get (show 0 < nm by omega)
  have em := hm0.1
  rw [Nat.add_zero] at dm
  have hp1 : 0 < nm := by omega
  have hle3 : nm0 ≤ 1000 ∧ nm ≤ 1000 ∧ nn ≤ 1000 := by omega
  by_cases h4 : ∃ k, k < nn ∧ (!decide (0 ≤ nth ln k ∧ nth ln k < nm)) = true
  · obtain ⟨e1, e2⟩ := rows_bad (m := lm) (v := ln) (by
      obtain ⟨k, hk, hk2⟩ := h4
      unfold Gf.rowsOk
      rw [h1, hlv, hlm, decide_eq_false (fun h => by have := h.2.2 k hk; simp at hk2; omega)]; rfl)
    rw [e1, e2]
    have H4 := Lib.hid h4
    clear e1 e2 h1 h2 h3 hlm hlv r1 r2 r3 r4 r5 h4 hm0 em
    go_enter Try.func29, Try.ntmps29
    go_wp2_with fail
    rw [HW.out]
    refine (right_yes H1.out (HBm.out _ (Below.refl _ _))).mono ?_
    rintro e w1 ⟨rfl, hb1⟩
    have k3 := cell_later hb1 c3
    have HS := Lib.hid hb1
    clear hb1 c2 c3
    go_wp2_with fail
    refine (HCON.out _ HS.out).mono ?_
    rintro e w2 ⟨r, q, rfl, hr, hq⟩
    obtain rfl : r = true := hr.2 H4.out
    have HS2 := Lib.hid (HS.out.trans ((hq ▸ below_drewN (Below.refl _ _) q : Below w1.heap.size w1 w2).mono HS.out.size))
    clear hr hq
    go_wp2
    go_ret2
    exact nil_own rfl (HB0.out.trans (HS2.out.mono HB0.out.size))
  have hall : ∀ k, k < nn → 0 ≤ nth ln k ∧ nth ln k < nm := fun k hk => by
    by_cases e : 0 ≤ nth ln k ∧ nth ln k < nm
    · exact e
    · exact absurd ⟨k, hk, by simp only [decide_eq_false e]; rfl⟩ h4
  obtain ⟨e1, e2⟩ := rows_good (m := lm) (v := ln) (by
      unfold Gf.rowsOk
      rw [h1, hlv, hlm, decide_eq_true ⟨by omega, by omega, hall⟩]; rfl)
  rw [e1, e2, hlv, em]
  have H4 := Lib.hid h4
  have HA := Lib.hid hall
  have HR5 := Lib.hid (And.intro (And.intro r2 (And.intro (show 1 ≤ nm0 by omega) (show nm0 ≤ 255 by omega))) (fun k hk => (r5 k hk).trans em : ∀ k, k < nm → (nth lm k).length = nm0))
  have HN : Hid (1 ≤ nn ∧ nn ≤ 255) := Lib.hid ⟨by omega, by omega⟩
  clear e1 e2 h1 h2 h3 hlm hlv r1 r2 r3 r4 r5 h4 hm0 em hall
  go_enter Try.func29, Try.ntmps29
  go_wp2_with fail
  rw [HW.out]
  refine (right_yes H1.out (HBm.out _ (Below.refl _ _))).mono ?_
  rintro e w1 ⟨rfl, hb1⟩
  have k3 := cell_later hb1 c3
  have HS := Lib.hid hb1
  clear hb1
  go_wp2_with fail
  refine (HCON.out _ HS.out).mono ?_
  rintro e w2 ⟨r, q, rfl, hr, hq⟩
  obtain rfl : r = false := by
    cases r with
    | false => rfl
    | true => exact absurd (hr.1 rfl) H4.out
  have hb2 := HS.out.trans ((hq ▸ below_drewN (Below.refl _ _) q : Below w1.heap.size w1 w2).mono HS.out.size)
  have HS2 := Lib.hid hb2
  have g2 := cell_later hb2 c2
  have g3 := cell_later hb2 c3
  have g4 := cell_later hb2 dm
  have hel : ∀ W, Below w2.heap.size w2 W → Elem W 47 #[.pointer (some ⟨w.heap.size, 0, none⟩), .pointer (some ⟨w.heap.size + 1, 0, none⟩)] nn nm0 (fun i j => at2 lm (nth ln i).toNat j) := by
    intro W hW V i j hV hi hj
    have hv : Below w0.heap.size w0 V := HS2.out.trans ((hW.trans (hV.mono hW.size)).mono HS2.out.size)
    exact rowsElem i j _ _ nm cm nn cn lm ln nm0 _ _ V (HBm.out V hv) (HBv.out V hv) (cell_later hv c2) (cell_later hv c3) hi HN.out.2 HR5.out.2 hj HR5.out.1.2.2 HR5.out.1.1 (HA.out i hi)
  have HE := Lib.hid hel
  clear hr hq hb2 c2 c3 dm k3 hel
  go_wp2_with fail
  go_still_tail 7, (by kernel_rfl)
  go_wp2_with (go_at_call 39; refine (made_ex 47 _ nn nm0 _ _ (enters_of Try.func47 (by kernel_rfl) rfl) (by have := HN.out.2; omega) (by have := HR5.out.1.2.2; omega) (HE.out _ (Below.refl _ _).drew)).mono ?_; rintro e w' ⟨g, bl, rfl, hm, hb⟩)
  go_ret2
  have hbb : Below w.heap.size w w' := HB0.out.trans ((HS2.out.trans (((Below.refl _ _).drew.trans hb).mono HS2.out.size)).mono HB0.out.size)
  exact (hm.own (w := w) (W := w2.drew) (Nat.le_trans HB0.out.size HS2.out.size) HN.out.2 HR5.out.1.2.2 hbb)
end Go.Proofs.Ytkecjgdmjhljnaa
