/- master.Do. -/
import Derived.Test.YtincllchoflpmaaMsK
namespace Go.Proofs.Ytincllchoflpmaa
open Go.RowKit
set_option linter.unusedVariables false

theorem rise_le : ∀ (l : List Int) (k : Int), l.Pairwise (· < ·) → (∀ n ∈ l, k ≤ n ∧ n < 16) → k ≤ 16 → (l.length : Int) ≤ 16 - k
  | [], k, _, _, hk => by simp; omega
  | n :: l, k, hp, hb, hk => by
    rw [List.pairwise_cons] at hp
    have h1 := hb n List.mem_cons_self
    have h2 := rise_le l (n + 1) hp.2 (fun m hm => ⟨by have := hp.1 m hm; omega, (hb m (List.mem_cons_of_mem _ hm)).2⟩) (by omega)
    simp only [List.length_cons]
    omega
theorem Cf.stores16 {c : Cf} (h : c.Ok) : c.stores.length ≤ 16 := by
  have := rise_le c.stores 0 h.rise (fun n hn => by
    have h1 := h.st n hn
    unfold Ms.node at h1
    simpa using h1) (by omega)
  omega
theorem Cf.stores_le {c : Cf} (h : c.Ok) : c.stores.length ≤ 1000000 := by have := Cf.stores16 h; omega
set_option maxRecDepth 8000 in
set_option maxHeartbeats 6000000 in
theorem do_any (c : Cf) (ac ast : Option Addr) (cc cs : Nat) (x : Cm) (w : World) (h : CfR w c ac cc ast cs) (hn : c.chain.length ≤ 1000000000 ∧ c.stores.length ≤ 1000000000) :
    Calls Try.prog 18 #[cval c ac cc ast cs, xval x] w (DoP w (c.step x)) := by
  have hb := box3 w c ac cc ast cs x
  have HR := Lib.hid h
  have HHN := Lib.hid hn
  clear h hn
  unfold cval xval
  go_enter Try.func18, Try.ntmps18
  go_upto_region 1 with fail
  obtain ⟨W3, hW3⟩ : ∃ W3, (((w.alloc (.cells #[.int .i64 c.epoch, .slice ac c.chain.length cc, .slice ast c.stores.length cs] 41)).alloc (.cells #[.int .i64 x.kind, .int .i64 x.node, .int .i64 x.birth, .int .i64 x.epoch] 45)).alloc (.cells #[.int .i64 0, .slice none 0 0, .slice none 0 0] 41)) = W3 := ⟨_, rfl⟩
  obtain ⟨b2, hb2⟩ : ∃ b, w.heap.size = b := ⟨_, rfl⟩
  rw [hW3] at hb ⊢
  have hb' : Box3 w W3 b2 (b2 + 1) (b2 + 2) c ac cc ast cs x := by rw [← hb2]; exact hb
  rw [hb2]
  clear hb hW3
  obtain ⟨b3, hb3⟩ : ∃ b, b2 + 1 = b := ⟨_, rfl⟩
  obtain ⟨b4, hb4⟩ : ∃ b, b2 + 2 = b := ⟨_, rfl⟩
  rw [hb3, hb4] at hb'
  rw [hb3]
  first | rw [hb4] | rw [show b3 + 1 = b4 by omega]
  have HBX := Lib.hid hb'
  have p0 := hb'.cf.epoch
  have p1 := hb'.cf.chain
  have p2 := hb'.cf.stores
  have q0 := hb'.cm.kind
  have q1 := hb'.cm.node
  have q2 := hb'.cm.birth
  have q3 := hb'.cm.epoch
  simp only [Nat.zero_add] at q1 q2 q3
  have r0 := hb'.res.epoch
  have r1 := hb'.res.chain
  have r2 := hb'.res.stores
  have f4 := hb'.f4
  have f2 := hb'.f2
  have HRW := Lib.hid (HR.out.below hb'.below)
  have HCK := Lib.hid (check_any c ac ast cc cs W3 HRW.out)
  obtain ⟨ck, hck⟩ : ∃ ck, ck = c.chk := ⟨_, rfl⟩
  rw [← hck] at HCK
  have HCE := Lib.hid hck
  clear hb' hb2 hb3 hb4 hck
  go_wp2_with fail
  unfold cval at HCK
  refine HCK.out.mono ?_
  rintro e W ⟨rfl, hbw⟩
  replace HBX := Lib.hid (HBX.out.later hbw)
  replace HRW := Lib.hid (HRW.out.below hbw)
  replace p0 := cell_later hbw p0
  replace p1 := cell_later hbw p1
  replace p2 := cell_later hbw p2
  replace q0 := cell_later hbw q0
  replace q1 := cell_later hbw q1
  replace q2 := cell_later hbw q2
  replace q3 := cell_later hbw q3
  replace r0 := cell_later hbw r0
  replace r1 := cell_later hbw r1
  replace r2 := cell_later hbw r2
  replace f2 := HBX.out.f2
  replace f4 := HBX.out.f4
  clear hbw HCK HR
  cases hok : c.ok with
  | false =>
    have hck1 : ck = 1 := by rw [HCE.out]; unfold Cf.chk; rw [hok]; rfl
    subst hck1
    have HST := Lib.hid (step_bad (x := x) hok)
    clear hok
    obtain ⟨y0, y1, y2, hbe⟩ := err_end HBX.out
    have HBE := Lib.hid hbe
    clear hbe
    go_wp2
    refine bodyPost_ret (v := .tuple #[.agg #[.int .i64 0, .slice none 0 0, .slice none 0 0], .int .i64 1]) (by simp [results, Try.results18, go_sem, y0, y1, y2]) rfl ?_
    rw [HST.out]
    exact DoP.err HBE.out
  | true =>
    have hck1 : ck = 0 := by rw [HCE.out]; unfold Cf.chk; rw [hok]; rfl
    subst hck1
    have HOK := Lib.hid hok
    clear hok
    obtain ⟨kd, hkd⟩ : ∃ kd, kd = x.kind := ⟨_, rfl⟩
    obtain ⟨ep, hep⟩ : ∃ ep, ep = c.epoch := ⟨_, rfl⟩
    have HKD := Lib.hid (And.intro hkd hep)
    rw [← hkd] at q0
    rw [← hep] at p0
    clear hkd hep
    obtain ⟨t1, ht1⟩ : ∃ t1, t1 = Ms.node x.node := ⟨_, rfl⟩
    obtain ⟨t2, ht2⟩ : ∃ t2, t2 = Ms.born x.birth := ⟨_, rfl⟩
    have HNO : Hid (Calls Try.prog 55 #[.int .i64 x.node] W fun e w' => e = .returned (.bool t1) ∧ w' = W) := Lib.hid (by rw [ht1]; exact node_any _ _)
    have HBO : Hid (Calls Try.prog 56 #[.int .i64 x.birth] W fun e w' => e = .returned (.bool t2) ∧ w' = W) := Lib.hid (by rw [ht2]; exact born_any _ _)
    have HT := Lib.hid (And.intro ht1 ht2)
    have HARG : Hid ((kd < 1 ∨ 5 < kd ∨ t1 = false ∨ t2 = false ∨ (ep = 1099511627776 ∧ kd ≠ 3)) → c.step x = (Ms.zero, 1)) := Lib.hid fun h => step_arg (by rw [← HKD.out.1, ← HKD.out.2, ← HT.out.1, ← HT.out.2]; exact h)
    clear ht1 ht2
    have HARG2 : Hid (∀ bd : Bool, bd = (decide (kd < 1) || decide (5 < kd) || !t1 || !t2 || (decide (ep = 1099511627776) && decide (kd ≠ 3))) → bd = true → c.step x = (Ms.zero, 1)) := Lib.hid fun bd h1 h2 => HARG.out (by
      rw [h1] at h2
      simp at h2
      rcases h2 with (((h3 | h3) | h3) | h3) | h3
      · exact .inl h3
      · exact .inr (.inl h3)
      · exact .inr (.inr (.inl h3))
      · exact .inr (.inr (.inr (.inl h3)))
      · exact .inr (.inr (.inr (.inr h3))))
    obtain ⟨bd, hbd⟩ : ∃ bd, bd = (decide (kd < 1) || decide (5 < kd) || !t1 || !t2 || (decide (ep = 1099511627776) && decide (kd ≠ 3))) := ⟨_, rfl⟩
    have HBD := Lib.hid hbd
    have HARG3 := Lib.hid (HARG2.out bd hbd)
    clear HARG HARG2 hbd
    go_upto_region 4 with fail
    go_cut [46] (fun t wx => t = .bool bd ∧ wx = W)
    case first =>
      by_cases k1 : kd < 1
      · have d1 : decide (kd < (1 : Int)) = true := decide_eq_true k1
        have hv : bd = true := by rw [HBD.out, d1]; rfl
        clear k1
        go_wp2
        go_meet
        exact ⟨by rw [hv], rfl⟩
      have d1 : decide (kd < (1 : Int)) = false := decide_eq_false k1
      by_cases k2 : 5 < kd
      · have d2 : decide ((5 : Int) < kd) = true := decide_eq_true k2
        have hv : bd = true := by rw [HBD.out, d1, d2]; rfl
        clear k2
        go_wp2
        go_meet
        exact ⟨by rw [hv], rfl⟩
      have d2 : decide ((5 : Int) < kd) = false := decide_eq_false k2
      clear k1 k2
      go_wp2_with fail
      refine HNO.out.mono ?_
      rintro e w' ⟨rfl, rfl⟩
      cases t1 with
      | false =>
        have hv : bd = true := by rw [HBD.out, d1, d2]; rfl
        go_wp2
        go_meet
        exact ⟨by rw [hv], rfl⟩
      | true =>
      go_wp2_with fail
      refine HBO.out.mono ?_
      rintro e w' ⟨rfl, rfl⟩
      cases t2 with
      | false =>
        have hv : bd = true := by rw [HBD.out, d1, d2]; rfl
        go_wp2
        go_meet
        exact ⟨by rw [hv], rfl⟩
      | true =>
      by_cases k3 : ep = 1099511627776
      · have d3 : (ep == 1099511627776) = true := by simp [k3]
        have hv0 : bd = decide (kd ≠ 3) := by rw [HBD.out, d1, d2, decide_eq_true k3]; rfl
        have HV0 := Lib.hid hv0
        clear hv0 k3
        by_cases k4 : kd = 3
        · have d4 : (kd != 3) = false := by simp [k4]
          have hv : bd = false := by rw [HV0.out]; simp [k4]
          clear k4
          go_wp2
          go_meet
          exact ⟨by rw [hv], rfl⟩
        · have d4 : (kd != 3) = true := by simp [k4]
          have hv : bd = true := by rw [HV0.out]; simp [k4]
          clear k4
          go_wp2
          go_meet
          exact ⟨by rw [hv], rfl⟩
      · have d3 : (ep == 1099511627776) = false := by simp [k3]
        have hv : bd = false := by rw [HBD.out, d1, d2, decide_eq_false k3]; rfl
        clear k3
        go_wp2
        go_meet
        exact ⟨by rw [hv], rfl⟩
    case rest =>
    obtain ⟨rfl, hwx⟩ := hcut
    obtain rfl := hwx.symm
    clear hwx HNO HBO
    cases bd with
    | true =>
      have HST := Lib.hid (HARG3.out rfl)
      clear HARG3
      obtain ⟨y0, y1, y2, hbe⟩ := err_end HBX.out
      have HBE := Lib.hid hbe
      clear hbe
      go_wp2
      refine bodyPost_ret (v := .tuple #[.agg #[.int .i64 0, .slice none 0 0, .slice none 0 0], .int .i64 1]) (by simp [results, Try.results18, go_sem, y0, y1, y2]) rfl ?_
      rw [HST.out]
      exact DoP.err HBE.out
    | false =>
    clear HARG3
    have HPL : Hid (b2 < W.heap.size ∧ b3 < W.heap.size ∧ b4 < W.heap.size ∧ w.heap.size ≤ W.heap.size) := Lib.hid ⟨HBX.out.place.2.2.1, HBX.out.place.2.2.2.1, HBX.out.place.2.2.2.2.1, HBX.out.below.size⟩
    have hap := apart_any c ac ast cc cs W HRW.out HHN.out
    unfold cval at hap
    rw [← HKD.out.2] at hap
    have HAP := Lib.hid hap
    clear hap
    go_wp2_with fail
    refine HAP.out.mono ?_
    rintro e w6 ⟨a5, c5, a6, c6, rfl, hO, hb6⟩
    have HO6 := Lib.hid hO
    replace HBX := Lib.hid (HBX.out.later hb6)
    have HZW := Lib.hid hb6.size
    clear hO hb6 HAP HRW p0 p1 p2 q0 q1 q2 q3 r0 r1 r2 f2 f4
    have p0 := HBX.out.cf.epoch
    have p1 := HBX.out.cf.chain
    have p2 := HBX.out.cf.stores
    have q0 := HBX.out.cm.kind
    have q1 := HBX.out.cm.node
    have q2 := HBX.out.cm.birth
    have q3 := HBX.out.cm.epoch
    simp only [Nat.zero_add] at q1 q2 q3
    have r0 := HBX.out.res.epoch
    have r1 := HBX.out.res.chain
    have r2 := HBX.out.res.stores
    have f2 := HBX.out.f2
    have f4 := HBX.out.f4
    rw [← HKD.out.1] at q0
    rw [← HKD.out.2] at p0
    simp only [cval]
    go_upto_region 7 with fail
    have hbx7 : Box3 w (((w6.setCell ⟨b2, 0, none⟩ (.int .i64 c.epoch)).setCell ⟨b2, 1, none⟩ (.slice a5 c.chain.length c5)).setCell ⟨b2, 2, none⟩ (.slice a6 c.stores.length c6)) b2 b3 b4 c a5 c5 a6 c6 x := HBX.out.cset (c' := c) (ac' := a5) (cc' := c5) (ast' := a6) (cs' := c6)
    have ho7 : CfO (((w6.setCell ⟨b2, 0, none⟩ (.int .i64 c.epoch)).setCell ⟨b2, 1, none⟩ (.slice a5 c.chain.length c5)).setCell ⟨b2, 2, none⟩ (.slice a6 c.stores.length c6)) W.heap.size c a5 c5 a6 c6 := cset_low (c := c) (ac := a5) (cc := c5) (ast := a6) (cs := c6) HO6.out HPL.out.1
    obtain ⟨W7, hW7⟩ : ∃ W7, (((w6.setCell ⟨b2, 0, none⟩ (.int .i64 c.epoch)).setCell ⟨b2, 1, none⟩ (.slice a5 c.chain.length c5)).setCell ⟨b2, 2, none⟩ (.slice a6 c.stores.length c6)) = W7 := ⟨_, rfl⟩
    rw [hW7] at hbx7 ho7 ⊢
    replace HBX := Lib.hid hbx7
    have HO7 := Lib.hid ho7
    have HZ7 : Hid (W.heap.size ≤ W7.heap.size) := Lib.hid (by rw [← hW7]; simpa using HZW.out)
    clear hW7 hbx7 ho7 HO6 p0 p1 p2 q0 q1 q2 q3 r0 r1 r2 f2 f4 HZW
    have p0 := HBX.out.cf.epoch
    have p1 := HBX.out.cf.chain
    have p2 := HBX.out.cf.stores
    have q0 := HBX.out.cm.kind
    have q1 := HBX.out.cm.node
    have q2 := HBX.out.cm.birth
    have q3 := HBX.out.cm.epoch
    simp only [Nat.zero_add] at q1 q2 q3
    have r0 := HBX.out.res.epoch
    have r1 := HBX.out.res.chain
    have r2 := HBX.out.res.stores
    have f2 := HBX.out.f2
    have f4 := HBX.out.f4
    rw [← HKD.out.1] at q0
    rw [← HKD.out.2] at p0
    have hpl := place_any c a5 a6 c5 c6 x.node W7 HO7.out.r
    unfold cval at hpl
    rw [← HKD.out.2] at hpl
    have HPLC := Lib.hid hpl
    obtain ⟨pl, hple⟩ : ∃ pl, pl = c.place x.node := ⟨_, rfl⟩
    rw [← hple] at HPLC
    have HPE := Lib.hid hple
    clear hpl hple
    go_wp2_with fail
    refine HPLC.out.mono ?_
    rintro e w8 ⟨rfl, hb8⟩
    replace HBX := Lib.hid (HBX.out.later hb8)
    have HO8 := Lib.hid (HO7.out.below hb8)
    have HZ8 := Lib.hid (Nat.le_trans HZ7.out hb8.size)
    clear hb8 HO7 HPLC p0 p1 p2 q0 q1 q2 q3 r0 r1 r2 f2 f4
    have p0 := HBX.out.cf.epoch
    have p1 := HBX.out.cf.chain
    have p2 := HBX.out.cf.stores
    have q0 := HBX.out.cm.kind
    have q1 := HBX.out.cm.node
    have q2 := HBX.out.cm.birth
    have q3 := HBX.out.cm.epoch
    simp only [Nat.zero_add] at q1 q2 q3
    have r0 := HBX.out.res.epoch
    have r1 := HBX.out.res.chain
    have r2 := HBX.out.res.stores
    have f2 := HBX.out.f2
    have f4 := HBX.out.f4
    rw [← HKD.out.1] at q0
    rw [← HKD.out.2] at p0
    have HBS := Lib.hid (bsearch_any a6 c.stores.length c6 c.stores x.node w8 HO8.out.r.stores HHN.out.2 ((Cf.ok_iff c).1 HOK.out).rise)
    obtain ⟨lo, hlo⟩ : ∃ lo, lo = Ms.low c.stores x.node := ⟨_, rfl⟩
    obtain ⟨hs, hhs⟩ : ∃ hs, hs = Ms.has c.stores x.node := ⟨_, rfl⟩
    rw [← hlo, ← hhs] at HBS
    have HLO := Lib.hid (And.intro hlo hhs)
    clear hlo hhs
    go_wp2_with fail
    refine HBS.out.mono ?_
    rintro e w9 ⟨rfl, hb9⟩
    replace HBX := Lib.hid (HBX.out.later hb9)
    have HO9 := Lib.hid (HO8.out.below hb9)
    have HZ9 := Lib.hid (Nat.le_trans HZ8.out hb9.size)
    clear hb9 HO8 HBS p0 p1 p2 q0 q1 q2 q3 r0 r1 r2 f2 f4
    have p0 := HBX.out.cf.epoch
    have p1 := HBX.out.cf.chain
    have p2 := HBX.out.cf.stores
    have q0 := HBX.out.cm.kind
    have q1 := HBX.out.cm.node
    have q2 := HBX.out.cm.birth
    have q3 := HBX.out.cm.epoch
    simp only [Nat.zero_add] at q1 q2 q3
    have r0 := HBX.out.res.epoch
    have r1 := HBX.out.res.chain
    have r2 := HBX.out.res.stores
    have f2 := HBX.out.f2
    have f4 := HBX.out.f4
    rw [← HKD.out.1] at q0
    rw [← HKD.out.2] at p0
    go_upto_region 10 with fail
    go_cut [63] (fun t wx => t = .int .i64 kd ∧ wx = w9)
    case first =>
      go_wp2
      go_meet
      exact ⟨rfl, rfl⟩
    case rest =>
    obtain ⟨rfl, hwx⟩ := hcut
    obtain rfl := hwx.symm
    clear hwx
    rename ∀ (a : Act) (w : World), Code.wp Try.prog (Code.block 0 _) _ a w → _ => hK
    rename ∀ (a : Act) (w : World), Code.wp Try.prog (Code.seq _ _) (bodyPost _ _ _) a w → _ => hK1
    have hsw : SwS w w9 W.heap.size b2 b3 b4 c a5 c5 a6 c6 x := ⟨HBX.out, HO9.out, HPL.out, HZ9.out⟩
    have hg : StepG c x := ⟨HOK.out, fun h => by
      rw [← HKD.out.1, ← HKD.out.2, ← HT.out.1, ← HT.out.2] at h
      have h9 := HBD.out
      simp at h9
      rcases h with h | h | h | h | h
      · omega
      · omega
      · rw [h] at h9; simp at h9
      · rw [h] at h9; simp at h9
      · exact h.2 (h9.2 h.1)⟩
    have hkb : 1 ≤ kd ∧ kd ≤ 5 := by
      have h9 := HBD.out
      simp at h9
      omega
    have hkd := HKD.out.1
    have hst : c.stores.length ≤ 1000000 := Cf.stores_le ((Cf.ok_iff c).1 HOK.out)
    refine hK _ _ ?_
    rcases (by omega : kd = 1 ∨ kd = 2 ∨ kd = 3 ∨ kd = 4 ∨ kd = 5) with e1 | e1 | e1 | e1 | e1
    · subst e1
      exact arm_add hsw hg hst hkd.symm HPE.out HLO.out.1 HLO.out.2 rfl (fun a w' h => hK1 a w' h)
    · subst e1
      exact arm_drop hsw hg hst hkd.symm HPE.out HLO.out.1 HLO.out.2 rfl (fun a w' h => hK1 a w' h)
    · subst e1
      exact arm_whole hsw hg hst hkd.symm HPE.out HLO.out.1 HLO.out.2 rfl (fun a w' h => hK1 a w' h)
    · subst e1
      exact arm_store hsw hg hst hkd.symm HPE.out HLO.out.1 HLO.out.2 rfl (fun a w' h => hK1 a w' h)
    · subst e1
      exact arm_unplug hsw hg hst hkd.symm HPE.out HLO.out.1 HLO.out.2 rfl (fun a w' h => hK1 a w' h)
end Go.Proofs.Ytincllchoflpmaa
