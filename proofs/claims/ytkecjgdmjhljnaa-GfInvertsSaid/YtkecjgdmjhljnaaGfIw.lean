/- The walk of GfInverts. -/
import Derived.Test.YtkecjgdmjhljnaaGfIn
namespace Go.Proofs.Ytkecjgdmjhljnaa
open Go.RowKit Go.Deep

/-- While rows are picked: 'wz' is the world before 'used' was made. -/
structure Pk (wz wr : World) (T : Nat) (a : Option Addr) (t c : Nat) (l : List Nat) : Prop where
  below : Below wz.heap.size wz wr
  own : OwnI wr (wz.heap.size + 1) a t c l
  used : rowTo wr wz.heap.size 4 T (fun i => .bool (decide (i ∈ l)))
  nodup : l.Nodup
  bd : ∀ j ∈ l, j < T
  len : l.length = t
theorem Pk.set {wz wr : World} {T : Nat} {a : Option Addr} {t c : Nat} {l : List Nat} (h : Pk wz wr T a t c l) (n : Nat) :
    Below wz.heap.size wz (wr.setCell ⟨wz.heap.size, n, none⟩ (.bool true)) ∧ OwnI (wr.setCell ⟨wz.heap.size, n, none⟩ (.bool true)) (wz.heap.size + 1) a t c l ∧
    rowTo (wr.setCell ⟨wz.heap.size, n, none⟩ (.bool true)) wz.heap.size 4 T (fun i => .bool (decide (i ∈ l ++ [n]))) := by
  refine ⟨h.below.setCell (Nat.le_refl _) _, own_keep h.own (fun g hg => Below.heap_setCell _ _ _ _ (by show g ≠ wz.heap.size; omega)), (h.used.set n _).congr fun i _ => ?_⟩
  by_cases e : i = n
  · simp [e]
  · simp [e]
theorem Pk.next {wz wr w2 : World} {T : Nat} {a a2 : Option Addr} {t c c2 n : Nat} {l : List Nat} (h : Pk wz wr T a t c l) (hn : n < T) (hl : n ∉ l) (hb : Below wz.heap.size wz w2)
    (ho : OwnI w2 (wz.heap.size + 1) a2 (t + 1) c2 (l ++ [n])) (hu : rowTo w2 wz.heap.size 4 T (fun i => .bool (decide (i ∈ l ++ [n])))) : Pk wz w2 T a2 (t + 1) c2 (l ++ [n]) := by
  refine ⟨hb, ho, hu, ?_, fun j hj => ?_, by simp [h.len]⟩
  · rw [List.nodup_append]
    refine ⟨h.nodup, by simp, fun a ha b hb' e => ?_⟩
    simp at hb'
    subst hb'
    exact hl (e ▸ ha)
  · rcases List.mem_append.1 hj with hj | hj
    · exact h.bd j hj
    · simp at hj; omega
theorem ring_less {T f n : Nat} (hf : f < T) (hn : n < T) (hne : n ≠ f) : (f + T - (n + 1) % T) % T < (f + T - n) % T := by
  rcases Nat.lt_or_ge n f with h | h
  · rw [Nat.mod_eq_of_lt (by omega : n + 1 < T)]
    rw [show f + T - (n + 1) = (f - (n + 1)) + T by omega, show f + T - n = (f - n) + T by omega, Nat.add_mod_right, Nat.add_mod_right, Nat.mod_eq_of_lt (by omega), Nat.mod_eq_of_lt (by omega)]
    omega
  · by_cases e : n + 1 = T
    · rw [e, Nat.mod_self, Nat.sub_zero, Nat.add_mod_right, Nat.mod_eq_of_lt hf, show f + T - n = f + 1 by omega]
      by_cases e2 : f + 1 = T
      · omega
      · rw [Nat.mod_eq_of_lt (by omega)]; omega
    · rw [Nat.mod_eq_of_lt (by omega : n + 1 < T), Nat.mod_eq_of_lt (by omega : f + T - (n + 1) < T), Nat.mod_eq_of_lt (by omega : f + T - n < T)]
      omega
set_option maxRecDepth 100000 in
set_option maxHeartbeats 16000000 in
theorem gfInverts_walk (kk mm : Int) (an : Option Addr) (nn cn : Nat) (ln : List Int) (w : World) (hn : Is w an nn cn ln) (hk : -9223372036854775808 ≤ kk ∧ kk ≤ 9223372036854775807) (hm : -9223372036854775808 ≤ mm ∧ mm ≤ 9223372036854775807) :
    Calls Try.prog 7 #[.int .i64 kk, .int .i64 mm, .slice an nn cn] w fun e w' => e = .returned (.bool true) ∧ Below w.heap.size w w' := by
  have hln := hn.le.1
  have HBn : Hid (∀ W, Below w.heap.size w W → Is W an nn cn ln) := Lib.hid fun W h => hn.below h
  clear hn
  go_enter Try.func7, Try.ntmps7
  go_wp2_with fail
  refine (known_any _).mono ?_
  rintro e w1 ⟨rfl, hb1⟩
  have HB := Lib.hid hb1
  clear hb1
  by_cases f1 : kk < 1
  · have t1 : decide (kk < 1) = true := decide_eq_true f1
    clear f1 hk hm
    go_wp2
    go_ret
    exact ⟨rfl, HB.out⟩
  have t1 : decide (kk < 1) = false := decide_eq_false f1
  by_cases f2 : mm < 1
  · have t2 : decide (mm < 1) = true := decide_eq_true f2
    clear f1 f2 hk hm
    go_wp2
    go_ret
    exact ⟨rfl, HB.out⟩
  have t2 : decide (mm < 1) = false := decide_eq_false f2
  by_cases f3 : 12 < kk
  · have t3 : decide (12 < kk) = true := decide_eq_true f3
    clear f1 f2 f3 hk hm
    go_wp2
    go_ret
    exact ⟨rfl, HB.out⟩
  have t3 : decide (12 < kk) = false := decide_eq_false f3
  by_cases f4 : 12 < mm
  · have t4 : decide (12 < mm) = true := decide_eq_true f4
    clear f1 f2 f3 f4 hk hm
    go_wp2
    go_ret
    exact ⟨rfl, HB.out⟩
  have t4 : decide (12 < mm) = false := decide_eq_false f4
  obtain ⟨K, rfl⟩ : ∃ K : Nat, kk = (K : Int) := ⟨kk.toNat, by omega⟩
  obtain ⟨M, rfl⟩ : ∃ M : Nat, mm = (M : Int) := ⟨mm.toNat, by omega⟩
  have hK : 1 ≤ K ∧ K ≤ 12 ∧ 1 ≤ M ∧ M ≤ 12 := by omega
  clear f1 f2 f3 f4 hk hm
  go_wp2_with fail
  clear t1 t2 t3 t4
  refine (unit_any K _ (by omega) (by omega)).mono ?_
  rintro e w2 ⟨⟨gu, blu, rfl, hu⟩, hb2⟩
  have HU := Lib.hid (hu.bss (c := K) (Nat.le_refl _) (by simp only [maxLen]; omega) (by simp only [maxLen]; omega))
  have HB2 := Lib.hid (HB.out.trans (hb2.mono HB.out.size))
  clear hu hb2 HB
  go_wp2_with fail
  refine (cauchy_any M K _ (by omega) (by omega) (by omega)).mono ?_
  rintro e w3 ⟨⟨gc, blc, rfl, hc⟩, hb3⟩
  have HC := Lib.hid (hc.bss (c := M) (Nat.le_refl _) (by simp only [maxLen]; omega) (by simp only [maxLen]; omega))
  have HU3 := Lib.hid (HU.out.below hb3)
  have HB3 := Lib.hid (HB2.out.trans (hb3.mono HB2.out.size))
  clear hc hb3 HB2 HU
  have s1 : ((K : Int) != (K : Int)) = false := by simp
  have s2 : ((M : Int) != (M : Int)) = false := by simp
  obtain ⟨T, hT⟩ : ∃ T : Nat, T = K + M := ⟨_, rfl⟩
  have hT24 : T ≤ 24 ∧ 0 < T ∧ K < T := by omega
  have hTi : (K : Int) + (M : Int) = (T : Int) := by omega
  have HT := Lib.hid hT
  clear hT
  have hmk := run_make_row' (P := Try.prog) 51 4 (.bool false) 1 Try.underlying51 infoBool rfl .i64 .i64 T (by omega) (by omega)
  obtain ⟨csU, u1, u2, u3, u4⟩ := bss_elems HU3.out
  obtain ⟨csC, v1, v2, v3, v4⟩ := bss_elems HC.out
  have HE := Lib.hid (u2.append v2)
  have HU4 := Lib.hid (And.intro u1 (And.intro u3 u4))
  have HV4 := Lib.hid (And.intro v1 (And.intro v3 v4))
  clear u1 u2 u3 u4 v1 v2 v3 v4 HC
  go_wp2_with (first | (at_builtin; refine app_mat (cs := []) rfl _ _ rfl w3.heap.size rfl (ownV_lit w3) rfl (HU4.out.1.below (below_alloc w3 _)) HU4.out.2.1 HU4.out.2.2 (by omega) (le_alloc (Nat.le_refl _)) ?_; intro a4 c4 w4 h4 hb4; simp only [Nat.zero_add, List.nil_append] at h4; have hb34 := (below_alloc w3 (.cells #[] 56)).trans hb4; have H4 := Lib.hid h4; have HB34 := Lib.hid hb34; clear h4 hb4 hb34) | (at_builtin; refine app_mat rfl _ _ rfl w3.heap.size rfl H4.out rfl (HV4.out.1.below HB34.out) HV4.out.2.1 HV4.out.2.2 (by omega) HB34.out.size ?_; intro a5 c5 w5 h5 hb5; have hb35 := HB34.out.trans hb5; have H5 := Lib.hid h5; have HB35 := Lib.hid hb35; clear h5 hb5 hb35))
  have HALL : Hid (Bss w5 a5 (K + M) c5 (Gf.stack K M)) := Lib.hid (elems_bss H5.out (HE.out.below HB35.out))
  have HU5 := Lib.hid (HU3.out.below HB35.out)
  have HBw5 := Lib.hid (HB3.out.trans (HB35.out.mono HB3.out.size))
  have hP0 : Pk w5 (w5.alloc (.cells (madeCells #[.bool false] T) 4)) T none 0 0 [] :=
    ⟨below_alloc _ _, World.ownsRow_nil _ _ _ _, (rowTo.of_is (World.rowIs_made w5 (.bool false) T 4)).congr (fun i _ => by simp), List.nodup_nil, (fun j hj => by cases hj), rfl⟩
  have HP0 := Lib.hid hP0
  have HMK := Lib.hid hmk
  clear hP0 hmk HE HU4 HV4 H4 H5 HB34 HB35 HB3 s1 s2
  go_loopw [13, 14] (fun r at_ wr => ∃ (t c : Nat) (a : Option Addr) (l : List Nat), t ≤ K ∧ r = .slice a t c ∧ at_ = .int .i64 t ∧ Pk w5 wr T a t c l) (fun _ at_ _ => K - (intOf at_).toNat)
  case atStart => exact ⟨0, 0, none, [], Nat.zero_le _, rfl, rfl, HP0.out⟩
  case round =>
    clear HP0
    obtain ⟨t, c, a, l, ht, rfl, rfl, hp⟩ := hrel
    by_cases hlt : t < K
    · obtain ⟨f, hf, hfl⟩ := free_one (l := l) (T := T) (by rw [hp.len]; omega)
      rcases (show (∃ z : Nat, (z : Int) ≤ 9223372036854775807 ∧ t < nn ∧ nth ln t = (z : Int)) ∨ (¬ t < nn) ∨ (∃ z : Int, z < 0 ∧ t < nn ∧ nth ln t = z) by
        by_cases h1 : t < nn
        · have := ((HBn.out _ (Below.refl _ _)).bd h1).hi
          by_cases h2 : nth ln t < 0
          · exact .inr (.inr ⟨_, h2, h1, rfl⟩)
          · exact .inl ⟨(nth ln t).toNat, by omega, h1, by omega⟩
        · exact .inr (.inl h1)) with ⟨z, hz, h1, hzz⟩ | h1 | ⟨z, hz, h1, hzz⟩
      · obtain ⟨b2, o2, rfl, hc2⟩ := (HBn.out _ (HBw5.out.trans (hp.below.mono HBw5.out.size))).get h1
        rw [hzz] at hc2
        have hm0 : ((z : Int) % (T : Int)) = ((z % T : Nat) : Int) := by omega
        have hm1 : z % T < T := Nat.mod_lt _ (by omega)
        have HP := Lib.hid hp
        have HFL := Lib.hid hfl
        clear hp hfl hzz
        go_wp2_with fail
        go_loop [15] (fun v => ∃ q : Nat, q < T ∧ v = .int .i64 q) (fun v => (f + T - (intOf v).toNat) % T)
        case atStart => exact ⟨z % T, hm1, rfl⟩
        case round =>
          obtain ⟨q, hq, rfl⟩ := hrel
          have c1 := HP.out.used.cell hq
          by_cases hql : q ∈ l
          · have hne : q ≠ f := fun e => HFL.out (e ▸ hql)
            have hrl := Lib.hid (ring_less hf hq hne)
            have hm2 : (((q + 1 : Nat) : Int) % (T : Int)) = (((q + 1) % T : Nat) : Int) := by omega
            have hm3 : (q + 1) % T < T := Nat.mod_lt _ (by omega)
            rw [decide_eq_true hql] at c1
            clear hql hne
            go_wp2
            go_round
            case rel => exact ⟨(q + 1) % T, hm3, by rw [← hm2]; rfl⟩
            case measure =>
              simp only [intOf]
              rw [show ((q : Int) + 1) % (T : Int) = (((q + 1) % T : Nat) : Int) from rfl, Int.toNat_natCast, Int.toNat_natCast]
              exact hrl.out
          · rw [decide_eq_false hql] at c1
            have c2 := HP.out.used.frozen q
            have hst := HP.out.set q
            have HOW := Lib.hid (own_below hst.2.1 (below_alloc _ (.cells #[.int .i64 (q : Int)] 3)))
            have HST := Lib.hid hst
            have HNQ := Lib.hid hql
            clear hst hql
            have hwz : w5.heap.size + 1 ≤ (wr.setCell ⟨w5.heap.size, q, none⟩ (.bool true)).heap.size := by have := HP.out.used.lt; simp; omega
            have HWZ := Lib.hid hwz
            have hbx := box_new (wr.setCell ⟨w5.heap.size, q, none⟩ (.bool true)) (.int .i64 (q : Int)) 3
            rw [show (wr.setCell ⟨w5.heap.size, q, none⟩ (.bool true)).heap.size = wr.heap.size from by simp] at hbx
            have HBX := Lib.hid hbx
            clear hbx
            clear hwz hm0 hm1 hz hc2 h1 hf
            go_wp2_with (at_builtin; refine app_int rfl _ _ rfl (w5.heap.size + 1) rfl HOW.out rfl HBX.out (by omega) (Nat.le_trans HWZ.out (by simp)) ?_; intro a6 c6 w6 h6 hb6)
            have hb56 := (HST.out.1.trans ((below_alloc _ (.cells #[.int .i64 (q : Int)] 3)).mono (Nat.le_of_succ_le HWZ.out))).trans (hb6.mono (by omega))
            have hu6 := ((HST.out.2.2.below (below_alloc _ (.cells #[.int .i64 (q : Int)] 3))).of_block (hb6.block w5.heap.size (by omega)))
            have HN := Lib.hid (HP.out.next hq HNQ.out hb56 h6 hu6)
            clear h6 hb6 hb56 hu6 HOW HST
            go_wp2
            go_roundw
            case rel => exact ⟨t + 1, c6, a6, l ++ [q], by omega, rfl, by go_num, HN.out⟩
            case measure => simp [intOf]; omega
      · have h1' : decide (t < nn) = false := decide_eq_false h1
        have HP := Lib.hid hp
        have HFL := Lib.hid hfl
        clear hp hfl h1
        go_wp2_with fail
        go_loop [16] (fun v => ∃ q : Nat, q ≤ f ∧ v = .int .i64 q) (fun v => f - (intOf v).toNat)
        case atStart => exact ⟨0, Nat.zero_le _, rfl⟩
        case round =>
          obtain ⟨q, hqf, rfl⟩ := hrel
          have hq : q < T := by omega
          have c1 := HP.out.used.cell hq
          by_cases hql : q ∈ l
          · have hne : q < f := by
              rcases Nat.lt_or_ge q f with h | h
              · exact h
              · exact absurd (by rw [show f = q by omega]; exact hql) HFL.out
            rw [decide_eq_true hql] at c1
            clear hql
            go_wp2
            go_round
            case rel => exact ⟨q + 1, by omega, by go_num⟩
            case measure => simp [intOf]; omega
          · rw [decide_eq_false hql] at c1
            have c2 := HP.out.used.frozen q
            have hst := HP.out.set q
            have HOW := Lib.hid (own_below hst.2.1 (below_alloc _ (.cells #[.int .i64 (q : Int)] 3)))
            have HST := Lib.hid hst
            have HNQ := Lib.hid hql
            clear hst hql
            have hwz : w5.heap.size + 1 ≤ (wr.setCell ⟨w5.heap.size, q, none⟩ (.bool true)).heap.size := by have := HP.out.used.lt; simp; omega
            have HWZ := Lib.hid hwz
            have hbx := box_new (wr.setCell ⟨w5.heap.size, q, none⟩ (.bool true)) (.int .i64 (q : Int)) 3
            rw [show (wr.setCell ⟨w5.heap.size, q, none⟩ (.bool true)).heap.size = wr.heap.size from by simp] at hbx
            have HBX := Lib.hid hbx
            clear hbx
            clear hwz hf
            go_wp2_with (at_builtin; refine app_int rfl _ _ rfl (w5.heap.size + 1) rfl HOW.out rfl HBX.out (by omega) (Nat.le_trans HWZ.out (by simp)) ?_; intro a6 c6 w6 h6 hb6)
            have hb56 := (HST.out.1.trans ((below_alloc _ (.cells #[.int .i64 (q : Int)] 3)).mono (Nat.le_of_succ_le HWZ.out))).trans (hb6.mono (by omega))
            have hu6 := ((HST.out.2.2.below (below_alloc _ (.cells #[.int .i64 (q : Int)] 3))).of_block (hb6.block w5.heap.size (by omega)))
            have HN := Lib.hid (HP.out.next hq HNQ.out hb56 h6 hu6)
            clear h6 hb6 hb56 hu6 HOW HST
            go_wp2
            go_roundw
            case rel => exact ⟨t + 1, c6, a6, l ++ [q], by omega, rfl, by go_num, HN.out⟩
            case measure => simp [intOf]; omega
      · obtain ⟨b2, o2, rfl, hc2⟩ := (HBn.out _ (HBw5.out.trans (hp.below.mono HBw5.out.size))).get h1
        rw [hzz] at hc2
        have h1' : decide (0 ≤ z) = false := decide_eq_false (by omega)
        have HP := Lib.hid hp
        have HFL := Lib.hid hfl
        have HZ := Lib.hid hz
        clear hp hfl hzz hz
        go_wp2_with fail
        clear hc2 h1'
        go_loop [16] (fun v => ∃ q : Nat, q ≤ f ∧ v = .int .i64 q) (fun v => f - (intOf v).toNat)
        case atStart => exact ⟨0, Nat.zero_le _, rfl⟩
        case round =>
          obtain ⟨q, hqf, rfl⟩ := hrel
          have hq : q < T := by omega
          have c1 := HP.out.used.cell hq
          by_cases hql : q ∈ l
          · have hne : q < f := by
              rcases Nat.lt_or_ge q f with h | h
              · exact h
              · exact absurd (by rw [show f = q by omega]; exact hql) HFL.out
            rw [decide_eq_true hql] at c1
            clear hql
            go_wp2
            go_round
            case rel => exact ⟨q + 1, by omega, by go_num⟩
            case measure => simp [intOf]; omega
          · rw [decide_eq_false hql] at c1
            have c2 := HP.out.used.frozen q
            have hst := HP.out.set q
            have HOW := Lib.hid (own_below hst.2.1 (below_alloc _ (.cells #[.int .i64 (q : Int)] 3)))
            have HST := Lib.hid hst
            have HNQ := Lib.hid hql
            clear hst hql
            have hwz : w5.heap.size + 1 ≤ (wr.setCell ⟨w5.heap.size, q, none⟩ (.bool true)).heap.size := by have := HP.out.used.lt; simp; omega
            have HWZ := Lib.hid hwz
            have hbx := box_new (wr.setCell ⟨w5.heap.size, q, none⟩ (.bool true)) (.int .i64 (q : Int)) 3
            rw [show (wr.setCell ⟨w5.heap.size, q, none⟩ (.bool true)).heap.size = wr.heap.size from by simp] at hbx
            have HBX := Lib.hid hbx
            clear hbx
            clear hwz hf h1
            go_wp2_with (at_builtin; refine app_int rfl _ _ rfl (w5.heap.size + 1) rfl HOW.out rfl HBX.out (by omega) (Nat.le_trans HWZ.out (by simp)) ?_; intro a6 c6 w6 h6 hb6)
            have hb56 := (HST.out.1.trans ((below_alloc _ (.cells #[.int .i64 (q : Int)] 3)).mono (Nat.le_of_succ_le HWZ.out))).trans (hb6.mono (by omega))
            have hu6 := ((HST.out.2.2.below (below_alloc _ (.cells #[.int .i64 (q : Int)] 3))).of_block (hb6.block w5.heap.size (by omega)))
            have HN := Lib.hid (HP.out.next hq HNQ.out hb56 h6 hu6)
            clear h6 hb6 hb56 hu6 HOW HST
            go_wp2
            go_roundw
            case rel => exact ⟨t + 1, c6, a6, l ++ [q], by omega, rfl, by go_num, HN.out⟩
            case measure => simp [intOf]; omega
    · obtain rfl : t = K := by omega
      obtain ⟨g1, g2, g3, g4, g5, g6⟩ := picked (K := t) (M := M) hK.1 (by omega) hp.len hp.nodup (fun j hj => by have := hp.bd j hj; rw [← HT.out]; exact this)
      have HIS := Lib.hid (hp.own.is (fun j hj => by have := hp.bd j hj; omega))
      have HBr := Lib.hid (HBw5.out.trans (hp.below.mono HBw5.out.size))
      have HA := Lib.hid (HALL.out.below hp.below)
      have HU := Lib.hid (HU5.out.below hp.below)
      have G1 := Lib.hid g1
      have G2 := Lib.hid g2
      have G3 := Lib.hid g3
      have G4 := Lib.hid g4
      have G5 := Lib.hid g5
      have G6 := Lib.hid g6
      clear g1 g2 g3 g4 g5 g6 hp HALL HU5 HBw5
      go_wp2_with fail
      refine (rows_any _ _ _ _ _ _ _ (ints l) wr HA.out HIS.out (by omega)).mono ?_
      rintro e w6 hr
      rw [G1.out] at hr
      obtain ⟨⟨a6, n6, c6, rfl, h6⟩, hb6⟩ := hr.res
      have HA6 := Lib.hid h6
      have HU6 := Lib.hid (HU.out.below hb6)
      have HB6 := Lib.hid (HBr.out.trans (hb6.mono HBr.out.size))
      clear hr h6 hb6 HA HU HBr
      go_wp2_with fail
      refine (minv_any _ _ _ _ w6 HA6.out).mono ?_
      rintro e w7 hr
      rw [G2.out] at hr
      obtain ⟨⟨a7, n7, c7, rfl, h7⟩, hb7⟩ := hr.res
      have HV7 := Lib.hid h7
      have HA7 := Lib.hid (HA6.out.below hb7)
      have HU7 := Lib.hid (HU6.out.below hb7)
      have HB7 := Lib.hid (HB6.out.trans (hb7.mono HB6.out.size))
      clear hr h7 hb7 HA6 HU6 HB6
      go_wp2_with fail
      refine (times_any _ _ _ _ _ _ _ _ w7 HA7.out HV7.out).mono ?_
      rintro e w8 hr
      rw [G3.out, G4.out] at hr
      obtain ⟨⟨a8, n8, c8, rfl, h8⟩, hb8⟩ := hr.res
      have HX8 := Lib.hid h8
      have HV8 := Lib.hid (HV7.out.below hb8)
      have HA8 := Lib.hid (HA7.out.below hb8)
      have HU8 := Lib.hid (HU7.out.below hb8)
      have HB8 := Lib.hid (HB7.out.trans (hb8.mono HB7.out.size))
      clear hr h8 hb8 HA7 HU7 HV7 HB7
      go_wp2_with fail
      refine (times_any _ _ _ _ _ _ _ _ w8 HV8.out HA8.out).mono ?_
      rintro e w9 hr
      rw [G5.out, G6.out] at hr
      obtain ⟨⟨a9, n9, c9, rfl, h9⟩, hb9⟩ := hr.res
      have HY9 := Lib.hid h9
      have HX9 := Lib.hid (HX8.out.below hb9)
      have HU9 := Lib.hid (HU8.out.below hb9)
      have HB9 := Lib.hid (HB8.out.trans (hb9.mono HB8.out.size))
      clear hr h9 hb9 HA8 HU8 HV8 HX8 HB8
      go_wp2_with fail
      refine (same_yes _ _ _ _ _ _ _ _ HX9.out HU9.out).mono ?_
      rintro e w10 ⟨rfl, hb10⟩
      have HY10 := Lib.hid (HY9.out.below hb10)
      have HU10 := Lib.hid (HU9.out.below hb10)
      have HB10 := Lib.hid (HB9.out.trans (hb10.mono HB9.out.size))
      clear hb10 HX9 HY9 HU9 HB9
      go_wp2_with fail
      refine (same_yes _ _ _ _ _ _ _ _ HY10.out HU10.out).mono ?_
      rintro e w11 ⟨rfl, hb11⟩
      have HB11 := Lib.hid (HB10.out.trans (hb11.mono HB10.out.size))
      clear hb11
      go_wp2
      go_ret
      exact ⟨rfl, HB11.out⟩
end Go.Proofs.Ytkecjgdmjhljnaa
