/- The walk of RsAny. -/
import Derived.Test.YtppgbapfmijboaaRsV
set_option maxRecDepth 100000
set_option linter.unusedVariables false
set_option linter.unusedSimpArgs false
namespace Go.Proofs.Ytppgbapfmijboaa
open Go.RowKit Go.Deep

theorem gone_lens {K M : Nat} {d : List UInt8} {G : List Nat} {N : Nat} (h : Rs.wd K d.length ≤ N) (i : Nat) (hi : i < K + M) : (nth (Rs.gone K M d G) i).length ≤ N := by
  have := (gone_sub K M d G).lens hi
  omega
/-- With one more gone than may be. -/
theorem gone_over {K M : Nat} {d : List UInt8} {G : List Nat} (hK : 1 ≤ K) (hG : G.length = M + 1) (hn : G.Nodup) (hb : ∀ g ∈ G, g < K + M) :
    Rs.errS K M (Rs.gone K M d G) = 16 ∧ (Rs.decE K M d.length (Rs.gone K M d G) = 16 ∨ (K = 1 ∧ Rs.decE K M d.length (Rs.gone K M d G) = 1)) := by
  have hlo : Rs.lostB K (Rs.gone K M d G) = true := by rw [gone_lost hn hb]; simp; omega
  obtain ⟨y, hy, hyw, _⟩ := (gone_sub K M d G).sc
  refine ⟨by unfold Rs.errS; rw [hy]; simp [hlo], ?_⟩
  unfold Rs.decE
  rw [hy]
  simp only [hlo, if_true]
  by_cases e : (d.length : Int) < 0 ∨ ((K * y : Nat) : Int) < (d.length : Int)
  · rw [if_pos e]
    right
    refine ⟨?_, rfl⟩
    rcases Nat.lt_or_ge 1 K with h1 | h1
    · exfalso
      have hthr := gone_thr (d := d) hn hb
      have hpos : 0 < (Rs.thr (Rs.gone K M d G) (K + M)).length := by omega
      have hm := thr_mem (List.getElem_mem hpos)
      have hyW := hyw _ hm.1 hm.2
      have := wd_le (n := d.length) hK
      rw [hyW] at e
      omega
    · omega
  · rw [if_neg e]; left; rfl

set_option maxHeartbeats 16000000 in
theorem rsAny_walk (kk mm nn : Int) (aa : Option Addr) (na ca : Nat) (la : List UInt8) (ap : Option Addr) (np cp : Nat) (lp : List Int) (w : World) (ha : Bs w aa na ca la) (hp : Is w ap np cp lp)
    (hk : -9223372036854775808 ≤ kk ∧ kk ≤ 9223372036854775807) (hm : -9223372036854775808 ≤ mm ∧ mm ≤ 9223372036854775807) (hnn : -9223372036854775808 ≤ nn ∧ nn ≤ 9223372036854775807) :
    Calls Try.prog 5 #[.int .i64 kk, .int .i64 mm, .slice aa na ca, .int .i64 nn, .slice ap np cp] w fun e w' => e = .returned (.bool true) ∧ Below w.heap.size w w' := by
  have hna := ha.le.1
  have HA : Hid (∀ W, Below w.heap.size w W → Bs W aa na ca la) := Lib.hid fun W h => ha.below h
  have HP : Hid (∀ W, Below w.heap.size w W → Is W ap np cp lp) := Lib.hid fun W h => hp.below h
  have HLA := Lib.hid ha.1
  have HNN := Lib.hid hnn
  clear ha hp hnn
  go_enter Try.func5, Try.ntmps5
  go_wp2_with fail
  refine (known_any _).mono ?_
  rintro e w1 ⟨rfl, hb1⟩
  have HW := Lib.hid hb1
  clear hb1
  by_cases f1 : kk < 1
  · have t1 : decide (kk < 1) = true := decide_eq_true f1
    clear f1 hk hm
    go_wp2
    go_ret
    exact ⟨rfl, HW.out⟩
  have t1 : decide (kk < 1) = false := decide_eq_false f1
  by_cases f2 : mm < 0
  · have t2 : decide (mm < 0) = true := decide_eq_true f2
    clear f1 f2 hk hm
    go_wp2
    go_ret
    exact ⟨rfl, HW.out⟩
  have t2 : decide (mm < 0) = false := decide_eq_false f2
  by_cases f3 : 12 < kk
  · have t3 : decide (12 < kk) = true := decide_eq_true f3
    clear f1 f2 f3 hk hm
    go_wp2
    go_ret
    exact ⟨rfl, HW.out⟩
  have t3 : decide (12 < kk) = false := decide_eq_false f3
  by_cases f4 : 12 < mm
  · have t4 : decide (12 < mm) = true := decide_eq_true f4
    clear f1 f2 f3 f4 hk hm
    go_wp2
    go_ret
    exact ⟨rfl, HW.out⟩
  have t4 : decide (12 < mm) = false := decide_eq_false f4
  by_cases f5 : 2000 < na
  · have t5 : decide ((2000 : Int) < (na : Int)) = true := decide_eq_true (by omega)
    clear f1 f2 f3 f4 f5 hk hm
    go_wp2
    go_ret
    exact ⟨rfl, HW.out⟩
  have t5 : decide ((2000 : Int) < (na : Int)) = false := decide_eq_false (by omega)
  obtain ⟨K, rfl⟩ : ∃ K : Nat, kk = (K : Int) := ⟨kk.toNat, by omega⟩
  obtain ⟨M, rfl⟩ : ∃ M : Nat, mm = (M : Int) := ⟨mm.toNat, by omega⟩
  have hK : 1 ≤ K ∧ K ≤ 12 ∧ M ≤ 12 := by omega
  have hna1 : na ≤ 2000 := by omega
  clear f1 f2 f3 f4 f5 hk hm
  go_wp2_with fail
  clear t1 t2 t3 t4 t5
  refine (new_any K M _ (by omega) (by omega)).mono ?_
  rintro e w2 ⟨⟨b, rfl, hc⟩, hb2⟩
  have HW2 := Lib.hid (HW.out.trans (hb2.mono HW.out.size))
  have HC2 : Hid (∀ W, Below w2.heap.size w2 W → Cod W b K M) := Lib.hid fun W h => hc.below h
  clear hc hb2 HW
  go_wp2_with fail
  refine (encode_any b K M _ _ _ la w2 (HC2.out _ (Below.refl _ _)) (HA.out _ HW2.out) hK.1 (by omega) (by omega)).mono ?_
  rintro e w3 h
  obtain ⟨⟨a3, c3, rfl, h3⟩, hb3⟩ := h.bss (by omega)
  have hall : Rs.all K M la = mat (K + M) (Rs.wd K na) (Rs.enc K M la) := by unfold Rs.all; rw [HLA.out]
  rw [← hall] at h3
  have HS3 : Hid (∀ W, Below w3.heap.size w3 W → Bss W a3 (K + M) c3 (Rs.all K M la)) := Lib.hid fun W h => h3.below h
  have HC3 : Hid (∀ W, Below w3.heap.size w3 W → Cod W b K M) := Lib.hid fun W h => HC2.out W (hb3.trans (h.mono hb3.size))
  have HW3 := Lib.hid (HW2.out.trans (hb3.mono HW2.out.size))
  have HWL : Hid (Rs.wd K la.length ≤ 3000) := Lib.hid (by
    have w2' := wd_few (n := la.length) hK.1
    have h5 : 1 * Rs.wd K la.length ≤ K * Rs.wd K la.length := Nat.mul_le_mul_right _ hK.1
    rw [HLA.out] at *
    omega)
  have HLAL : Hid ((Rs.all K M la).length = K + M) := Lib.hid (mat_len _ _ _)
  clear h h3 hb3 hall HC2 HW2
  have s1 : (((K + M : Nat) : Int) != ((K : Int) + (M : Int))) = false := by simp
  have hz : ∃ z : Int, Int.tmod nn ((M : Int) + 1) = z := ⟨_, rfl⟩
  obtain ⟨z, hz⟩ := hz
  have hz1 : -((M : Int) + 1) < z ∧ z < (M : Int) + 1 := by
    rw [← hz]
    exact ⟨by have := Int.lt_tmod_of_pos nn (show (0 : Int) < (M : Int) + 1 by omega); omega, Int.tmod_lt_of_pos nn (by omega)⟩
  have hm1 : ¬ (M : Int) + 1 = 0 := by omega
  have HNA : ∃ A : Nat, A ≤ M ∧ ((decide (z < 0) = true ∧ 0 - z = A) ∨ (decide (z < 0) = false ∧ z = A)) := by
    by_cases e : z < 0
    · exact ⟨(0 - z).toNat, by omega, .inl ⟨decide_eq_true e, by omega⟩⟩
    · exact ⟨z.toNat, by omega, .inr ⟨decide_eq_false e, by omega⟩⟩
  obtain ⟨A, hAM, hA⟩ := HNA
  have hz9 : -9223372036854775807 ≤ z ∧ z ≤ 9223372036854775807 := by omega
  have HAM := Lib.hid hAM
  rcases hA with ⟨hA1, hA2⟩ | ⟨hA1, hA2⟩
  case' inr => subst hA2
  all_goals
    go_wp2_with fail
    refine (lost_any K M _ rfl la a3 c3 A _ (by omega) ap np cp lp w3 (HS3.out _ (Below.refl _ _)) (HP.out _ HW3.out) (by have := HAM.out; omega) hK.1 (by omega) (by have := HWL.out; omega)).mono ?_
    clear hA1 hz hz1 hm1 hz9 s1
    try clear hA2
    rintro e w4 ⟨⟨a4, c4, G, rfl, h4, g1, g2, g3⟩, hb4⟩
    have HG := Lib.hid (And.intro (And.intro g1 (show A ≤ M from HAM.out)) (And.intro g2 g3))
    have HB4 := Lib.hid hb4
    have H4 : Hid (∀ W, Below w4.heap.size w4 W → Bss W a4 (K + M) c4 (Rs.gone K M la G)) := Lib.hid fun W h => h4.below h
    have HLO : Hid (Rs.lostB K (Rs.gone K M la G) = false) := Lib.hid (by rw [gone_lost g2 g3, g1]; exact decide_eq_false (by have := HAM.out; omega))
    clear hb4 h4 g1 g2 g3 hAM HAM
    go_wp2_with fail
    refine (decode_any b K M (na : Int) _ _ _ _ w4 (HC3.out _ HB4.out) (H4.out _ (Below.refl _ _)) hK.1 (by omega) (by omega) (fun i hi => gone_lens (by have := HWL.out; omega) i hi) (by omega)).mono ?_
    rintro e w5 ⟨⟨a5, n5, c5, rfl, h5⟩, hb5⟩
    obtain ⟨q1, q2⟩ := dec_is hK.1 (by omega) (gone_sub K M la G) HLO.out
    rw [HLA.out] at q1 q2
    rw [q2] at h5
    rw [q1]
    have H5 := Lib.hid h5
    have HB5 := Lib.hid hb5
    have HB45 := Lib.hid (HB4.out.trans (hb5.mono HB4.out.size))
    clear h5 hb5 q1 q2
    go_wp2_with fail
    refine (repair_any b K M _ _ _ _ w5 (HC3.out _ HB45.out) (H4.out _ HB5.out) hK.1 (by omega) (by omega) (fun i hi => gone_lens (by have := HWL.out; omega) i hi)).mono ?_
    rintro e w6 ⟨⟨a6, m6, c6, rfl, h6⟩, hb6⟩
    obtain ⟨q1, q2⟩ := rep_is hK.1 (by omega) (gone_sub K M la G) HLO.out
    rw [q2] at h6
    rw [q1]
    obtain rfl : m6 = K + M := by rw [← h6.1, HLAL.out]
    have H6 : Hid (∀ W, Below w6.heap.size w6 W → Bss W a6 (K + M) c6 (Rs.all K M la)) := Lib.hid fun W h => h6.below h
    have HB6 := Lib.hid (HB45.out.trans (hb6.mono HB45.out.size))
    have hcv1 := conv_bytes (H5.out.below hb6)
    have hcv2 := conv_bytes (HA.out w6 (HW3.out.trans (HB6.out.mono HW3.out.size)))
    have s3 : ((bstr la).toList != (bstr la).toList) = false := by simp
    clear h6 hb6 q1 q2 H5 HB5 HB45 H4 HLO HG HB4
    go_wp2_with fail
    clear hcv1 hcv2 s3
    refine (same_yes _ _ _ _ _ _ _ w6 (H6.out _ (Below.refl _ _)) (HS3.out _ HB6.out)).mono ?_
    rintro e w7 ⟨rfl, hb7⟩
    have HB67 := Lib.hid hb7
    have HB7 := Lib.hid (HB6.out.trans (hb7.mono HB6.out.size))
    clear hb7
    go_wp2_with fail
    refine (check_any b K M _ _ _ _ w7 (HC3.out _ HB7.out) (H6.out _ HB67.out) hK.1 (by omega) (by omega) (fun i hi => by rw [all_len hi]; have := HWL.out; omega)).mono ?_
    rw [enc_good (by omega), (show Rs.chkE K M (Rs.all K M la) = 0 from (chk_mat (by omega) (wd_pos _ _)).1)]
    rintro e w8 ⟨rfl, hb8⟩
    have HB8 := Lib.hid (HB7.out.trans (hb8.mono HB7.out.size))
    clear hb8 H6 HB67 HB7 HB6
    go_wp2_with fail
    refine (lost_any K M _ rfl la a3 c3 (M + 1) _ rfl ap np cp lp w8 (HS3.out _ HB8.out) (HP.out _ (HW3.out.trans (HB8.out.mono HW3.out.size))) (by omega) hK.1 (by omega) (by have := HWL.out; omega)).mono ?_
    rintro e w9 ⟨⟨a9, c9, G9, rfl, h9, g1, g2, g3⟩, hb9⟩
    have HB9 := Lib.hid (HB8.out.trans (hb9.mono HB8.out.size))
    have H9 : Hid (∀ W, Below w9.heap.size w9 W → Bss W a9 (K + M) c9 (Rs.gone K M la G9)) := Lib.hid fun W h => h9.below h
    obtain ⟨o1, o2⟩ := gone_over (d := la) hK.1 g1 g2 g3
    rw [HLA.out] at o2
    have O1 := Lib.hid o1
    have O2 := Lib.hid o2
    clear h9 g1 g2 g3 hb9 o1 o2 HB8
    go_wp2_with fail
    refine (decode_any b K M (na : Int) _ _ _ _ w9 (HC3.out _ HB9.out) (H9.out _ (Below.refl _ _)) hK.1 (by omega) (by omega) (fun i hi => gone_lens (by have := HWL.out; omega) i hi) (by omega)).mono ?_
    rintro e w10 ⟨⟨a10, n10, c10, rfl, _⟩, hb10⟩
    have HB10 := Lib.hid (HB9.out.trans (hb10.mono HB9.out.size))
    have H910 := Lib.hid (H9.out _ hb10)
    clear hb10 H9 HB9
    obtain ⟨E, hE⟩ : ∃ E, Rs.decE K M (na : Int) (Rs.gone K M la G9) = E := ⟨_, rfl⟩
    rw [hE] at O2 ⊢
    clear hE
    go_wp2_with fail
    refine (repair_any b K M _ _ _ _ w10 (HC3.out _ HB10.out) H910.out hK.1 (by omega) (by omega) (fun i hi => gone_lens (by have := HWL.out; omega) i hi)).mono ?_
    rintro e w11 ⟨⟨a11, m11, c11, rfl, _⟩, hb11⟩
    rw [O1.out]
    have HB11 := Lib.hid (HW3.out.trans ((HB10.out.trans (hb11.mono HB10.out.size)).mono HW3.out.size))
    clear hb11 H910 HB10 O1
    by_cases hK1 : K = 1
    · have v1 : decide ((K : Int) + (M : Int) ≤ (M : Int) + 1) = true := decide_eq_true (by omega)
      have v2 : E = 16 ∨ E = 1 := by rcases O2.out with h | ⟨_, h⟩ <;> simp [h]
      clear hK1 O2
      rcases v2 with rfl | rfl
      all_goals
        go_wp2
        go_ret
        exact ⟨rfl, HB11.out⟩
    · have v1 : decide ((K : Int) + (M : Int) ≤ (M : Int) + 1) = false := decide_eq_false (by omega)
      have v2 : E = 16 := O2.out.elim id (fun h => absurd h.1 hK1)
      clear hK1 O2
      subst v2
      go_wp2
      go_ret
      exact ⟨rfl, HB11.out⟩
end Go.Proofs.Ytppgbapfmijboaa
