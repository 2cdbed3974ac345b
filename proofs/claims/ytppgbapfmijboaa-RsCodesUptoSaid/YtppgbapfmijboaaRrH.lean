/- The walk of RsCodes. -/
import Derived.Test.YtppgbapfmijboaaRrG
set_option maxRecDepth 100000
set_option linter.unusedVariables false
set_option linter.unusedSimpArgs false
namespace Go.Proofs.Ytppgbapfmijboaa
open Go.RowKit Go.Deep

theorem MoP.bss' {n C : Nat} {Z : Nat → Nat → UInt8} {w w' : World} {e : Ending} (h : MoP n C Z w e w') : (∃ a c, e = .returned (.slice a n c) ∧ Bss w' a n c (mat n C Z)) ∧ Below w.heap.size w w' := by
  obtain ⟨⟨a, c, bl, cp, h1, h2⟩, h3⟩ := h
  exact ⟨⟨a, c, h1, h2.bss'⟩, h3⟩

set_option maxHeartbeats 16000000 in
theorem rsCodes_walk (kk mm size : Int) (aa : Option Addr) (na ca : Nat) (la : List UInt8) (aq : Option Addr) (ns cs : Nat) (ls : List (List UInt8)) (w : World) (ha : Bs w aa na ca la) (hs : Bss w aq ns cs ls)
    (hk : -9223372036854775808 ≤ kk ∧ kk ≤ 9223372036854775807) (hm : -9223372036854775808 ≤ mm ∧ mm ≤ 9223372036854775807) (hsz : -9223372036854775808 ≤ size ∧ size ≤ 9223372036854775807) (ht : tot ls ≤ 1000000000) :
    Calls Try.prog 6 #[.int .i64 kk, .int .i64 mm, .slice aa na ca, .int .i64 size, .slice aq ns cs] w fun e w' => e = .returned (.bool true) ∧ Below w.heap.size w w' := by
  have hna := ha.le.1
  have HA : Hid (∀ W, Below w.heap.size w W → Bs W aa na ca la) := Lib.hid fun W h => ha.below h
  have HS : Hid (∀ W, Below w.heap.size w W → Bss W aq ns cs ls) := Lib.hid fun W h => hs.below h
  have HLN := Lib.hid hs.1
  have HLA := Lib.hid ha.1
  have HSZ := Lib.hid hsz
  have HT := Lib.hid ht
  clear ha hs hsz ht
  go_enter Try.func6, Try.ntmps6
  go_wp2_with fail
  refine (known_any _).mono ?_
  rintro e w1 ⟨rfl, hb1⟩
  have HW := Lib.hid hb1
  clear hb1
  by_cases hfit : Rs.fit kk mm
  case neg =>
    go_wp2_with fail
    refine (new_err kk mm w1 hfit hk hm).mono ?_
    rintro e w2 ⟨rfl, rfl⟩
    go_wp2_with fail
    refine (refnew_err kk mm w1 hfit hk hm).mono ?_
    rintro e w2 ⟨rfl, rfl⟩
    clear hfit hk hm
    go_wp2
    go_ret
    exact ⟨rfl, HW.out⟩
  have hf := hfit
  unfold Rs.fit at hf
  obtain ⟨K, rfl⟩ : ∃ K : Nat, kk = (K : Int) := ⟨kk.toNat, by omega⟩
  obtain ⟨M, rfl⟩ : ∃ M : Nat, mm = (M : Int) := ⟨mm.toNat, by omega⟩
  have hK : 1 ≤ K ∧ K + M ≤ 255 := by omega
  clear hfit hf hk hm
  go_wp2_with fail
  refine (new_any K M _ hK.1 hK.2).mono ?_
  rintro e w2 ⟨⟨b, rfl, hc⟩, hb2⟩
  have HW2 := Lib.hid (HW.out.trans (hb2.mono HW.out.size))
  have HC2 : Hid (∀ W, Below w2.heap.size w2 W → Cod W b K M) := Lib.hid fun W h => hc.below h
  clear hc hb2 HW
  go_wp2_with fail
  refine (refnew_any K M w2 hK.1 hK.2).mono ?_
  rintro e w3 ⟨⟨r, rfl, hr⟩, hb3⟩
  have HW3 := Lib.hid (HW2.out.trans (hb3.mono HW2.out.size))
  have HC : Hid (∀ W, Below w3.heap.size w3 W → Cod W b K M) := Lib.hid fun W h => HC2.out W (hb3.trans (h.mono hb3.size))
  have HR : Hid (∀ W, Below w3.heap.size w3 W → RCod W r K M) := Lib.hid fun W h => hr.below h
  clear hr hb3 HC2 HW2
  have hkm : K + M ≤ 1000 := by omega
  by_cases f1 : 20 < K + M
  · have t1 : decide ((20 : Int) < (K : Int) + (M : Int)) = true := decide_eq_true (by omega)
    clear f1
    go_wp2
    go_ret
    exact ⟨rfl, HW3.out⟩
  have t1 : decide ((20 : Int) < (K : Int) + (M : Int)) = false := decide_eq_false (by omega)
  by_cases f2 : 2000 < na
  · have t2 : decide ((2000 : Int) < (na : Int)) = true := decide_eq_true (by omega)
    clear f1
    go_wp2
    go_ret
    exact ⟨rfl, HW3.out⟩
  have t2 : decide ((2000 : Int) < (na : Int)) = false := decide_eq_false (by omega)
  go_wp2_with fail
  refine (few_any aq ns cs ls w3 (HS.out _ HW3.out) HT.out).mono ?_
  rintro e w4 ⟨⟨v, rfl, hv⟩, hb4⟩
  have HW4 := Lib.hid (HW3.out.trans (hb4.mono HW3.out.size))
  have HB4 := Lib.hid hb4
  clear hb4
  cases v with
  | false =>
    clear hv
    go_wp2
    go_ret
    exact ⟨rfl, HW4.out⟩
  | true =>
    obtain ⟨hn40, ht4⟩ := hv rfl
    have hna1 : na ≤ 2000 := by omega
    have H4 : Hid (∀ i, i < ns → (nth ls i).length ≤ 4000) := Lib.hid fun i hi => by have := tot_nth (ls := ls) (k := i) (by rw [HLN.out]; exact hi); omega
    clear f1 f2 hv ht4 HT
    go_wp2_with fail
    clear t1 t2
    refine (numbers_any b K M w4 (HC.out _ HB4.out)).mono ?_
    rintro e w5 ⟨rfl, hb5⟩
    have HB5 := Lib.hid (HB4.out.trans (hb5.mono HB4.out.size))
    clear hb5 HB4 HW4
    go_wp2_with fail
    refine (split_any b K M aa na ca la w5 (HC.out _ HB5.out) (HA.out _ (HW3.out.trans (HB5.out.mono HW3.out.size))) hK.1 (by omega) (by omega)).mono ?_
    rintro e w6 h
    obtain ⟨⟨a6, c6, rfl, h6⟩, hb6⟩ := h.bss'
    have H6 : Hid (∀ W, Below w6.heap.size w6 W → Bss W a6 K c6 (mat K (Rs.wd K na) (Rs.spl (Rs.wd K na) la))) := Lib.hid fun W h => h6.below h
    have HB6 := Lib.hid (HB5.out.trans (hb6.mono HB5.out.size))
    clear h h6 hb6 HB5
    go_wp2_with fail
    refine (refsplit_any r K M aa na ca la w6 (HR.out _ HB6.out) (HA.out _ (HW3.out.trans (HB6.out.mono HW3.out.size))) hK.1 (by omega) (by omega)).mono ?_
    rintro e w7 h
    obtain ⟨⟨a7, c7, rfl, h7⟩, hb7⟩ := h.bss'
    have H7 := Lib.hid h7
    have H67 := Lib.hid (H6.out _ hb7)
    have HB7 := Lib.hid (HB6.out.trans (hb7.mono HB6.out.size))
    clear h h7 hb7 HB6 H6
    go_wp2_with fail
    refine (same_yes _ _ _ _ _ _ _ w7 H67.out H7.out).mono ?_
    rintro e w8 ⟨rfl, hb8⟩
    have HB8 := Lib.hid (HB7.out.trans (hb8.mono HB7.out.size))
    clear hb8 HB7 H67 H7
    go_wp2_with fail
    refine (encode_any b K M aa na ca la w8 (HC.out _ HB8.out) (HA.out _ (HW3.out.trans (HB8.out.mono HW3.out.size))) hK.1 (by omega) (by omega)).mono ?_
    rintro e w9 h
    obtain ⟨⟨a9, c9, rfl, h9⟩, hb9⟩ := h.bss'
    have H9 : Hid (∀ W, Below w9.heap.size w9 W → Bss W a9 (K + M) c9 (mat (K + M) (Rs.wd K na) (Rs.enc K M la))) := Lib.hid fun W h => h9.below h
    have HB9 := Lib.hid (HB8.out.trans (hb9.mono HB8.out.size))
    clear h h9 hb9 HB8
    go_wp2_with fail
    refine (refencode_any r K M aa na ca la w9 (HR.out _ HB9.out) (HA.out _ (HW3.out.trans (HB9.out.mono HW3.out.size))) hK.1 (by omega) (by omega)).mono ?_
    rintro e w10 h
    obtain ⟨⟨a10, c10, rfl, h10⟩, hb10⟩ := h.bss'
    have H10 := Lib.hid h10
    have H910 := Lib.hid (H9.out _ hb10)
    have HB10 := Lib.hid (HB9.out.trans (hb10.mono HB9.out.size))
    clear h h10 hb10 HB9 H9
    go_wp2_with fail
    refine (same_yes _ _ _ _ _ _ _ w10 H910.out H10.out).mono ?_
    rintro e w11 ⟨rfl, hb11⟩
    have HB11 := Lib.hid (HB10.out.trans (hb11.mono HB10.out.size))
    clear hb11 HB10 H910 H10
    go_wp2_with fail
    refine (parity_any b K M aq ns cs ls w11 (HC.out _ HB11.out) (HS.out _ (HW3.out.trans (HB11.out.mono HW3.out.size))) hK.1 hK.2 (by omega) (fun i hi => by have := H4.out i hi; omega)).mono ?_
    rintro e w12 h
    obtain ⟨⟨a12, n12, c12, rfl, h12⟩, hb12⟩ := h.res
    have H12 : Hid (∀ W, Below w12.heap.size w12 W → Bss W a12 n12 c12 (Rs.parL K M ls)) := Lib.hid fun W h => h12.below h
    have HB12 := Lib.hid (HB11.out.trans (hb12.mono HB11.out.size))
    clear h h12 hb12 HB11
    obtain ⟨eP, heP⟩ : ∃ eP, Rs.parE K ls = eP := ⟨_, rfl⟩
    rw [heP]
    go_wp2_with fail
    refine (refparity_any r K M aq ns cs ls w12 (HR.out _ HB12.out) (HS.out _ (HW3.out.trans (HB12.out.mono HW3.out.size))) hK.1 hK.2 (fun i hi => by have := H4.out i hi; omega)).mono ?_
    rintro e w13 ⟨⟨a13, n13, c13, rfl, h13⟩, hb13⟩
    have H13 := Lib.hid h13
    have H123 := Lib.hid (H12.out _ hb13)
    have HB13 := Lib.hid (HB12.out.trans (hb13.mono HB12.out.size))
    clear h13 hb13 HB12 H12
    rw [heP]
    clear heP
    have tP : ((eP : Int) != eP) = false := by simp
    go_wp2_with fail
    refine (same_yes _ _ _ _ _ _ _ w13 H123.out H13.out).mono ?_
    rintro e w14 ⟨rfl, hb14⟩
    have HB14 := Lib.hid (HB13.out.trans (hb14.mono HB13.out.size))
    clear hb14 HB13 H123 H13
    go_wp2_with fail
    clear tP
    obtain ⟨eD, heD⟩ : ∃ eD, Rs.decE K M size ls = eD := ⟨_, rfl⟩
    obtain ⟨lD, hlD⟩ : ∃ lD, Rs.decL K M size ls = lD := ⟨_, rfl⟩
    refine (decode_any b K M size aq ns cs ls w14 (HC.out _ HB14.out) (HS.out _ (HW3.out.trans (HB14.out.mono HW3.out.size))) hK.1 hK.2 (by omega) (fun i hi => by have := H4.out i hi; omega) HSZ.out).mono ?_
    rw [heD, hlD]
    rintro e w15 ⟨⟨a15, n15, c15, rfl, h15⟩, hb15⟩
    have H15 : Hid (∀ W, Below w15.heap.size w15 W → Bs W a15 n15 c15 lD) := Lib.hid fun W h => h15.below h
    have HB15 := Lib.hid (HB14.out.trans (hb15.mono HB14.out.size))
    clear h15 hb15 HB14
    go_wp2_with fail
    refine (refdecode_any r K M size aq ns cs ls w15 (HR.out _ HB15.out) (HS.out _ (HW3.out.trans (HB15.out.mono HW3.out.size))) hK.1 hK.2 (fun i hi => by have := H4.out i hi; omega) HSZ.out).mono ?_
    rw [heD, hlD]
    rintro e w16 ⟨⟨a16, n16, c16, rfl, h16⟩, hb16⟩
    have hcv1 := conv_bytes (H15.out _ hb16)
    have hcv2 := conv_bytes h16
    have HB16 := Lib.hid (HB15.out.trans (hb16.mono HB15.out.size))
    have s3 : ((bstr lD).toList != (bstr lD).toList) = false := by simp
    have tD : ((eD : Int) != eD) = false := by simp
    clear h16 hb16 HB15 H15 heD hlD
    go_wp2_with fail
    clear hcv1 hcv2 s3 tD
    obtain ⟨eR, heR⟩ : ∃ eR, Rs.errS K M ls = eR := ⟨_, rfl⟩
    refine (repair_any b K M aq ns cs ls w16 (HC.out _ HB16.out) (HS.out _ (HW3.out.trans (HB16.out.mono HW3.out.size))) hK.1 hK.2 (by omega) (fun i hi => by have := H4.out i hi; omega)).mono ?_
    rw [heR]
    rintro e w17 ⟨⟨a17, n17, c17, rfl, h17⟩, hb17⟩
    have H17 : Hid (∀ W, Below w17.heap.size w17 W → Bss W a17 n17 c17 (Rs.repL K M ls)) := Lib.hid fun W h => h17.below h
    have HB17 := Lib.hid (HB16.out.trans (hb17.mono HB16.out.size))
    clear h17 hb17 HB16
    go_wp2_with fail
    refine (refrepair_any r K M aq ns cs ls w17 (HR.out _ HB17.out) (HS.out _ (HW3.out.trans (HB17.out.mono HW3.out.size))) hK.1 hK.2 (fun i hi => by have := H4.out i hi; omega)).mono ?_
    rw [heR]
    rintro e w18 ⟨⟨a18, n18, c18, rfl, h18⟩, hb18⟩
    have H18 := Lib.hid h18
    have H178 := Lib.hid (H17.out _ hb18)
    have HB18 := Lib.hid (HB17.out.trans (hb18.mono HB17.out.size))
    have tR : ((eR : Int) != eR) = false := by simp
    clear h18 hb18 HB17 H17 heR
    go_wp2_with fail
    refine (same_yes _ _ _ _ _ _ _ w18 H178.out H18.out).mono ?_
    rintro e w19 ⟨rfl, hb19⟩
    have HB19 := Lib.hid (HB18.out.trans (hb19.mono HB18.out.size))
    clear hb19 HB18 H178 H18
    go_wp2_with fail
    clear tR
    obtain ⟨eC, heC⟩ : ∃ eC, Rs.chkE K M ls = eC := ⟨_, rfl⟩
    obtain ⟨vC, hvC⟩ : ∃ vC, Rs.chkB K M ls = vC := ⟨_, rfl⟩
    refine (check_any b K M aq ns cs ls w19 (HC.out _ HB19.out) (HS.out _ (HW3.out.trans (HB19.out.mono HW3.out.size))) hK.1 hK.2 (by omega) (fun i hi => by have := H4.out i hi; omega)).mono ?_
    rw [heC, hvC]
    rintro e w20 ⟨rfl, hb20⟩
    have HB20 := Lib.hid (HB19.out.trans (hb20.mono HB19.out.size))
    clear hb20 HB19
    go_wp2_with fail
    refine (refcheck_any r K M aq ns cs ls w20 (HR.out _ HB20.out) (HS.out _ (HW3.out.trans (HB20.out.mono HW3.out.size))) hK.1 hK.2 (fun i hi => by have := H4.out i hi; omega)).mono ?_
    rw [heC, hvC]
    rintro e w21 ⟨rfl, hb21⟩
    have HB21 := Lib.hid (HW3.out.trans ((HB20.out.trans (hb21.mono HB20.out.size)).mono HW3.out.size))
    clear hb21 HB20 heC hvC
    have tC : ((eC : Int) == eC) = true := by simp
    have tV : (vC == vC) = true := by cases vC <;> rfl
    go_wp2
    go_ret
    exact ⟨rfl, HB21.out⟩
end Go.Proofs.Ytppgbapfmijboaa
