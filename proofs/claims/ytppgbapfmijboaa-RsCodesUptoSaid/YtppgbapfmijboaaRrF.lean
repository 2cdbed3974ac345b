/- rs, the reference: Check. -/
import Derived.Test.YtppgbapfmijboaaRrE
set_option maxRecDepth 100000
set_option linter.unusedVariables false
set_option linter.unusedSimpArgs false
namespace Go.Proofs.Ytppgbapfmijboaa
open Go.RowKit Go.Deep

theorem thr_full {ls : List (List UInt8)} : (Rs.thr ls ls.length).length = ls.length ↔ Rs.full ls = true := by
  unfold Rs.thr
  constructor
  · intro h
    refine full_true fun k hk => ?_
    by_cases e : 0 < (nth ls k).length
    · omega
    · exfalso
      have h1 := thr_no (ls := ls) (i := k) (by omega)
      have h2 : ((List.range ls.length).filter fun j => decide (0 < (nth ls j).length)).length < ls.length := by
        have h3 := List.length_filter_lt_length_iff_exists (p := fun j => decide (0 < (nth ls j).length)) (l := List.range ls.length)
        rw [List.length_range] at h3
        exact h3.2 ⟨k, List.mem_range.2 hk, by simpa using e⟩
      omega
  · intro h
    rw [List.filter_eq_self.2 (fun j hj => by have := full_at h (List.mem_range.1 hj); simpa using (by omega : 0 < (nth ls j).length)), List.length_range]
theorem list_eq_take {l r : List (List UInt8)} (hl : l.length = r.length) {k : Nat} (hk : k < l.length) (h : nth l k ≠ nth r k) : l ≠ r := fun e => h (by rw [e])

set_option maxHeartbeats 8000000 in
theorem refcheck_any (b K M : Nat) (aq : Option Addr) (ns cs : Nat) (ls : List (List UInt8)) (w : World) (hc : RCod w b K M) (hs : Bss w aq ns cs ls) (h1 : 1 ≤ K) (h2 : K + M ≤ 255) (h4 : ∀ i, i < ns → (nth ls i).length ≤ 100000000) :
    Calls Try.prog 25 #[.pointer (some ⟨b, 0, none⟩), .slice aq ns cs] w (BRes (Rs.chkB K M ls) (Rs.chkE K M ls) w) := by
  have HC : Hid (∀ W, Below w.heap.size w W → RCod W b K M) := Lib.hid fun W h => hc.below h
  have HS : Hid (∀ W, Below w.heap.size w W → Bss W aq ns cs ls) := Lib.hid fun W h => hs.below h
  have HLN := Lib.hid hs.1
  have hncs := hs.2.1
  have H4 := Lib.hid h4
  clear hs hc h4
  go_enter Try.func25, Try.ntmps25
  go_wp2_with fail
  refine (refthere_any b K M aq ns cs ls w (HC.out _ (Below.refl _ _)) (HS.out _ (Below.refl _ _)) h1 h2).mono ?_
  rintro e w1 ⟨hres, hb1⟩
  have HB1 := Lib.hid hb1
  have k1 := (HC.out w1 hb1).k
  clear hb1
  cases hA : Rs.alk (K + M) ls with
  | none =>
    rw [hA] at hres
    have hres : e = .returned (.tuple #[.slice none 0 0, .int .i64 0, .int .i64 1]) := hres
    subst hres
    have HE := Lib.hid (chk_bad (K := K) (M := M) (ls := ls) (by unfold Rs.chkOk; rw [hA]; rfl))
    clear hA
    go_wp2
    go_ret2
    rw [HE.out.1, HE.out.2]
    exact ⟨rfl, HB1.out⟩
  | some m =>
    rw [hA] at hres
    obtain ⟨a, c, rfl, ho⟩ := hres
    obtain ⟨hlen, hsc⟩ := alk_some hA
    obtain rfl : ns = K + M := by have := HLN.out; omega
    have hm4 : m ≤ 100000000 := sc_le (fun i hi => H4.out i (by omega)) ls.length (Nat.le_refl _) m (by rw [List.take_length]; exact hsc)
    have hn255 : (Rs.thr ls ls.length).length ≤ K + M := by have := thr_le ls ls.length; omega
    have HSC := Lib.hid hsc
    have HA := Lib.hid hA
    have HTF := Lib.hid (thr_full (ls := ls))
    obtain ⟨nt, hnt⟩ : ∃ nt, (Rs.thr ls ls.length).length = nt := ⟨_, rfl⟩
    rw [hnt] at hn255 HTF ⊢
    rw [HLN.out] at HTF
    clear hA hlen hsc ho hnt
    by_cases hlo : nt < K + M
    · have HE := Lib.hid (chk_bad (K := K) (M := M) (ls := ls) (by
        unfold Rs.chkOk
        have : Rs.full ls = false := by
          cases h : Rs.full ls with
          | false => rfl
          | true => have := HTF.out.2 h; omega
        rw [this]; simp))
      have hloI : decide ((nt : Int) < (K : Int) + (M : Int)) = true := decide_eq_true (by omega)
      have hloI2 : (nt : Int) < (K : Int) + (M : Int) := by omega
      go_wp2
      go_ret2
      rw [HE.out.1, HE.out.2]
      exact ⟨rfl, HB1.out⟩
    · have hfull : Rs.full ls = true := HTF.out.1 (by omega)
      have HE := Lib.hid (chk_good (K := K) (M := M) (ls := ls) (by unfold Rs.chkOk; rw [hfull, HA.out]; rfl))
      have HL : Hid (∀ i, i < K + M → (nth ls i).length = m) := Lib.hid fun i hi => by
        rcases sc_len HSC.out (i := i) (by rw [HLN.out]; exact hi) with h | h
        · exact absurd h (full_at hfull (by rw [HLN.out]; exact hi))
        · exact h
      have hm0 : 1 ≤ m := by
        have := full_at hfull (k := 0) (by rw [HLN.out]; omega)
        rw [HL.out 0 (by omega)] at this
        omega
      have HTK : Hid (∀ i, i < K → nth (ls.take K) i = nth ls i) := Lib.hid fun i hi => nth_take ls hi (by rw [HLN.out]; omega)
      have hloI : decide ((nt : Int) < (K : Int) + (M : Int)) = false := decide_eq_false (by omega)
      have hloI2 : ¬ (nt : Int) < (K : Int) + (M : Int) := by omega
      have hsl := slicer_h aq (K + M) cs (hi := (K : Int)) (hi' := K) rfl (by omega)
      clear hfull
      go_wp2_with fail
      clear hsl hloI hloI2 hlo
      refine (refpar_any b K M aq cs m (ls.take K) w1 (HC.out _ HB1.out) ((HS.out _ HB1.out).take (by omega)) (fun i hi => by rw [HTK.out i hi]; exact HL.out i (by omega)) h1 h2 hm0 hm4).mono ?_
      rintro e w2 ⟨⟨a2, c2, bl2, cp2, rfl, hm2⟩, hb2⟩
      have HPL : Hid (Rs.parL K M (ls.take K) = mat M m (Rs.tm (mat M K (Gf.cau K)) (ls.take K) K)) := Lib.hid (by
        unfold Rs.parL
        rw [if_pos ((parOk_iff (by rw [List.length_take, HLN.out]; omega) h1).2 ⟨by rw [HTK.out 0 h1, HL.out 0 (by omega)]; omega, fun i hi => by rw [HTK.out i hi, HTK.out 0 h1, HL.out i (by omega), HL.out 0 (by omega)]⟩)]
        unfold Rs.par
        rw [HTK.out 0 h1, HL.out 0 (by omega)])
      obtain ⟨P, hP⟩ : ∃ P, mat M m (Rs.tm (mat M K (Gf.cau K)) (ls.take K) K) = P := ⟨_, rfl⟩
      have HR2 : Hid (Bss w2 a2 M c2 P) := Lib.hid (by rw [← hP]; exact hm2.bss')
      have HB2 := Lib.hid (HB1.out.trans (hb2.mono HB1.out.size))
      rw [hP] at HPL
      have HPn : Hid (P.length = M) := Lib.hid (by rw [← hP, mat_len])
      have HDn : Hid ((ls.drop K).length = M) := Lib.hid (by rw [List.length_drop, HLN.out]; omega)
      have HD : Hid (∀ j, j < M → nth (ls.drop K) j = nth ls (K + j)) := Lib.hid fun j hj => nth_drop ls (by rw [HLN.out]; omega)
      clear hm2 hb2 k1 hP
      go_wp2_with fail
      go_loopw [10] (fun i wr => ∃ j : Nat, j ≤ M ∧ i = .int .i64 j ∧ Below w2.heap.size w2 wr ∧ Hid (∀ q, q < j → nth P q = nth ls (K + q))) (fun i _ => M - (intOf i).toNat)
      case atStart => exact ⟨0, Nat.zero_le _, rfl, Below.refl _ _, Lib.hid fun q hq => by omega⟩
      case round =>
        obtain ⟨j, hj, rfl, hb, HQ⟩ := hrel
        have hbw := HB2.out.trans (hb.mono HB2.out.size)
        have k2 := (HC.out _ hbw).m
        by_cases hlt : j < M
        · have k1 := (HC.out _ hbw).k
          obtain ⟨bP, oP, aP, nP, cP, eP, dP, rP⟩ := (HR2.out.below hb).get hlt
          obtain ⟨bS, oS, aS, nS, cS, eS, dS, rS⟩ := (HS.out _ hbw).get (show K + j < K + M by omega)
          have hw9 : IntKind.i64.wrap ((K : Int) + (j : Int)) = (K : Int) + (j : Int) := by rw [IntKind.wrap_i64]; omega
          have hi9 : (K : Int) + (j : Int) < (K : Int) + (M : Int) := by omega
          have hi8 : K + j < K + M := by omega
          have hcv1 := Lib.hid (fun W (h : Below wr.heap.size wr W) => conv_bytes (rP.below h))
          have hcv2 := Lib.hid (fun W (h : Below wr.heap.size wr W) => conv_bytes (rS.below h))
          have HB := Lib.hid hb
          have HBW := Lib.hid hbw
          obtain ⟨xP, hxP⟩ : ∃ xP, nth P j = xP := ⟨_, rfl⟩
          obtain ⟨xS, hxS⟩ : ∃ xS, nth ls (K + j) = xS := ⟨_, rfl⟩
          have HX := Lib.hid (And.intro hxP hxS)
          rw [hxP] at hcv1
          rw [hxS] at hcv2
          have hne := bstr_bne xP xS
          subst eP eS
          clear hb hbw rP rS hxP hxS
          by_cases hq : xP = xS
          case' pos =>
            have s3 : ((bstr xP).toList != (bstr xS).toList) = false := by rw [hne, hq]; simp
            have s4 : decide (xP = xS) = true := decide_eq_true hq
            have HQ2 : Hid (∀ q, q < j + 1 → nth P q = nth ls (K + q)) := Lib.hid fun q hq' => by
              by_cases e : q = j
              · rw [e, HX.out.1, HX.out.2, hq]
              · exact HQ.out q (by omega)
          case' neg =>
            have s3 : ((bstr xP).toList != (bstr xS).toList) = true := by rw [hne, decide_eq_false hq]; rfl
            have s4 : decide (xP = xS) = false := decide_eq_false hq
            have HQ2 : Hid (decide (Rs.parL K M (ls.take K) = ls.drop K) = false) := Lib.hid (decide_eq_false (by
              rw [HPL.out]
              refine list_eq_take (by rw [HPn.out, HDn.out]) (k := j) (by rw [HPn.out]; exact hlt) ?_
              rw [HD.out j hlt, HX.out.1, HX.out.2]
              exact hq))
          all_goals
            clear hne
            have HQQ := Lib.hid hq
            clear hq
            go_wp2_with fail
            refine wp_region_class (w0 := wr) (by kernel_rfl) (by kernel_rfl) (Below.refl _ _) ?_
            have l1 := BW.cell k1
            have l2 := BW.cell dP
            have l3 := BW.cell dS
            have l4 := fun (V : BW wr) => hcv1.out V.w V.b
            have l5 := fun (V : BW wr) => hcv2.out V.w V.b
            repeat (first | go_big_quiet_step (fail))
            refine wpQuiet_nil ?_
            intro wq hbq; replace hbq := BW.of hbq
            clear l1 l2 l3 l4 l5 k1 k2 dP dS hw9 hi9
            have HBQ := Lib.hid (HB.out.trans (hbq.mono HB.out.size))
            have HBWQ := Lib.hid (HBW.out.trans (hbq.mono HBW.out.size))
            clear hbq
            go_wp2
          · go_ret2
            rw [HE.out.1, HE.out.2, HQ2.out]
            exact ⟨rfl, HBWQ.out⟩
          · go_roundw
            case rel => exact ⟨j + 1, by omega, by go_num, HBQ.out, HQ2⟩
            case measure => simp [intOf]; omega
        · obtain rfl : j = M := by omega
          have HR : Hid (decide (Rs.parL K j (ls.take K) = ls.drop K) = true) := Lib.hid (decide_eq_true (by
            rw [HPL.out]
            refine list_ext_n (by rw [HPn.out, HDn.out]) fun k hk => ?_
            rw [HPn.out] at hk
            rw [HD.out k hk, HQ.out k hk]))
          have HBW := Lib.hid hbw
          clear hb hbw
          go_wp2
          go_ret2
          rw [HE.out.1, HE.out.2, HR.out]
          exact ⟨rfl, HBW.out⟩
end Go.Proofs.Ytppgbapfmijboaa
