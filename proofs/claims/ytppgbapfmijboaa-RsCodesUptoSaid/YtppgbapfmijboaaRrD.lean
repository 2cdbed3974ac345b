/- rs, the reference: Decode, Check. -/
import Derived.Test.YtppgbapfmijboaaRrC
set_option maxRecDepth 100000
set_option linter.unusedVariables false
set_option linter.unusedSimpArgs false
namespace Go.Proofs.Ytppgbapfmijboaa
open Go.RowKit Go.Deep

theorem thr_is {K M n c : Nat} {a : Option Addr} {ls : List (List UInt8)} {w : World} {B : Nat} (hl : ls.length ≤ 255) (h : OwnI w B a n c (Rs.thr ls ls.length)) : Is w a n c (ints (Rs.thr ls ls.length)) :=
  h.is fun j hj => by have := (thr_mem hj).1; omega

set_option maxHeartbeats 8000000 in
theorem refdecode_any (b K M : Nat) (size : Int) (aq : Option Addr) (ns cs : Nat) (ls : List (List UInt8)) (w : World) (hc : RCod w b K M) (hs : Bss w aq ns cs ls) (h1 : 1 ≤ K) (h2 : K + M ≤ 255) (h4 : ∀ i, i < ns → (nth ls i).length ≤ 3000000)
    (hsz : -9223372036854775808 ≤ size ∧ size ≤ 9223372036854775807) :
    Calls Try.prog 23 #[.pointer (some ⟨b, 0, none⟩), .int .i64 size, .slice aq ns cs] w (VRes (Rs.decL K M size ls) (Rs.decE K M size ls) w) := by
  have HC : Hid (∀ W, Below w.heap.size w W → RCod W b K M) := Lib.hid fun W h => hc.below h
  have HS : Hid (∀ W, Below w.heap.size w W → Bss W aq ns cs ls) := Lib.hid fun W h => hs.below h
  have HLN := Lib.hid hs.1
  have H4 := Lib.hid h4
  have HSZ := Lib.hid hsz
  clear hs hc h4 hsz
  go_enter Try.func23, Try.ntmps23
  go_wp2_with fail
  refine (refthere_any b K M aq ns cs ls w (HC.out _ (Below.refl _ _)) (HS.out _ (Below.refl _ _)) h1 h2).mono ?_
  rintro e w1 ⟨hres, hb1⟩
  have HB1 := Lib.hid hb1
  have k1 := (HC.out w1 hb1).k
  clear hb1
  cases hA : Rs.alk (K + M) ls with
  | none =>
    rw [hA] at hres
    have hres : e = .returned (.tuple #[.slice none 0 0, .int .i64 0, .int .i64 1]) := hres
    subst hres
    have e1 : Hid (Rs.decE K M size ls = 1) := Lib.hid (by unfold Rs.decE; rw [hA])
    have e2 : Hid (Rs.decL K M size ls = []) := Lib.hid (by unfold Rs.decL; rw [e1.out]; rfl)
    clear hA
    go_wp2
    go_ret2
    rw [e1.out, e2.out]
    exact nil_vres HB1.out
  | some m =>
    rw [hA] at hres
    obtain ⟨a, c, rfl, ho⟩ := hres
    obtain ⟨hlen, hsc⟩ := alk_some hA
    obtain rfl : ns = K + M := by have := HLN.out; omega
    have hm4 : m ≤ 3000000 := sc_le (fun i hi => H4.out i (by omega)) ls.length (Nat.le_refl _) m (by rw [List.take_length]; exact hsc)
    have HI := Lib.hid (thr_is (K := K) (M := M) (by omega) ho)
    have hn255 : (Rs.thr ls ls.length).length ≤ 255 := by have := thr_le ls ls.length; omega
    have HSC := Lib.hid hsc
    have HA := Lib.hid hA
    have hmul : K * m ≤ 255 * 3000000 := Nat.mul_le_mul (by omega) hm4
    have hmi : (K : Int) * (m : Int) = ((K * m : Nat) : Int) := by simp
    obtain ⟨T, hT⟩ : ∃ T, K * m = T := ⟨_, rfl⟩
    rw [hT] at hmul hmi
    have HTT := Lib.hid hT
    obtain ⟨nt, hnt⟩ : ∃ nt, (Rs.thr ls ls.length).length = nt := ⟨_, rfl⟩
    have HLO : Hid (Rs.lostB K ls = decide (nt < K)) := Lib.hid (by unfold Rs.lostB; rw [hnt])
    rw [hnt] at HI hn255 ⊢
    clear hA hlen hsc ho hT hnt
    by_cases hbad : size < 0 ∨ (T : Int) < size
    · have e1 : Hid (Rs.decE K M size ls = 1) := Lib.hid (by unfold Rs.decE; rw [HA.out]; simp only; rw [HTT.out, if_pos hbad])
      have e2 : Hid (Rs.decL K M size ls = []) := Lib.hid (by unfold Rs.decL; rw [e1.out]; rfl)
      have hcase : decide (size < 0) = true ∨ (decide (size < 0) = false ∧ decide ((T : Int) < size) = true) := by
        by_cases q : size < 0
        · exact .inl (decide_eq_true q)
        · exact .inr ⟨decide_eq_false q, decide_eq_true (by omega)⟩
      clear hbad
      rcases hcase with hq | ⟨hq, hq2⟩
      all_goals
        go_wp2
        go_ret2
        rw [e1.out, e2.out]
        exact nil_vres HB1.out
    · obtain ⟨S, rfl⟩ : ∃ S : Nat, size = (S : Int) := ⟨size.toNat, by omega⟩
      have hST : S ≤ T := by omega
      have q1 : decide ((S : Int) < 0) = false := decide_eq_false (by omega)
      have q2 : decide ((T : Int) < (S : Int)) = false := decide_eq_false (by omega)
      have q3 : ¬ T < S := by omega
      have HNB : Hid (¬ ((S : Int) < 0 ∨ ((K * m : Nat) : Int) < (S : Int))) := Lib.hid (by rw [HTT.out]; omega)
      clear hbad
      by_cases hlo : nt < K
      · have e1 : Hid (Rs.decE K M S ls = 16) := Lib.hid (by unfold Rs.decE; rw [HA.out]; simp only; rw [if_neg HNB.out, HLO.out, if_pos (decide_eq_true hlo)])
        have e2 : Hid (Rs.decL K M S ls = []) := Lib.hid (by unfold Rs.decL; rw [e1.out]; rfl)
        go_wp2
        go_ret2
        rw [e1.out, e2.out]
        exact nil_vres HB1.out
      · have hlb : Rs.lostB K ls = false := by rw [HLO.out]; exact decide_eq_false hlo
        have e1 : Hid (Rs.decE K M S ls = 0) := Lib.hid (by unfold Rs.decE; rw [HA.out]; simp only; rw [if_neg HNB.out, hlb]; rfl)
        have HWM := Lib.hid (whole_mend h1 h2 HLN.out HSC.out hlb)
        have HLB := Lib.hid hlb
        clear hlb
        go_wp2_with fail
        refine (refdata_any b K M aq cs m a nt c ls w1 (HC.out _ HB1.out) (HS.out _ HB1.out) HI.out HSC.out HLB.out h1 h2 (by omega)).mono ?_
        rintro e w2 ⟨⟨a2, c2, bl2, cp2, rfl, hm2⟩, hb2⟩
        have HR2 : Hid (Bss w2 a2 K c2 (Rs.whole K M ls)) := Lib.hid (by rw [HWM.out]; exact hm2.bss')
        have HB2 := Lib.hid (HB1.out.trans (hb2.mono HB1.out.size))
        have HLW : Hid (∀ i, i < K → (nth (Rs.whole K M ls) i).length = m) := Lib.hid fun i hi => by rw [HWM.out, mat_row hi]; simp
        clear hm2 hb2 k1 q1 q2 q3 HI HWM HLB hlo
        obtain ⟨Wl, hWl⟩ : ∃ Wl, Rs.whole K M ls = Wl := ⟨_, rfl⟩
        have HWl := Lib.hid hWl
        rw [hWl] at HR2 HLW
        have hWn : Wl.length = K := HR2.out.1
        have HFL : Hid (∀ k, k ≤ K → ((Wl.take k).flatten).length = k * m) := Lib.hid fun k hk => by
          rw [flat_len _ m (fun l hl => by
            obtain ⟨i, hi, rfl⟩ := List.getElem_of_mem (List.mem_of_mem_take hl)
            rw [← nth_eq]
            exact HLW.out i (by omega)), List.length_take, hWn, show min k K = k by omega]
        have HTS : Hid (∀ k, k < K → (Wl.take (k + 1)).flatten = (Wl.take k).flatten ++ nth Wl k) := Lib.hid fun k hk => by
          rw [take_snoc _ (by omega), List.flatten_append]; simp
        have HWT : Hid (Wl.take K = Wl) := Lib.hid (List.take_of_length_le (by omega))
        clear hWl hWn
        go_wp2_with fail
        go_loopw [12, 13] (fun o i wr => ∃ (k n c : Nat) (a : Option Addr), k ≤ K ∧ i = .int .i64 k ∧ o = .slice a n c ∧ Below w2.heap.size w2 wr ∧ Own wr w2.heap.size a n c ((Wl.take k).flatten)) (fun _ i _ => K - (intOf i).toNat)
        case atStart => exact ⟨0, 0, 0, none, Nat.zero_le _, rfl, rfl, Below.refl _ _, by simpa using Own.nil w2 w2.heap.size⟩
        case round =>
          obtain ⟨k, n, c, a, hk, rfl, rfl, hb, ho⟩ := hrel
          have k1 := (HC.out _ (HB2.out.trans (hb.mono HB2.out.size))).k
          have hn : n = k * m := by rw [← HFL.out k hk]; exact (Own.bs ho).1.symm
          have hkm : k * m ≤ K * m := Nat.mul_le_mul_right _ hk
          by_cases hlt : k < K
          · obtain ⟨bB, oB, aB, nB, cB, eB, dB, rB⟩ := (HR2.out.below hb).get hlt
            have hnB : nB = m := by rw [← rB.1]; exact HLW.out k hlt
            have hnn : n + nB ≤ 140737488355328 := by have := HTT.out; omega
            have HO := Lib.hid ho
            have HRB := Lib.hid rB
            have HB := Lib.hid hb
            have hsz := hb.size
            subst eB
            clear ho rB hb hn hkm hnB
            go_wp2_with (at_builtin; refine app_own rfl _ _ rfl w2.heap.size rfl HO.out rfl HRB.out hnn hsz ?_; intro a7 c7 w7 h7 hb7 _; have H7 := Lib.hid h7; have HB7 := Lib.hid (HB.out.trans hb7); clear h7 hb7)
            go_roundw
            case rel => exact ⟨k + 1, n + nB, c7, a7, by omega, by go_num, rfl, HB7.out, by rw [HTS.out k hlt]; exact H7.out⟩
            case measure => simp [intOf]; omega
          · obtain rfl : k = K := by omega
            rw [HWT.out] at ho
            have hbs := Own.bs ho
            obtain rfl : n = T := by rw [hn, HTT.out]
            have hsl := slice_h a n c (hi := (S : Int)) (hi' := S) rfl (Nat.le_trans hST hbs.2.1)
            have HRES : Hid (Bs wr a S c (Rs.decL k M S ls)) := Lib.hid (by
              have ht := hbs.take hST
              unfold Rs.decL
              rw [if_pos e1.out, Int.toNat_natCast, HWl.out]
              exact ht)
            have HBF := Lib.hid (HB2.out.trans (hb.mono HB2.out.size))
            clear hbs ho hb hn hkm
            go_wp2
            go_ret2
            rw [e1.out]
            exact ⟨⟨_, _, _, rfl, HRES.out⟩, HBF.out⟩
end Go.Proofs.Ytppgbapfmijboaa
