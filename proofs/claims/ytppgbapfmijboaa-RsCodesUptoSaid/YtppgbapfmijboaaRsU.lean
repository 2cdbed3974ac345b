/- rs: Decode. -/
import Derived.Test.YtppgbapfmijboaaRsR
set_option maxRecDepth 100000
set_option linter.unusedVariables false
set_option linter.unusedSimpArgs false
namespace Go.Proofs.Ytppgbapfmijboaa
open Go.RowKit Go.Deep

theorem zero_dec : ZeroF 38 (.slice none 0 0) := by
  intro po x w h1 h2
  go_enter Try.func38, Try.ntmps38
  go_wp2
  go_end0
  exact ⟨rfl, rfl⟩
theorem slice_hm (a : Option Addr) (n c : Nat) {hi mx : Int} {hi' mx' : Nat} (hhi : hi = hi') (hmx : mx = mx') (h2 : hi' ≤ mx') (h3 : mx' ≤ c) (w : World) :
    (Instr.slice 22 (.slice a n c) none (some (.int .i64 hi)) (some (.int .i64 mx))).run Try.prog w = .ok (.slice a hi' mx') w := by
  obtain ⟨i, hi0, _, g1, _⟩ := info_parts info8
  subst hhi hmx
  simp [Instr.slice, run_underlying Try.underlying22, sizeOf, typeInfo, hi0, Instr.sliceBounds, run_sliceBound, h2, h3]
  intro _; cases a <;> simp [Addr.add_zero']
theorem flat_len : ∀ (ls : List (List UInt8)) (m : Nat), (∀ l ∈ ls, l.length = m) → ls.flatten.length = ls.length * m
  | [], m, _ => by simp
  | l :: ls, m, h => by
    rw [List.flatten_cons, List.length_append, h l (by simp), flat_len ls m (fun x hx => h x (by simp [hx])), List.length_cons, Nat.add_mul, Nat.one_mul]; omega

set_option maxHeartbeats 16000000 in
theorem decode_any (b K M : Nat) (size : Int) (aq : Option Addr) (ns cs : Nat) (ls : List (List UInt8)) (w : World) (hc : Cod w b K M) (hs : Bss w aq ns cs ls) (h1 : 1 ≤ K) (h2 : K + M ≤ 255) (h3 : ns ≤ 1000000000) (h4 : ∀ i, i < ns → (nth ls i).length ≤ 3000000)
    (hsz : -9223372036854775808 ≤ size ∧ size ≤ 9223372036854775807) :
    Calls Try.prog 14 #[.pointer (some ⟨b, 0, none⟩), .int .i64 size, .slice aq ns cs] w (VRes (Rs.decL K M size ls) (Rs.decE K M size ls) w) := by
  have hmf := makeFunc_run
  obtain ⟨w2, hw2⟩ : ∃ w2, (w.alloc (.cells #[.slice none 0 0] 22)).alloc (.cells #[.int .i64 0] 25) = w2 := ⟨_, rfl⟩
  have hT := Two.start w (.slice none 0 0) (.int .i64 0) 22 25
  rw [hw2] at hT
  have HC : Hid (∀ W, Below w.heap.size w W → Cod W b K M) := Lib.hid fun W h => hc.below h
  have HS : Hid (∀ W, Below w.heap.size w W → Bss W aq ns cs ls) := Lib.hid fun W h => hs.below h
  have HS0 := Lib.hid hs
  have HT := Lib.hid hT
  have HW := Lib.hid hw2
  have H4 := Lib.hid h4
  have HSZ := Lib.hid hsz
  have k1 := (HC.out w2 hT.out).k
  have k2 := (HC.out w2 hT.out).m
  clear hc hs hT hw2 h4 hsz
  have HRD : Hid (∀ tmps : Array Value, tmps.getD 6 undef = .pointer (some ⟨w.heap.size, 0, none⟩) → tmps.getD 7 undef = .pointer (some ⟨w.heap.size + 1, 0, none⟩) → Reads2 Try.f14 tmps w.heap.size) := Lib.hid fun tmps t4 t5 W v1 v2 g1 g2 => by
    simp [results, Try.results14, go_sem, g1, g2] at t4 t5 ⊢
    simp [t4, t5, asAddr, g1, g2, go_sem]
  go_enter_defers Try.func14, Try.ntmps14
  go_wp2_with fail
  rw [HW.out]
  clear HW
  go_still_tail 10, (by kernel_rfl)
  go_wp2_with fail
  have hT2 := Lib.hid (HT.out.later (Below.refl _ _).drew)
  generalize w2.drew = w3 at *
  clear HT k1 k2
  refine (alike_sum K M aq ns cs ls w3 (HS.out _ hT2.out.out) (by omega)).mono ?_
  rintro e w4 ⟨rfl, rfl⟩
  cases hA : Rs.alk (K + M) ls with
  | none =>
    have e1 : Rs.decE K M size ls = 1 := by unfold Rs.decE; rw [hA]
    have e2 : Rs.decL K M size ls = [] := by unfold Rs.decL; rw [e1]; rfl
    simp only [alkE]
    refine door_err (F := 38) (HRD.out _ rfl rfl) hT2.out (enters_of Try.func38 (by kernel_rfl) rfl) zero_dec (fun W hb => ?_)
    rw [e1, e2]
    exact nil_vres hb
  | some m =>
    simp only [alkE]
    obtain ⟨hlen, hsc⟩ := alk_some hA
    have hns := HS0.out.1
    obtain rfl : ns = K + M := by omega
    have hm4 : m ≤ 3000000 := sc_le (fun i hi => H4.out i (by omega)) ls.length (Nat.le_refl _) m (by rw [List.take_length]; exact hsc)
    have HSC := Lib.hid hsc
    have HLEN := Lib.hid hlen
    have HA := Lib.hid hA
    have hlt := hT2.out.lt
    have k3 := (HC.out w3 hT2.out.out).k
    have hmul : K * m ≤ 255 * 3000000 := Nat.mul_le_mul (by omega) hm4
    have hmi : (K : Int) * (m : Int) = ((K * m : Nat) : Int) := by simp
    obtain ⟨T, hT⟩ : ∃ T, K * m = T := ⟨_, rfl⟩
    rw [hT] at hmul hmi
    have HTT := Lib.hid hT
    clear hA hlen hsc hns H4 hT
    by_cases hbad : size < 0 ∨ (T : Int) < size
    · have e1 : Hid (Rs.decE K M size ls = 1) := Lib.hid (by unfold Rs.decE; rw [HA.out]; simp only; rw [HTT.out, if_pos hbad])
      have e2 : Hid (Rs.decL K M size ls = []) := Lib.hid (by unfold Rs.decL; rw [e1.out]; rfl)
      have hcase : decide (size < 0) = true ∨ (decide (size < 0) = false ∧ decide ((T : Int) < size) = true) := by
        by_cases q : size < 0
        · exact .inl (decide_eq_true q)
        · exact .inr ⟨decide_eq_false q, decide_eq_true (by omega)⟩
      clear hbad
      rcases hcase with hq | ⟨hq, hq2⟩
      all_goals
        go_wp2_with (go_at_call 31; refine (give_any _ _).mono ?_; rintro e w' ⟨rfl, rfl⟩)
        refine door_err (F := 38) (HRD.out _ rfl rfl) hT2.out (enters_of Try.func38 (by kernel_rfl) rfl) zero_dec (fun W hb => ?_)
        rw [e1.out, e2.out]
        exact nil_vres hb
    · obtain ⟨S, rfl⟩ : ∃ S : Nat, size = (S : Int) := ⟨size.toNat, by omega⟩
      have hST : S ≤ T := by omega
      have q1 : decide ((S : Int) < 0) = false := decide_eq_false (by omega)
      have q2 : decide ((T : Int) < (S : Int)) = false := decide_eq_false (by omega)
      have q3 : ¬ T < S := by omega
      have HNB : Hid (¬ ((S : Int) < 0 ∨ ((K * m : Nat) : Int) < (S : Int))) := Lib.hid (by rw [HTT.out]; omega)
      clear hbad
      go_wp2_with fail
      refine (whole_any (fun b => False) b K M aq cs m ls w3 (fun b hb => hb.elim) (HC.out _ hT2.out.out) (Stb.of_bss (HS.out _ hT2.out.out)) h1 h2 HSC.out (by omega)).mono ?_
      rintro e w4 ⟨hres, hb4⟩
      have HT4 := Lib.hid (hT2.out.later hb4)
      clear hb4 q1 q2 q3
      by_cases hlo : Rs.lostB K ls = true
      · rw [if_pos hlo] at hres
        subst hres
        have e1 : Rs.decE K M S ls = 16 := by unfold Rs.decE; rw [HA.out]; simp only; rw [if_neg HNB.out, if_pos hlo]
        have e2 : Rs.decL K M S ls = [] := by unfold Rs.decL; rw [e1]; rfl
        refine door_err (F := 38) (HRD.out _ rfl rfl) HT4.out (enters_of Try.func38 (by kernel_rfl) rfl) zero_dec (fun W hb => ?_)
        rw [e1, e2]
        exact nil_vres hb
      rw [if_neg hlo] at hres
      have hlo : Rs.lostB K ls = false := by simpa using hlo
      obtain ⟨a4, c4, rfl, hst⟩ := hres
      have e1 : Hid (Rs.decE K M S ls = 0) := Lib.hid (by unfold Rs.decE; rw [HA.out]; simp only; rw [if_neg HNB.out, hlo]; rfl)
      obtain ⟨v1, v2, v3⟩ := whole_even h1 HLEN.out HSC.out hlo
      have hflat : (Rs.whole K M ls).flatten.length = T := by
        rw [flat_len _ m (fun l hl => by
          obtain ⟨i, hi, rfl⟩ := List.getElem_of_mem hl
          rw [← nth_eq]
          exact v3 i (by rw [← v1]; exact hi)), v1]
        exact HTT.out
      have HST := Lib.hid hst.bss
      have HFL := Lib.hid hflat
      clear hst v1 v2 v3 hlo hflat
      go_wp2_with fail
      refine (concat_any _ _ _ _ w4 HST.out (by unfold tot; rw [HFL.out]; omega)).mono ?_
      rintro e w5 ⟨a5, n5, c5, rfl, h5, hb5⟩
      have hbs5 := h5.bs
      obtain rfl : n5 = T := by rw [← HFL.out]; exact hbs5.1.symm
      have HT5 := Lib.hid (HT4.out.later hb5)
      have hsl := slice_hm a5 n5 c5 (hi := (S : Int)) (hi' := S) (mx := (S : Int)) (mx' := S) rfl rfl (Nat.le_refl _) (Nat.le_trans hST hbs5.2.1)
      have c1 := HT5.out.c1
      have c2 := HT5.out.c2
      have f1 := HT5.out.f1
      have f2 := HT5.out.f2
      have hlt4 := HT4.out.lt
      have HRES : Hid (Bs ((w5.setCell ⟨w.heap.size, 0, none⟩ (.slice a5 S S)).setCell ⟨w.heap.size + 1, 0, none⟩ (.int .i64 0)) a5 S S (Rs.decL K M S ls)) := Lib.hid (by
        have hlow := own_new h5
        have hb := bs_setLow (p := ⟨w.heap.size + 1, 0, none⟩) (v := .int .i64 0) (B := w4.heap.size) hlt4 (bs_setLow (p := ⟨w.heap.size, 0, none⟩) (v := .slice a5 S S) (B := w4.heap.size) (by show w.heap.size < w4.heap.size; omega) hbs5 (fun _ x hx => hlow x hx)) (fun _ x hx => hlow x hx)
        have ht := hb.take hST
        unfold Rs.decL
        rw [if_pos e1.out, Int.toNat_natCast]
        exact ⟨ht.1, Nat.le_refl _, by simp only [maxLen]; omega, ht.2.2.2⟩)
      clear h5 hb5 hbs5
      go_wp2
      refine door_ok (F := 38) (HRD.out _ rfl rfl) (HT5.out.set' (.int .i64 0) (.slice a5 S S)) ?_
      rw [e1.out]
      exact ⟨⟨_, _, _, rfl, HRES.out⟩, (HT5.out.set' (.int .i64 0) (.slice a5 S S)).out⟩
end Go.Proofs.Ytppgbapfmijboaa
