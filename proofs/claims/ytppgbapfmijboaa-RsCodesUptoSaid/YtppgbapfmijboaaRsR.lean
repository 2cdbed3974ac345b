/- rs: Repair, walked. -/
import Derived.Test.YtppgbapfmijboaaRsQ
set_option maxRecDepth 100000
set_option linter.unusedVariables false
set_option linter.unusedSimpArgs false
namespace Go.Proofs.Ytppgbapfmijboaa
open Go.RowKit Go.Deep

theorem zero_rep : ZeroF 34 (.slice none 0 0) := by
  intro po x w h1 h2
  go_enter Try.func34, Try.ntmps34
  go_wp2
  go_end0
  exact ⟨rfl, rfl⟩
theorem clip_any (a : Option Addr) (n c : Nat) (w : World) (h : n ≤ c) (hc : c ≤ 9223372036854775807) : Calls Try.prog 36 #[.slice a n c] w fun e w' => e = .returned (.slice a n n) ∧ w = w' := by
  have hs := slicer_hm a n c (hi := (n : Int)) (hi' := n) (mx := (n : Int)) (mx' := n) rfl rfl (Nat.le_refl _) h
  go_enter Try.func36, Try.ntmps36
  go_wp2
  go_ret
  exact ⟨rfl, rfl⟩
theorem Stb.of_old {X : Nat → Prop} {w w2 : World} {a : Option Addr} {n c : Nat} {ls : List (List UInt8)} (h : Bss w a n c ls) (hb : Below w.heap.size w w2) (hX : ∀ b, X b → w.heap.size ≤ b) : Stb X w2 a n c ls := by
  obtain ⟨ai, ci, hv⟩ := h.vals
  refine ⟨h.1, h.2.1, h.2.2.1, ai, ci, fun W k i hi => ?_⟩
  have hbW : Below w.heap.size w W := hb.trans (k.below hb.size hX)
  obtain ⟨⟨b, off, h1, h2⟩, h3⟩ := hv i hi
  exact ⟨⟨b, off, h1, cell_later hbW h2⟩, h3.below hbW⟩
theorem sc_le {ls : List (List UInt8)} {N : Nat} (h : ∀ i, i < ls.length → (nth ls i).length ≤ N) : ∀ (k : Nat), k ≤ ls.length → ∀ x, Rs.sc (ls.take k) = some x → x ≤ N
  | 0, _, x, hx => by simp [Rs.sc] at hx; omega
  | k + 1, hk, x, hx => by
    rw [sc_snoc ls (by omega)] at hx
    cases hm : Rs.sc (ls.take k) with
    | none => rw [hm] at hx; cases hx
    | some m =>
      rw [hm] at hx
      simp only [Rs.sc1] at hx
      split at hx
      · cases hx
      · have := sc_le h k (by omega) m hm
        have := h k (by omega)
        have hx' : max m (nth ls k).length = x := by simpa using hx
        omega
/-- Slices that are gathered: the row and its elements are the call's own. -/
structure AccX (w : World) (B : Nat) (a : Option Addr) (n c : Nat) (ls : List (List UInt8)) : Prop where
  len : ls.length = n
  row : ∃ cs, OwnV w B a n c cs ∧ ∀ i, i < n → ∃ ai ni ci, cs[i]? = some (.slice ai ni ci) ∧ Bs w ai ni ci (nth ls i) ∧ (0 < ni → ∀ x, ai = some x → B ≤ x.block) ∧ (0 < ni → ∀ x y, ai = some x → a = some y → x.block ≠ y.block)
theorem AccX.nil (w : World) (B : Nat) : AccX w B none 0 0 [] := ⟨rfl, [], OwnV.nil w B, fun i hi => by omega⟩
theorem AccX.below {w w' : World} {B n c : Nat} {a : Option Addr} {ls : List (List UInt8)} (h : AccX w B a n c ls) (hb : Below w.heap.size w w') : AccX w' B a n c ls := by
  obtain ⟨cs, h1, h2⟩ := h.row
  exact ⟨h.len, cs, h1.below hb, fun i hi => by
    obtain ⟨ai, ni, ci, g1, g2, g3, g4⟩ := h2 i hi
    exact ⟨ai, ni, ci, g1, g2.below hb, g3, g4⟩⟩
theorem AccX.bss {w : World} {B n c : Nat} {a : Option Addr} {ls : List (List UInt8)} (h : AccX w B a n c ls) : Bss w a n c ls := by
  obtain ⟨cs, h1, h2⟩ := h.row
  refine ⟨h.len, h1.len.2.1, h1.len.2.2, fun i hi => ?_⟩
  obtain ⟨ai, ni, ci, g1, g2, _⟩ := h2 i hi
  obtain ⟨b, off, e1, e2⟩ := Row.of_own h1 i _ g1
  exact ⟨b, off, ai, ni, ci, e1, e2, g2⟩
theorem bs_setLow {w : World} {p : Addr} {v : Value} {B : Nat} (hp : p.block < B) {a : Option Addr} {n c : Nat} {l : List UInt8} (h : Bs w a n c l) (hB : 0 < n → ∀ x, a = some x → B ≤ x.block) : Bs (w.setCell p v) a n c l := by
  refine ⟨h.1, h.2.1, h.2.2.1, fun j u hu => ?_⟩
  obtain ⟨b, off, e1, e2⟩ := h.2.2.2 j u hu
  subst e1
  have hn : 0 < n := by
    rcases Nat.eq_zero_or_pos n with h0 | h0
    · have : l = [] := List.eq_nil_of_length_eq_zero (by rw [h.1, h0])
      subst this; simp [vs] at hu
    · exact h0
  have := hB hn _ rfl
  refine ⟨b, off, rfl, ?_⟩
  rw [World.cell?_setCell_other _ _ _ _ (by intro e; rw [e] at hp; simp at hp; have : B ≤ b := this; omega)]
  exact e2
theorem AccX.setLow {w : World} {B n c : Nat} {a : Option Addr} {ls : List (List UInt8)} (h : AccX w B a n c ls) {p : Addr} (hp : p.block < B) (v : Value) : AccX (w.setCell p v) B a n c ls := by
  obtain ⟨cs, h1, h2⟩ := h.row
  refine ⟨h.len, cs, own_keep h1 (fun g hg => Below.heap_setCell _ _ _ _ (by omega)), fun i hi => ?_⟩
  obtain ⟨ai, ni, ci, g1, g2, g3, g4⟩ := h2 i hi
  exact ⟨ai, ni, ci, g1, bs_setLow hp g2 g3, g3, g4⟩
theorem AccX.snoc {w w' : World} {B n c c' : Nat} {a a' : Option Addr} {ls : List (List UInt8)} {cs : List Value} {ae : Option Addr} {ne ce : Nat} {l : List UInt8}
    (hl : ls.length = n) (h1 : OwnV w B a n c cs) (h2 : ∀ i, i < n → ∃ ai ni ci, cs[i]? = some (.slice ai ni ci) ∧ Bs w ai ni ci (nth ls i) ∧ (0 < ni → ∀ x, ai = some x → B ≤ x.block) ∧ (0 < ni → ∀ x y, ai = some x → a = some y → x.block ≠ y.block))
    (he : Bs w ae ne ce l) (heB : 0 < ne → ∀ x, ae = some x → B ≤ x.block) (hne : 0 < ne → ∀ x y, ae = some x → a = some y → x.block ≠ y.block)
    (h : OwnV w' B a' (n + 1) c' (cs ++ [.slice ae ne ce])) (hev : Evol w a w' a') : AccX w' B a' (n + 1) c' (ls ++ [l]) := by
  have step : ∀ {ai : Option Addr} {ni ci : Nat} {m : List UInt8}, Bs w ai ni ci m → (0 < ni → ∀ x y, ai = some x → a = some y → x.block ≠ y.block) → Bs w' ai ni ci m ∧ (0 < ni → ∀ x y, ai = some x → a' = some y → x.block ≠ y.block) := by
    intro ai ni ci m g2 g3
    refine ⟨g2.evol hev g3, fun h0 x y hx hy e => ?_⟩
    have hold := g2.old h0 x hx
    rcases hev.2 y hy with k1 | k1
    · cases a with
      | none => cases k1
      | some z =>
        have k2 : z.block = y.block := by simpa using k1
        exact g3 h0 x z hx rfl (by rw [e, k2])
    · omega
  have hcl := h1.len.1
  refine ⟨by simp [hl], cs ++ [.slice ae ne ce], h, fun i hi => ?_⟩
  by_cases e : i = n
  · subst e
    obtain ⟨k1, k2⟩ := step he hne
    refine ⟨ae, ne, ce, by rw [← hcl]; simp, ?_, heB, k2⟩
    rw [nth_eq _ (by simp; omega)]
    simpa [hl] using k1
  · obtain ⟨ai, ni, ci, g1, g2, g3, g4⟩ := h2 i (by omega)
    obtain ⟨k1, k2⟩ := step g2 g4
    refine ⟨ai, ni, ci, by rw [List.getElem?_append_left (by omega)]; exact g1, ?_, g3, k2⟩
    rw [nth_append_left _ _ (by omega)]
    exact k1
section
variable {w : World} {ops : Array Oper} {rest : List Oper} {o : Oper} {a : Act} {Q : Exit → Act → World → Prop}
theorem app_accX (hgd : Region.wanted o (yielded ops a.tmps) = true) (s x : Operand) (ho : o.op = .call { callee := .builtin .append, args := #[s, x], argTypes := #[28, 28] })
    (B : Nat) {aq : Option Addr} {n c : Nat} {ls : List (List UInt8)} (hs : a.eval s = .slice aq n c) (hacc : AccX w B aq n c ls)
    {k : Nat} {ae : Option Addr} {ne ce : Nat} {l : List UInt8} (hx : a.eval x = .slice (some ⟨k, 0, none⟩) 1 1) (hcell : w.cell? ⟨k, 0, none⟩ = some (.slice ae ne ce)) (he : Bs w ae ne ce l)
    (heB : 0 < ne → ∀ x, ae = some x → B ≤ x.block) (hne : 0 < ne → ∀ x y, ae = some x → aq = some y → x.block ≠ y.block) (hb : n ≤ 1000000000000) (hB : B ≤ w.heap.size)
    (h : ∀ a' c' w', AccX w' B a' (n + 1) c' (ls ++ [l]) → Below B w w' → wpList Try.prog ops Q rest (a.put o.dst (.slice a' (n + 1) c')) w') : wpList Try.prog ops Q (o :: rest) a w := by
  obtain ⟨cs, h1, h2⟩ := hacc.row
  refine app_row hgd s x ho B hs h1 hx hcell rfl hb hB fun a' c' w' g1 g2 g3 => ?_
  exact h a' c' w' (AccX.snoc hacc.len h1 h2 he heB hne g1 g3) g2
end
theorem AccX.new {w : World} {B n c : Nat} {a : Option Addr} {ls : List (List UInt8)} (h : AccX w B a n c ls) : ∀ z, a = some z → B ≤ z.block ∧ z.block < w.heap.size := by
  obtain ⟨cs, h1, _⟩ := h.row
  exact h1.new

theorem wp_only {P : Program} {Q : Exit → Act → World → Prop} {c : Code} {a : Act} {w : World} (h : c.wp P (fun e a w => e = .normal ∧ Q .normal a w) a w) : c.wp P Q a w :=
  wp_mono h fun e a' w' ⟨h1, h2⟩ => by subst h1; exact h2
theorem both_even {K M m : Nat} {ls : List (List UInt8)} (hK : 1 ≤ K) (hl : ls.length = K + M) (hsc : Rs.sc ls = some m) (hlo : Rs.lostB K ls = false) {i : Nat} (hi : i < K + M) : (nth (Rs.both K M ls) i).length = m := by
  obtain ⟨h1, h2, h3⟩ := whole_even hK hl hsc hlo
  unfold Rs.both
  by_cases e : i < K
  · rw [nth_append_left _ _ (by omega)]; exact h3 i e
  · have hp : Rs.parL K M (Rs.whole K M ls) = Rs.par K M (Rs.whole K M ls) := by unfold Rs.parL; rw [if_pos h2]
    rw [nth_eq _ (by rw [List.length_append, hp]; unfold Rs.par; rw [mat_len]; omega), List.getElem_append_right (by omega), ← nth_eq, hp]
    unfold Rs.par
    rw [mat_row (by omega)]
    simp [h3 0 (by omega)]
theorem own_new {w : World} {B n c : Nat} {a : Option Addr} {l : List UInt8} (h : Own w B a n c l) : ∀ x, a = some x → B ≤ x.block := by
  intro x hx
  subst hx
  exact (World.ownsRow.lt h x.block rfl).1
set_option maxHeartbeats 16000000 in
theorem repair_any (b K M : Nat) (aq : Option Addr) (ns cs : Nat) (ls : List (List UInt8)) (w : World) (hc : Cod w b K M) (hs : Bss w aq ns cs ls) (h1 : 1 ≤ K) (h2 : K + M ≤ 255) (h3 : ns ≤ 1000000000) (h4 : ∀ i, i < ns → (nth ls i).length ≤ 100000000) :
    Calls Try.prog 11 #[.pointer (some ⟨b, 0, none⟩), .slice aq ns cs] w (MRes (Rs.repL K M ls) (Rs.errS K M ls) w) := by
  have hmf := makeFunc_run
  obtain ⟨w2, hw2⟩ : ∃ w2, (w.alloc (.cells #[.slice none 0 0] 28)).alloc (.cells #[.int .i64 0] 25) = w2 := ⟨_, rfl⟩
  have hT := Two.start w (.slice none 0 0) (.int .i64 0) 28 25
  rw [hw2] at hT
  have HC : Hid (∀ W, Below w.heap.size w W → Cod W b K M) := Lib.hid fun W h => hc.below h
  have HS : Hid (∀ W, Below w.heap.size w W → Bss W aq ns cs ls) := Lib.hid fun W h => hs.below h
  have HS0 := Lib.hid hs
  have HT := Lib.hid hT
  have HW := Lib.hid hw2
  have H4 := Lib.hid h4
  have k1 := (HC.out w2 hT.out).k
  have k2 := (HC.out w2 hT.out).m
  clear hc hs hT hw2 h4
  have HRD : Hid (∀ tmps : Array Value, tmps.getD 4 undef = .pointer (some ⟨w.heap.size, 0, none⟩) → tmps.getD 5 undef = .pointer (some ⟨w.heap.size + 1, 0, none⟩) → Reads2 Try.f11 tmps w.heap.size) := Lib.hid fun tmps t4 t5 W v1 v2 g1 g2 => by
    simp [results, Try.results11, go_sem, g1, g2] at t4 t5 ⊢
    simp [t4, t5, asAddr, g1, g2, go_sem]
  go_enter_defers Try.func11, Try.ntmps11
  go_wp2_with fail
  rw [HW.out]
  clear HW
  go_still_tail 10, (by kernel_rfl)
  go_wp2_with fail
  have hT2 := Lib.hid (HT.out.later (Below.refl _ _).drew)
  generalize w2.drew = w3 at *
  clear HT k1 k2
  refine (alike_sum K M aq ns cs ls w3 (HS.out _ hT2.out.out) (by omega)).mono ?_
  rintro e w4 ⟨rfl, rfl⟩
  cases hA : Rs.alk (K + M) ls with
  | none =>
    have e1 : Rs.errS K M ls = 1 := by unfold Rs.errS; rw [hA]
    have e2 : Rs.repL K M ls = [] := by unfold Rs.repL; rw [e1]; rfl
    simp only [alkE]
    refine door_err (F := 34) (HRD.out _ rfl rfl) hT2.out (enters_of Try.func34 (by kernel_rfl) rfl) zero_rep (fun W hb => ?_)
    rw [e1, e2]
    exact nil_res rfl hb
  | some m =>
    simp only [alkE]
    obtain ⟨hlen, hsc⟩ := alk_some hA
    have hns := HS0.out.1
    obtain rfl : ns = K + M := by omega
    have hm4 : m ≤ 100000000 := sc_le (fun i hi => H4.out i (by omega)) ls.length (Nat.le_refl _) m (by rw [List.take_length]; exact hsc)
    have HSC := Lib.hid hsc
    have HLEN := Lib.hid hlen
    have HA := Lib.hid hA
    have hlt := hT2.out.lt
    have HN4 : Hid (∀ i, i < K + M → (nth ls i).length ≤ 100000000) := Lib.hid fun i hi => H4.out i hi
    clear hA hlen hsc hns H4
    go_wp2_with fail
    refine (whole_any (fun b => b = w.heap.size) b K M aq cs m ls w3 (fun b hb => by omega) (HC.out _ hT2.out.out) (Stb.of_old HS0.out hT2.out.out (fun b hb => by omega)) h1 h2 HSC.out hm4).mono ?_
    rintro e w4 ⟨hres, hb4⟩
    have HT4 := Lib.hid (hT2.out.later hb4)
    clear hb4
    by_cases hlo : Rs.lostB K ls = true
    · rw [if_pos hlo] at hres
      subst hres
      have e1 : Rs.errS K M ls = 16 := by unfold Rs.errS; rw [HA.out]; simp [hlo]
      have e2 : Rs.repL K M ls = [] := by unfold Rs.repL; rw [e1]; rfl
      refine door_err (F := 34) (HRD.out _ rfl rfl) HT4.out (enters_of Try.func34 (by kernel_rfl) rfl) zero_rep (fun W hb => ?_)
      rw [e1, e2]
      exact nil_res rfl hb
    rw [if_neg hlo] at hres
    have hlo : Rs.lostB K ls = false := by simpa using hlo
    obtain ⟨a4, c4, rfl, hst⟩ := hres
    have e1 := Lib.hid (show Rs.errS K M ls = 0 by unfold Rs.errS; rw [HA.out]; simp [hlo])
    obtain ⟨v1, v2, v3⟩ := whole_even h1 HLEN.out HSC.out hlo
    have hbl := both_len h1 HLEN.out HSC.out hlo
    have HBE : Hid (∀ i, i < K + M → (nth (Rs.both K M ls) i).length = m) := Lib.hid fun i hi => both_even h1 HLEN.out HSC.out hlo hi
    have HST := Lib.hid hst
    have V2 := Lib.hid v2
    have V3 := Lib.hid v3
    have HBL := Lib.hid hbl
    have hc4 := hst.nc
    have hc4m := hst.cm
    clear hst v1 v2 v3 hbl hlo
    go_wp2_with fail
    refine (parity_any b K M _ _ _ _ w4 (HC.out _ HT4.out.out) HST.out.bss h1 h2 (by omega) (fun i hi => by rw [V3.out i hi]; exact hm4)).mono ?_
    rintro e w5 hres
    have hlt4 : w.heap.size < w4.heap.size := by have := HT4.out.lt; omega
    obtain ⟨a5, n5, c5, rfl, hst5⟩ := hres.stb (X := fun b => b = w.heap.size) (fun b hb => by omega)
    obtain ⟨⟨_, _, _, _, _, _⟩, hb5⟩ := hres
    obtain rfl : n5 = M := by rw [← hst5.len, HBL.out]
    have HT5 := Lib.hid (HT4.out.later hb5)
    have hstL := HST.out.below hb5
    obtain ⟨aiL, ciL, hvL⟩ := hstL.vals
    obtain ⟨aiM, ciM, hvM⟩ := hst5.vals
    have RL := Lib.hid (vals_row (fun i hi => (hvL w5 (Onl.refl _ _) i hi).1))
    have RM := Lib.hid (vals_row (fun i hi => (hvM w5 (Onl.refl _ _) i hi).1))
    have HVL := Lib.hid hvL
    have HVM := Lib.hid hvM
    have HSL := Lib.hid hstL
    have HSM := Lib.hid hst5
    clear hstL hvL hvM hst5 hb5
    go_wp2_with fail
    refine (clip_any a4 K c4 w5 hc4 (by simp only [maxLen] at hc4m; omega)).mono ?_
    rintro e w6 ⟨rfl, rfl⟩
    go_wp2_with (at_builtin; refine app_fullr rfl _ _ rfl rfl RL.out (by simp) (by omega) rfl RM.out (by simp) (by intro u hu; obtain ⟨i, _, rfl⟩ := List.mem_map.1 hu; rfl) (by omega) ?_; intro a6 c6 w6 ho hb6)
    have hlt5 := HT5.out.lt
    have HSB : Hid (Stb (fun b => b = w.heap.size) w6 a6 (K + n5) c6 (Rs.both K n5 ls)) := Lib.hid (by
      unfold Rs.both
      rcases ho with ⟨h0, h01, h02, h03⟩ | ho
      · have : Rs.parL K n5 (Rs.whole K n5 ls) = [] := List.eq_nil_of_length_eq_zero (by rw [HBL.out, h0])
        rw [this, List.append_nil, h01, h02, h03, h0, Nat.add_zero, ← h0]
        exact ⟨HSL.out.len, Nat.le_refl _, Nat.le_trans HSL.out.nc HSL.out.cm, HSL.out.vals⟩
      · exact HSL.out.join HSM.out (fun b hb => by omega) HVL.out HVM.out hb6 ho)
    have HT6 := Lib.hid (HT5.out.later hb6)
    clear ho hb6 HSL HSM HVL HVM RL RM HT5 HT4 hT2
    have hlt6 := HT6.out.lt
    have c1 := Lib.hid HT6.out.c1
    have c2 := Lib.hid HT6.out.f1
    have HKK : Hid (1 ≤ K) := Lib.hid h1
    go_loopw [37] (fun i wr => ∃ (k c : Nat) (a : Option Addr), k ≤ K + n5 ∧ i = .int .i64 k ∧ Onl w6 wr (fun b => b = w.heap.size) ∧ wr.cell? ⟨w.heap.size, 0, none⟩ = some (.slice a k c) ∧ wr.frozen? ⟨w.heap.size, 0, none⟩ = false ∧ AccX wr w6.heap.size a k c ((List.range k).map (Rs.repAt K n5 ls))) (fun i _ => K + n5 - (intOf i).toNat)
    case atStart => exact ⟨0, 0, none, Nat.zero_le _, rfl, Onl.refl _ _, c1.out, c2.out, AccX.nil _ _⟩
    case round =>
      clear c1 c2
      obtain ⟨k, c, a, hk, rfl, ho, c1, f1, hacc⟩ := hrel
      have hbw : Below w.heap.size w wr := HT6.out.out.trans (ho.below HT6.out.out.size (fun b hb => by omega))
      by_cases hlt : k < K + n5
      · obtain ⟨bB, oB, aB, nB, cB, eB, dB, rB⟩ := (HSB.out.at_ ho).get hlt
        subst eB
        obtain ⟨bA, oA, aA, nA, cA, eA, dA, rA⟩ := (HS.out wr hbw).get hlt
        subst eA
        have HO := Lib.hid ho
        have HBW := Lib.hid hbw
        have RA := Lib.hid rA
        have RB := Lib.hid rB
        have HACC := Lib.hid hacc
        have hnA := rA.le.1
        have hlA : (nth ls k).length = nA := rA.1
        have hat : Hid (Rs.repAt K n5 ls k = if 0 < nA then nth ls k else nth (Rs.both K n5 ls) k) := Lib.hid (by unfold Rs.repAt; rw [hlA])
        have hnA2 : Hid (nA ≤ 1000000000) := Lib.hid (by have := HN4.out k hlt; omega)
        have hnB2 : Hid (nB ≤ 1000000000) := Lib.hid (by have := HBE.out k hlt; rw [rB.1] at this; omega)
        clear ho hbw rA rB hacc hlA
        by_cases hp : 0 < nA
        · have hat2 := Lib.hid (hat.out.trans (if_pos hp))
          go_wp2_with fail
          refine wp_only ?_
          refine wp_region_order [1] [0] [2, 3] [4, 5] 4 (by rintro c a d v w ⟨h, _⟩; cases h) (by kernel_rfl) (by kernel_rfl) (fun W' => ∃ V : BW wr, W' = V.w) ⟨⟨wr.drew, (Below.refl _ _).drew⟩, rfl⟩ ?_
          simp only [opsAt, List.filterMap_cons, List.filterMap_nil, List.getElem?_cons_zero, List.getElem?_cons_succ]
          apply held_step
          · rfl
          · intro W _
            go_simp
            rfl
          refine held_nil ?_
          apply held_step
          · rfl
          · rintro _ ⟨V, rfl⟩
            have m0 := BW.cell c1 V
            go_simp
            rfl
          refine held_nil ?_
          refine walkS_step rfl (fun Kc hK => ?_)
          go_simp
          refine (clone_any _ _ _ _ wr.drew (RA.out.below (Below.refl _ _).drew) hnA2.out).mono ?_
          rintro en w7 ⟨a7, n7, c7, rfl, h7, hb7⟩
          obtain rfl : n7 = nA := by have := h7.bs.1; have := RA.out.1; omega
          have hb7' : Below wr.heap.size wr w7 := ((Below.refl wr.heap.size wr).drew).trans hb7
          refine hK _ _ ⟨⟨w7, hb7'⟩, rfl⟩ ?_
          clear hK
          refine walkS_step rfl (fun Kc hK => ?_)
          go_simp
          have hb8 : Below wr.heap.size wr (w7.alloc (.cells #[.slice a7 n7 c7] 22)) := hb7'.trans ((below_alloc w7 _).mono hb7'.size)
          refine hK _ _ ⟨⟨_, hb8⟩, rfl⟩ ?_
          refine walkS_nil ?_
          clear hK
          have HX8 := Lib.hid (box_new w7 (.slice a7 n7 c7) 22)
          have HB8 := Lib.hid hb8
          have HA8 := Lib.hid (HACC.out.below hb8)
          have h78 := h7.below (below_alloc w7 (.cells #[.slice a7 n7 c7] 22))
          have H78 := Lib.hid h78.bs
          have hoX : Hid (∀ x, a7 = some x → w6.heap.size ≤ x.block ∧ (∀ y, a = some y → x.block ≠ y.block)) := Lib.hid fun x hx => by
            have h9 : wr.heap.size ≤ x.block := own_new h7 x hx
            have h10 := HO.out.size
            have h11 : w6.heap.size ≤ x.block := Nat.le_trans h10 (Nat.le_trans (by simp) h9)
            exact ⟨h11, fun y hy e => by have := (HACC.out.new y hy).2; omega⟩
          have hsz8 : w6.heap.size ≤ (w7.alloc (.cells #[.slice a7 n7 c7] 22)).heap.size := Nat.le_trans HO.out.size hb8.size
          have hc8 := cell_later hb8 c1
          clear h7 hb7 hb7' hb8 h78
          refine app_accX rfl _ _ rfl w6.heap.size (by simp [Act.eval, Act.put]) HA8.out (by simp [Act.eval, Act.put]) HX8.out H78.out (fun _ x hx => (hoX.out x hx).1) (fun _ x y hx hy => (hoX.out x hx).2 y hy) (by omega) hsz8 ?_
          intro a9 c9 w9 h9 hb9
          have hlw : w.heap.size < w6.heap.size := by omega
          have hblk : w9.heap[w.heap.size]? = wr.heap[w.heap.size]? := (hb9.block _ hlw).trans (HB8.out.block _ (Nat.lt_of_lt_of_le hlw HO.out.size))
          have c9' := (World.cell?_of_block hblk).trans c1
          have f9 : w9.frozen? ⟨w.heap.size, 0, none⟩ = false := by have := f1; unfold World.frozen? at *; rw [hblk]; exact this
          have hon : Onl w6 w9 (fun b => b = w.heap.size) := ⟨hb9.os.trans (HB8.out.os.trans HO.out.os), hb9.tape.trans (HB8.out.tape.trans HO.out.tape), hb9.output.trans (HB8.out.output.trans HO.out.output), Nat.le_trans hsz8 hb9.size, fun k hk hX => (hb9.block k hk).trans ((HB8.out.block k (Nat.lt_of_lt_of_le hk HO.out.size)).trans (HO.out.block k hk hX))⟩
          have HON : Hid (Onl w6 (w9.setCell ⟨w.heap.size, 0, none⟩ (.slice a9 (k + 1) c9)) (fun b => b = w.heap.size)) := Lib.hid (hon.set rfl _)
          have HAX : Hid (AccX (w9.setCell ⟨w.heap.size, 0, none⟩ (.slice a9 (k + 1) c9)) w6.heap.size a9 (k + 1) c9 ((List.range (k + 1)).map (Rs.repAt K n5 ls))) := Lib.hid (by
            have := h9.setLow (p := ⟨w.heap.size, 0, none⟩) hlw (.slice a9 (k + 1) c9)
            rw [List.range_succ, List.map_append, List.map_singleton, hat2.out]
            exact this)
          have HC9 : Hid ((w9.setCell ⟨w.heap.size, 0, none⟩ (.slice a9 (k + 1) c9)).cell? ⟨w.heap.size, 0, none⟩ = some (.slice a9 (k + 1) c9)) := Lib.hid (World.cell?_setCell_same _ _ _ c9')
          have HF9 : Hid ((w9.setCell ⟨w.heap.size, 0, none⟩ (.slice a9 (k + 1) c9)).frozen? ⟨w.heap.size, 0, none⟩ = false) := Lib.hid (by simpa using f9)
          clear h9 hb9 hblk hon hc8
          go_wp2
          go_roundw
          case rel => exact ⟨k + 1, c9, a9, by omega, by go_num, HON.out, HC9.out, HF9.out, HAX.out⟩
          case measure => simp [intOf]; omega
        · have hat2 := Lib.hid (hat.out.trans (if_neg hp))
          go_wp2_with fail
          refine wp_only ?_
          refine wp_region_order [1] [0] [2, 3] [4, 5] 4 (by rintro c a d v w ⟨h, _⟩; cases h) (by kernel_rfl) (by kernel_rfl) (fun W' => ∃ V : BW wr, W' = V.w) ⟨⟨wr.drew, (Below.refl _ _).drew⟩, rfl⟩ ?_
          simp only [opsAt, List.filterMap_cons, List.filterMap_nil, List.getElem?_cons_zero, List.getElem?_cons_succ]
          apply held_step
          · rfl
          · intro W _
            go_simp
            rfl
          refine held_nil ?_
          apply held_step
          · rfl
          · rintro _ ⟨V, rfl⟩
            have m0 := BW.cell c1 V
            go_simp
            rfl
          refine held_nil ?_
          refine walkS_step rfl (fun Kc hK => ?_)
          go_simp
          refine (clone_any _ _ _ _ wr.drew (RB.out.below (Below.refl _ _).drew) hnB2.out).mono ?_
          rintro en w7 ⟨a7, n7, c7, rfl, h7, hb7⟩
          obtain rfl : n7 = nB := by have := h7.bs.1; have := RB.out.1; omega
          have hb7' : Below wr.heap.size wr w7 := ((Below.refl wr.heap.size wr).drew).trans hb7
          refine hK _ _ ⟨⟨w7, hb7'⟩, rfl⟩ ?_
          clear hK
          refine walkS_step rfl (fun Kc hK => ?_)
          go_simp
          have hb8 : Below wr.heap.size wr (w7.alloc (.cells #[.slice a7 n7 c7] 22)) := hb7'.trans ((below_alloc w7 _).mono hb7'.size)
          refine hK _ _ ⟨⟨_, hb8⟩, rfl⟩ ?_
          refine walkS_nil ?_
          clear hK
          have HX8 := Lib.hid (box_new w7 (.slice a7 n7 c7) 22)
          have HB8 := Lib.hid hb8
          have HA8 := Lib.hid (HACC.out.below hb8)
          have h78 := h7.below (below_alloc w7 (.cells #[.slice a7 n7 c7] 22))
          have H78 := Lib.hid h78.bs
          have hoX : Hid (∀ x, a7 = some x → w6.heap.size ≤ x.block ∧ (∀ y, a = some y → x.block ≠ y.block)) := Lib.hid fun x hx => by
            have h9 : wr.heap.size ≤ x.block := own_new h7 x hx
            have h10 := HO.out.size
            have h11 : w6.heap.size ≤ x.block := Nat.le_trans h10 (Nat.le_trans (by simp) h9)
            exact ⟨h11, fun y hy e => by have := (HACC.out.new y hy).2; omega⟩
          have hsz8 : w6.heap.size ≤ (w7.alloc (.cells #[.slice a7 n7 c7] 22)).heap.size := Nat.le_trans HO.out.size hb8.size
          have hc8 := cell_later hb8 c1
          clear h7 hb7 hb7' hb8 h78
          refine app_accX rfl _ _ rfl w6.heap.size (by simp [Act.eval, Act.put]) HA8.out (by simp [Act.eval, Act.put]) HX8.out H78.out (fun _ x hx => (hoX.out x hx).1) (fun _ x y hx hy => (hoX.out x hx).2 y hy) (by omega) hsz8 ?_
          intro a9 c9 w9 h9 hb9
          have hlw : w.heap.size < w6.heap.size := by omega
          have hblk : w9.heap[w.heap.size]? = wr.heap[w.heap.size]? := (hb9.block _ hlw).trans (HB8.out.block _ (Nat.lt_of_lt_of_le hlw HO.out.size))
          have c9' := (World.cell?_of_block hblk).trans c1
          have f9 : w9.frozen? ⟨w.heap.size, 0, none⟩ = false := by have := f1; unfold World.frozen? at *; rw [hblk]; exact this
          have hon : Onl w6 w9 (fun b => b = w.heap.size) := ⟨hb9.os.trans (HB8.out.os.trans HO.out.os), hb9.tape.trans (HB8.out.tape.trans HO.out.tape), hb9.output.trans (HB8.out.output.trans HO.out.output), Nat.le_trans hsz8 hb9.size, fun k hk hX => (hb9.block k hk).trans ((HB8.out.block k (Nat.lt_of_lt_of_le hk HO.out.size)).trans (HO.out.block k hk hX))⟩
          have HON : Hid (Onl w6 (w9.setCell ⟨w.heap.size, 0, none⟩ (.slice a9 (k + 1) c9)) (fun b => b = w.heap.size)) := Lib.hid (hon.set rfl _)
          have HAX : Hid (AccX (w9.setCell ⟨w.heap.size, 0, none⟩ (.slice a9 (k + 1) c9)) w6.heap.size a9 (k + 1) c9 ((List.range (k + 1)).map (Rs.repAt K n5 ls))) := Lib.hid (by
            have := h9.setLow (p := ⟨w.heap.size, 0, none⟩) hlw (.slice a9 (k + 1) c9)
            rw [List.range_succ, List.map_append, List.map_singleton, hat2.out]
            exact this)
          have HC9 : Hid ((w9.setCell ⟨w.heap.size, 0, none⟩ (.slice a9 (k + 1) c9)).cell? ⟨w.heap.size, 0, none⟩ = some (.slice a9 (k + 1) c9)) := Lib.hid (World.cell?_setCell_same _ _ _ c9')
          have HF9 : Hid ((w9.setCell ⟨w.heap.size, 0, none⟩ (.slice a9 (k + 1) c9)).frozen? ⟨w.heap.size, 0, none⟩ = false) := Lib.hid (by simpa using f9)
          clear h9 hb9 hblk hon hc8
          go_wp2
          go_roundw
          case rel => exact ⟨k + 1, c9, a9, by omega, by go_num, HON.out, HC9.out, HF9.out, HAX.out⟩
          case measure => simp [intOf]; omega
      · obtain rfl : k = K + n5 := by omega
        have c2' : wr.cell? ⟨w.heap.size + 1, 0, none⟩ = some (.int .i64 0) := ho.cell HT6.out.c2 (by omega)
        have f2' : wr.frozen? ⟨w.heap.size + 1, 0, none⟩ = false := by
          have := HT6.out.f2
          unfold World.frozen? at *
          rw [ho.block (w.heap.size + 1) hlt6 (by omega)]
          exact this
        have hTF : Two w wr (.slice a (K + n5) c) (.int .i64 0) := ⟨hbw, c1, c2', f1, f2'⟩
        have HTF := Lib.hid hTF
        have HRES : Hid (Bss ((wr.setCell ⟨w.heap.size, 0, none⟩ (.slice a (K + n5) c)).setCell ⟨w.heap.size + 1, 0, none⟩ (.int .i64 0)) a (K + n5) c (Rs.repL K n5 ls)) := Lib.hid (by
          have := ((hacc.setLow (p := ⟨w.heap.size, 0, none⟩) (by show w.heap.size < w6.heap.size; omega) (.slice a (K + n5) c)).setLow (p := ⟨w.heap.size + 1, 0, none⟩) hlt6 (.int .i64 0)).bss
          unfold Rs.repL
          rw [if_pos e1.out]
          exact this)
        clear ho hbw hacc hTF
        go_wp2
        refine door_ok (F := 34) (HRD.out _ rfl rfl) (HTF.out.set' (.int .i64 0) (.slice a (K + n5) c)) ?_
        rw [e1.out]
        exact ⟨⟨_, _, _, rfl, HRES.out⟩, (HTF.out.set' (.int .i64 0) (.slice a (K + n5) c)).out⟩
end Go.Proofs.Ytppgbapfmijboaa
