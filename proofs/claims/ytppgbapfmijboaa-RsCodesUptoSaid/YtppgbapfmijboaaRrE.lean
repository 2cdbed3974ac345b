/- rs, the reference: Repair. -/
import Derived.Test.YtppgbapfmijboaaRrD
set_option maxRecDepth 100000
set_option linter.unusedVariables false
set_option linter.unusedSimpArgs false
namespace Go.Proofs.Ytppgbapfmijboaa
open Go.RowKit Go.Deep

/-- Slices that are gathered: the row is the call's own, no element lies in it. -/
structure AccY (w : World) (B : Nat) (a : Option Addr) (n c : Nat) (ls : List (List UInt8)) : Prop where
  len : ls.length = n
  row : ∃ cs, OwnV w B a n c cs ∧ ∀ i, i < n → ∃ ai ni ci, cs[i]? = some (.slice ai ni ci) ∧ Bs w ai ni ci (nth ls i) ∧ (0 < ni → ∀ x y, ai = some x → a = some y → x.block ≠ y.block)
theorem AccY.nil (w : World) (B : Nat) : AccY w B none 0 0 [] := ⟨rfl, [], OwnV.nil w B, fun i hi => by omega⟩
theorem AccY.below {w w' : World} {B n c : Nat} {a : Option Addr} {ls : List (List UInt8)} (h : AccY w B a n c ls) (hb : Below w.heap.size w w') : AccY w' B a n c ls := by
  obtain ⟨cs, h1, h2⟩ := h.row
  exact ⟨h.len, cs, h1.below hb, fun i hi => by
    obtain ⟨ai, ni, ci, g1, g2, g4⟩ := h2 i hi
    exact ⟨ai, ni, ci, g1, g2.below hb, g4⟩⟩
theorem AccY.bss {w : World} {B n c : Nat} {a : Option Addr} {ls : List (List UInt8)} (h : AccY w B a n c ls) : Bss w a n c ls := by
  obtain ⟨cs, h1, h2⟩ := h.row
  refine ⟨h.len, h1.len.2.1, h1.len.2.2, fun i hi => ?_⟩
  obtain ⟨ai, ni, ci, g1, g2, _⟩ := h2 i hi
  obtain ⟨b, off, e1, e2⟩ := Row.of_own h1 i _ g1
  exact ⟨b, off, ai, ni, ci, e1, e2, g2⟩
theorem AccY.new {w : World} {B n c : Nat} {a : Option Addr} {ls : List (List UInt8)} (h : AccY w B a n c ls) : ∀ z, a = some z → B ≤ z.block ∧ z.block < w.heap.size := by
  obtain ⟨cs, h1, _⟩ := h.row
  exact h1.new
theorem AccY.snoc {w w' : World} {B n c c' : Nat} {a a' : Option Addr} {ls : List (List UInt8)} {cs : List Value} {ae : Option Addr} {ne ce : Nat} {l : List UInt8}
    (hl : ls.length = n) (h1 : OwnV w B a n c cs) (h2 : ∀ i, i < n → ∃ ai ni ci, cs[i]? = some (.slice ai ni ci) ∧ Bs w ai ni ci (nth ls i) ∧ (0 < ni → ∀ x y, ai = some x → a = some y → x.block ≠ y.block))
    (he : Bs w ae ne ce l) (hne : 0 < ne → ∀ x y, ae = some x → a = some y → x.block ≠ y.block)
    (h : OwnV w' B a' (n + 1) c' (cs ++ [.slice ae ne ce])) (hev : Evol w a w' a') : AccY w' B a' (n + 1) c' (ls ++ [l]) := by
  have step : ∀ {ai : Option Addr} {ni ci : Nat} {m : List UInt8}, Bs w ai ni ci m → (0 < ni → ∀ x y, ai = some x → a = some y → x.block ≠ y.block) → Bs w' ai ni ci m ∧ (0 < ni → ∀ x y, ai = some x → a' = some y → x.block ≠ y.block) := by
    intro ai ni ci m g2 g3
    refine ⟨g2.evol hev g3, fun h0 x y hx hy e => ?_⟩
    have hold := g2.old h0 x hx
    rcases hev.2 y hy with k1 | k1
    · cases a with
      | none => cases k1
      | some z =>
        have k2 : z.block = y.block := by simpa using k1
        exact g3 h0 x z hx rfl (by rw [e, k2])
    · omega
  have hcl := h1.len.1
  refine ⟨by simp [hl], cs ++ [.slice ae ne ce], h, fun i hi => ?_⟩
  by_cases e : i = n
  · subst e
    obtain ⟨k1, k2⟩ := step he hne
    refine ⟨ae, ne, ce, by rw [← hcl]; simp, ?_, k2⟩
    rw [nth_eq _ (by simp; omega)]
    simpa [hl] using k1
  · obtain ⟨ai, ni, ci, g1, g2, g4⟩ := h2 i (by omega)
    obtain ⟨k1, k2⟩ := step g2 g4
    refine ⟨ai, ni, ci, by rw [List.getElem?_append_left (by omega)]; exact g1, ?_, k2⟩
    rw [nth_append_left _ _ (by omega)]
    exact k1
section
variable {w : World} {ops : Array Oper} {rest : List Oper} {o : Oper} {a : Act} {Q : Exit → Act → World → Prop}
theorem app_accY (hgd : Region.wanted o (yielded ops a.tmps) = true) (s x : Operand) (ho : o.op = .call { callee := .builtin .append, args := #[s, x], argTypes := #[28, 28] })
    (B : Nat) {aq : Option Addr} {n c : Nat} {ls : List (List UInt8)} (hs : a.eval s = .slice aq n c) (hacc : AccY w B aq n c ls)
    {k : Nat} {ae : Option Addr} {ne ce : Nat} {l : List UInt8} (hx : a.eval x = .slice (some ⟨k, 0, none⟩) 1 1) (hcell : w.cell? ⟨k, 0, none⟩ = some (.slice ae ne ce)) (he : Bs w ae ne ce l)
    (hne : 0 < ne → ∀ x y, ae = some x → aq = some y → x.block ≠ y.block) (hb : n ≤ 1000000000000) (hB : B ≤ w.heap.size)
    (h : ∀ a' c' w', AccY w' B a' (n + 1) c' (ls ++ [l]) → Below B w w' → wpList Try.prog ops Q rest (a.put o.dst (.slice a' (n + 1) c')) w') : wpList Try.prog ops Q (o :: rest) a w := by
  obtain ⟨cs, h1, h2⟩ := hacc.row
  refine app_row hgd s x ho B hs h1 hx hcell rfl hb hB fun a' c' w' g1 g2 g3 => ?_
  exact h a' c' w' (AccY.snoc hacc.len h1 h2 he hne g1 g3) g2
end

set_option maxHeartbeats 8000000 in
theorem refrepair_any (b K M : Nat) (aq : Option Addr) (ns cs : Nat) (ls : List (List UInt8)) (w : World) (hc : RCod w b K M) (hs : Bss w aq ns cs ls) (h1 : 1 ≤ K) (h2 : K + M ≤ 255) (h4 : ∀ i, i < ns → (nth ls i).length ≤ 100000000) :
    Calls Try.prog 24 #[.pointer (some ⟨b, 0, none⟩), .slice aq ns cs] w (MRes (Rs.repL K M ls) (Rs.errS K M ls) w) := by
  have HC : Hid (∀ W, Below w.heap.size w W → RCod W b K M) := Lib.hid fun W h => hc.below h
  have HS : Hid (∀ W, Below w.heap.size w W → Bss W aq ns cs ls) := Lib.hid fun W h => hs.below h
  have HLN := Lib.hid hs.1
  have H4 := Lib.hid h4
  clear hs hc h4
  go_enter Try.func24, Try.ntmps24
  go_wp2_with fail
  refine (refthere_any b K M aq ns cs ls w (HC.out _ (Below.refl _ _)) (HS.out _ (Below.refl _ _)) h1 h2).mono ?_
  rintro e w1 ⟨hres, hb1⟩
  have HB1 := Lib.hid hb1
  have k1 := (HC.out w1 hb1).k
  clear hb1
  cases hA : Rs.alk (K + M) ls with
  | none =>
    rw [hA] at hres
    have hres : e = .returned (.tuple #[.slice none 0 0, .int .i64 0, .int .i64 1]) := hres
    subst hres
    have e1 : Hid (Rs.errS K M ls = 1) := Lib.hid (by unfold Rs.errS; rw [hA])
    have e2 : Hid (Rs.repL K M ls = []) := Lib.hid (by unfold Rs.repL; rw [e1.out]; rfl)
    clear hA
    go_wp2
    go_ret2
    rw [e1.out, e2.out]
    exact nil_res rfl HB1.out
  | some m =>
    rw [hA] at hres
    obtain ⟨a, c, rfl, ho⟩ := hres
    obtain ⟨hlen, hsc⟩ := alk_some hA
    obtain rfl : ns = K + M := by have := HLN.out; omega
    have hm4 : m ≤ 100000000 := sc_le (fun i hi => H4.out i (by omega)) ls.length (Nat.le_refl _) m (by rw [List.take_length]; exact hsc)
    have HI := Lib.hid (thr_is (K := K) (M := M) (by omega) ho)
    have hn255 : (Rs.thr ls ls.length).length ≤ 255 := by have := thr_le ls ls.length; omega
    have HSC := Lib.hid hsc
    have HA := Lib.hid hA
    obtain ⟨nt, hnt⟩ : ∃ nt, (Rs.thr ls ls.length).length = nt := ⟨_, rfl⟩
    have HLO : Hid (Rs.lostB K ls = decide (nt < K)) := Lib.hid (by unfold Rs.lostB; rw [hnt])
    rw [hnt] at HI hn255 ⊢
    clear hA hlen hsc ho hnt
    by_cases hlo : nt < K
    · have e1 : Hid (Rs.errS K M ls = 16) := Lib.hid (by unfold Rs.errS; rw [HA.out]; simp only; rw [HLO.out, if_pos (decide_eq_true hlo)])
      have e2 : Hid (Rs.repL K M ls = []) := Lib.hid (by unfold Rs.repL; rw [e1.out]; rfl)
      go_wp2
      go_ret2
      rw [e1.out, e2.out]
      exact nil_res rfl HB1.out
    · have hlb : Rs.lostB K ls = false := by rw [HLO.out]; exact decide_eq_false hlo
      have e1 : Hid (Rs.errS K M ls = 0) := Lib.hid (by unfold Rs.errS; rw [HA.out]; simp only; rw [hlb]; rfl)
      have HWM := Lib.hid (whole_mend h1 h2 HLN.out HSC.out hlb)
      have hm0 : 1 ≤ m := by
        obtain ⟨r1, _, r3⟩ := rows_facts' HLN.out hlb
        have h5 := r3 _ (List.getElem_mem (show 0 < (Rs.rows K ls).length by omega))
        have := sc_len HSC.out (i := (Rs.rows K ls)[0]) (by rw [HLN.out]; exact h5.1)
        omega
      have HLB := Lib.hid hlb
      have HBO : Hid (∀ i, i < K + M → (nth (Rs.both K M ls) i).length = m) := Lib.hid fun i hi => both_even h1 HLN.out HSC.out hlb hi
      clear hlb
      go_wp2_with fail
      refine (refdata_any b K M aq cs m a nt c ls w1 (HC.out _ HB1.out) (HS.out _ HB1.out) HI.out HSC.out HLB.out h1 h2 hm4).mono ?_
      rintro e w2 ⟨⟨a2, c2, bl2, cp2, rfl, hm2⟩, hb2⟩
      obtain ⟨Y, hY⟩ : ∃ Y, Rs.tm (Gf.invL (Rs.part K M (Rs.rows K ls))) (Rs.got ls (Rs.rows K ls)) K = Y := ⟨_, rfl⟩
      rw [hY] at hm2 HWM
      have HR2 : Hid (Bss w2 a2 K c2 (mat K m Y)) := Lib.hid hm2.bss'
      have HM2 := Lib.hid hm2
      have HB12 := Lib.hid hb2
      have HB2 := Lib.hid (HB1.out.trans (hb2.mono HB1.out.size))
      clear hm2 hb2 k1 HI hlo hY
      go_wp2_with fail
      refine (refpar_any b K M _ _ m _ w2 (HC.out w2 HB2.out) HR2.out (fun i hi => by rw [mat_row hi]; simp) h1 h2 hm0 hm4).mono ?_
      rintro e w3 ⟨⟨a3, c3, bl3, cp3, rfl, hm3⟩, hb3⟩
      have HM2' := Lib.hid (HM2.out.below hb3)
      have HA2 := Lib.hid (fun x hx => (HM2.out.own.new x hx).2)
      have HBL := Lib.hid (fun i hi => (HM2.out.row i hi).2.2.lt)
      have HB13 : Hid (Below w1.heap.size w1 w3) := Lib.hid (HB12.out.trans (hb3.mono HB12.out.size))
      have HR3 := Lib.hid (Row.of_own hm3.own)
      have HRW := Lib.hid hm3.rw'
      clear hm3 hb3 HM2 HR2
      go_wp2_with (at_builtin; refine app_matr rfl _ _ rfl w1.heap.size rfl HM2'.out.own rfl HR3.out (by simp) (by intro u hu; obtain ⟨i, _, rfl⟩ := List.mem_map.1 hu; rfl) (by omega) HB13.out.size ?_; intro a4 c4 w4 ho4 hb4 hev4; have HO4 := Lib.hid ho4; have HB4 := Lib.hid hb4; have HEV := Lib.hid hev4; clear ho4 hb4 hev4)
      have HS4 : Hid (Bss w4 a4 (K + M) c4 (Rs.both K M ls)) := Lib.hid (by
        have hj := HM2'.out.join HRW.out HB12.out.size HA2.out HBL.out (Y := fun i j => if i < K then Y i j else Rs.tm (mat M K (Gf.cau K)) (mat K m Y) K (i - K) j) (fun i j hi hj => by rw [if_pos hi]) (fun i j hi hj => by rw [if_neg (by omega), Nat.add_sub_cancel_left]) HO4.out HEV.out
        have hb := hj.bss'
        have e : Rs.both K M ls = mat (K + M) m (fun i j => if i < K then Y i j else Rs.tm (mat M K (Gf.cau K)) (mat K m Y) K (i - K) j) := by
          unfold Rs.both
          rw [HWM.out, ← mat_append]
          congr 1
          · exact mat_congr fun i j hi hj => by rw [if_pos hi]
          · unfold Rs.parL
            rw [if_pos (even_ok (by omega))]
            unfold Rs.par
            rw [mat_head (by omega)]
            exact mat_congr fun i j hi hj => by rw [if_neg (by omega), Nat.add_sub_cancel_left]
        rw [e]
        exact hb)
      have HB14 := Lib.hid (HB1.out.trans ((HB13.out.trans HB4.out).mono HB1.out.size))
      clear HO4 HB4 HEV HRW HR3 HM2' HA2 HBL HB13 HB12 HB2 HWM
      go_loopw [10, 11] (fun o i wr => ∃ (k c : Nat) (a : Option Addr), k ≤ K + M ∧ i = .int .i64 k ∧ o = .slice a k c ∧ Below w4.heap.size w4 wr ∧ AccY wr w4.heap.size a k c ((List.range k).map (Rs.repAt K M ls))) (fun _ i _ => K + M - (intOf i).toNat)
      case atStart => exact ⟨0, 0, none, Nat.zero_le _, rfl, rfl, Below.refl _ _, AccY.nil _ _⟩
      case round =>
        obtain ⟨k, c, a, hk, rfl, rfl, hb, hacc⟩ := hrel
        by_cases hlt : k < K + M
        · obtain ⟨bB, oB, aB, nB, cB, eB, dB, rB⟩ := (HS4.out.below hb).get hlt
          have hrB4 := HS4.out.get hlt
          obtain ⟨bA, oA, aA, nA, cA, eA, dA, rA⟩ := (HS.out wr (HB14.out.trans (hb.mono HB14.out.size))).get hlt
          have hltI : (k : Int) < (K : Int) + (M : Int) := by omega
          have hnA : nA ≤ 100000000 := by rw [← rA.1]; exact H4.out k hlt
          have hat : Hid (Rs.repAt K M ls k = if 0 < nA then nth ls k else nth (Rs.both K M ls) k) := Lib.hid (by unfold Rs.repAt; rw [rA.1])
          have HB := Lib.hid hb
          have HACC := Lib.hid hacc
          have RA := Lib.hid rA
          have RB := Lib.hid rB
          have hsz := hb.size
          have hoB : Hid (0 < nB → ∀ x y, aB = some x → a = some y → x.block ≠ y.block) := Lib.hid fun h0 x y hx hy e => by
            obtain ⟨b4, o4, a4', n4, c4', e4, d4, r4⟩ := hrB4
            rw [eB] at e4
            cases e4
            have d5 := cell_later hb d4
            rw [dB] at d5
            cases Option.some.inj d5
            have := r4.old h0 x hx
            have := (hacc.new y hy).1
            omega
          subst eB eA
          clear hb hacc rA rB hrB4
          by_cases hp : 0 < nA
          · have hat2 := Lib.hid (hat.out.trans (if_pos hp))
            have t3 : decide ((0 : Int) < (nA : Int)) = true := decide_eq_true (by omega)
            have H0 := Lib.hid (Own.lit wr wr.heap.size [] (Nat.le_refl _) (by simp [maxLen]))
            have HRA := Lib.hid (RA.out.below (below_alloc wr (.cells #[] 5)))
            have dA2 := cell_later (below_alloc wr (.cells #[] 5)) dA
            have hnn : 0 + nA ≤ 140737488355328 := by omega
            go_wp2_with (first | (at_builtin; refine app_own rfl _ _ rfl wr.heap.size rfl H0.out rfl HRA.out hnn (le_alloc (Nat.le_refl _)) ?_; intro a6 c6 w6 h6 hb6 _; simp only [Nat.zero_add, List.nil_append] at h6; have H6 := Lib.hid h6; have HB6 := Lib.hid ((below_alloc wr (.cells #[] 5)).trans hb6); have HX6 := Lib.hid (box_new w6 (.slice a6 nA c6) 22); have HAC6 := Lib.hid (HACC.out.below (HB6.out.trans ((below_alloc w6 (.cells #[.slice a6 nA c6] 22)).mono HB6.out.size))); have hsz6 : w4.heap.size ≤ (w6.alloc (.cells #[.slice a6 nA c6] 22)).heap.size := Nat.le_trans hsz (le_alloc HB6.out.size); have HNE6 : Hid (0 < nA → ∀ x y, a6 = some x → a = some y → x.block ≠ y.block) := Lib.hid (fun _ x y hx hy e => by have q1 : wr.heap.size ≤ x.block := own_new h6 x hx; have q2 := (HACC.out.new y hy).2; omega); clear h6 hb6) | (at_builtin; refine app_accY rfl _ _ rfl w4.heap.size rfl HAC6.out rfl HX6.out (H6.out.bs.below (below_alloc w6 _)) HNE6.out (by omega) hsz6 ?_; intro a7 c7 w7 h7 hb7; have H7 := Lib.hid h7; have HB7 := Lib.hid (HB.out.trans ((HB6.out.mono hsz).trans (((below_alloc w6 _).mono (Nat.le_trans hsz HB6.out.size)).trans hb7))); clear h7 hb7))
            go_roundw
            case rel => exact ⟨k + 1, c7, a7, by omega, by go_num, rfl, HB7.out, by rw [List.range_succ, List.map_append, List.map_singleton, hat2.out]; exact H7.out⟩
            case measure => simp [intOf]; omega
          · have hat2 := Lib.hid (hat.out.trans (if_neg hp))
            have t3 : decide ((0 : Int) < (nA : Int)) = false := decide_eq_false (by omega)
            have HX := Lib.hid (box_new wr (.slice aB nB cB) 22)
            have HAC := Lib.hid (HACC.out.below (below_alloc wr (.cells #[.slice aB nB cB] 22)))
            have HRB := Lib.hid (RB.out.below (below_alloc wr (.cells #[.slice aB nB cB] 22)))
            go_wp2_with (at_builtin; refine app_accY rfl _ _ rfl w4.heap.size rfl HAC.out rfl HX.out HRB.out hoB.out (by omega) (le_alloc hsz) ?_; intro a7 c7 w7 h7 hb7; have H7 := Lib.hid h7; have HB7 := Lib.hid (HB.out.trans (((below_alloc wr _).mono hsz).trans hb7)); clear h7 hb7)
            go_roundw
            case rel => exact ⟨k + 1, c7, a7, by omega, by go_num, rfl, HB7.out, by rw [List.range_succ, List.map_append, List.map_singleton, hat2.out]; exact H7.out⟩
            case measure => simp [intOf]; omega
        · obtain rfl : k = K + M := by omega
          have HRES := Lib.hid hacc.bss
          have HBF := Lib.hid (HB14.out.trans (hb.mono HB14.out.size))
          clear hb hacc
          go_wp2
          go_ret2
          unfold Rs.repL
          rw [e1.out, if_pos rfl]
          exact ⟨⟨_, _, _, rfl, HRES.out⟩, HBF.out⟩
end Go.Proofs.Ytppgbapfmijboaa
