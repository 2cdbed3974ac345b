/- rs, the reference: Encode, Parity, there. -/
import Derived.Test.YtppgbapfmijboaaRsY
set_option maxRecDepth 100000
set_option linter.unusedVariables false
set_option linter.unusedSimpArgs false
namespace Go.Proofs.Ytppgbapfmijboaa
open Go.RowKit Go.Deep

theorem Mo.bss' {w : World} {B n c C : Nat} {a : Option Addr} {bl cp : Nat → Nat} {Z : Nat → Nat → UInt8} (h : Mo w B a n c C bl cp Z) : Bss w a n c (mat n C Z) := by
  rcases Nat.eq_zero_or_pos n with e | hn
  · subst e
    exact ⟨rfl, h.own.len.2.1, h.own.len.2.2, fun i hi => by omega⟩
  · exact h.bss hn
theorem Mo.rw' {w : World} {B n c C : Nat} {a : Option Addr} {bl cp : Nat → Nat} {Z : Nat → Nat → UInt8} (h : Mo w B a n c C bl cp Z) : Rw w B n C bl cp Z := ⟨fun i hi => ⟨(h.row i hi).1, (h.row i hi).2.2⟩, h.cap, h.apart⟩

set_option maxHeartbeats 2000000 in
theorem refencode_any (b K M : Nat) (ad : Option Addr) (nd cd : Nat) (d : List UInt8) (w : World) (hc : RCod w b K M) (hd : Bs w ad nd cd d) (h1 : 1 ≤ K) (h2 : K + M ≤ 255) (h3 : nd ≤ 50000000) :
    Calls Try.prog 20 #[.pointer (some ⟨b, 0, none⟩), .slice ad nd cd] w (MoP (K + M) (Rs.wd K nd) (Rs.enc K M d) w) := by
  have HC : Hid (∀ W, Below w.heap.size w W → RCod W b K M) := Lib.hid fun W h => hc.below h
  have HD : Hid (∀ W, Below w.heap.size w W → Bs W ad nd cd d) := Lib.hid fun W h => hd.below h
  have HN := Lib.hid hd.1
  have HW1 := Lib.hid (wd_pos K nd)
  have HW3 : Hid (Rs.wd K nd ≤ 100000000) := Lib.hid (by
    have := wd_few (n := nd) h1
    have h5 : 1 * Rs.wd K nd ≤ K * Rs.wd K nd := Nat.mul_le_mul_right _ h1
    omega)
  clear hc hd
  go_enter Try.func20, Try.ntmps20
  go_wp2_with fail
  refine (refsplit_any b K M ad nd cd d w (HC.out w (Below.refl _ _)) (HD.out w (Below.refl _ _)) h1 (by omega) (by omega)).mono ?_
  rintro e w1 ⟨⟨a, c, bl, cp, rfl, hm⟩, hb1⟩
  obtain ⟨g1, rfl, hmy⟩ := hm.my (by omega)
  have hS : Hid (Bss w1 (some ⟨g1, 0, none⟩) K c (Rs.split K d)) := Lib.hid (by
    unfold Rs.split; rw [HN.out]; exact hmy.bss hm.own.len.2.1 hm.own.len.2.2)
  have HM := Lib.hid hm
  have HB1 := Lib.hid hb1
  have hlen : Hid (∀ i, i < K → (nth (Rs.split K d) i).length = Rs.wd K nd) := Lib.hid fun i hi => by unfold Rs.split; rw [HN.out, mat_row hi]; simp
  clear hm hmy hb1
  go_wp2_with fail
  refine (refpar_any b K M _ _ _ _ w1 (HC.out w1 HB1.out) hS.out hlen.out h1 h2 HW1.out HW3.out).mono ?_
  rintro e w2 ⟨⟨a2, c2, bl2, cp2, rfl, hm2⟩, hb2⟩
  have HM2 := Lib.hid (HM.out.below hb2)
  have HA : Hid (g1 < w1.heap.size) := Lib.hid ((HM.out.own.new _ rfl).2)
  have HBL : Hid (∀ i, i < K → bl i < w1.heap.size) := Lib.hid fun i hi => (HM.out.row i hi).2.2.lt
  have HB3 := Lib.hid (HB1.out.trans (hb2.mono HB1.out.size))
  have HR2 := Lib.hid (Row.of_own hm2.own)
  have HRW := Lib.hid hm2.rw'
  clear hb2 hm2 HM hS hlen
  go_wp2_with (at_builtin; refine app_matr rfl _ _ rfl w.heap.size rfl HM2.out.own rfl HR2.out (by simp) (by intro u hu; obtain ⟨i, _, rfl⟩ := List.mem_map.1 hu; rfl) (by omega) HB3.out.size ?_; intro a' c' w' ho hb' hev)
  have hfin := HM2.out.join HRW.out HB1.out.size (fun x hx => by cases hx; exact HA.out) HBL.out (Y := Rs.enc K M d) (fun i j hi hj => by unfold Rs.enc; rw [if_pos hi, HN.out]) (fun i j hi hj => by unfold Rs.enc; rw [if_neg (by omega), Nat.add_sub_cancel_left]) ho hev
  have HF := Lib.hid hfin
  have HBF := Lib.hid (HB3.out.trans hb')
  clear hfin ho hev hb'
  go_wp2
  go_ret
  exact ⟨⟨_, _, _, _, rfl, HF.out⟩, HBF.out⟩

theorem parOk_iff {K : Nat} {ls : List (List UInt8)} (hl : ls.length = K) (hK : 1 ≤ K) : Rs.parOk K ls = true ↔ (nth ls 0).length ≠ 0 ∧ ∀ i, i < K → (nth ls i).length = (nth ls 0).length := by
  unfold Rs.parOk Rs.alk
  rw [if_pos hl, Bool.and_eq_true]
  constructor
  · rintro ⟨h1, h2⟩
    obtain ⟨s, hs⟩ := Option.isSome_iff_exists.1 h1
    have h0 : ∀ i, i < K → (nth ls i).length = s := fun i hi => by
      rcases sc_len hs (i := i) (by omega) with h | h
      · exact absurd h (full_at h2 (by omega))
      · exact h
    exact ⟨full_at h2 (by omega), fun i hi => by rw [h0 i hi, h0 0 (by omega)]⟩
  · rintro ⟨h1, h2⟩
    obtain ⟨y, hy⟩ := sc_even ls (nth ls 0).length (fun l hm => by
      obtain ⟨i, hi, rfl⟩ := List.getElem_of_mem hm
      rw [← nth_eq]
      exact h2 i (by omega)) (by omega) 0 (.inl rfl)
    refine ⟨by unfold Rs.sc; rw [hy]; rfl, full_true fun k hk => by rw [h2 k (by omega)]; exact h1⟩
theorem parOk_len {K : Nat} {ls : List (List UInt8)} (hl : ¬ ls.length = K) : Rs.parOk K ls = false := by
  unfold Rs.parOk Rs.alk
  rw [if_neg hl]; rfl

set_option maxHeartbeats 2000000 in
theorem refparity_any (b K M : Nat) (aq : Option Addr) (ns cs : Nat) (ls : List (List UInt8)) (w : World) (hc : RCod w b K M) (hs : Bss w aq ns cs ls) (h1 : 1 ≤ K) (h2 : K + M ≤ 255) (h4 : ∀ i, i < ns → (nth ls i).length ≤ 100000000) :
    Calls Try.prog 22 #[.pointer (some ⟨b, 0, none⟩), .slice aq ns cs] w (MRes (Rs.parL K M ls) (Rs.parE K ls) w) := by
  have HC : Hid (∀ W, Below w.heap.size w W → RCod W b K M) := Lib.hid fun W h => hc.below h
  have HS : Hid (∀ W, Below w.heap.size w W → Bss W aq ns cs ls) := Lib.hid fun W h => hs.below h
  have hle := hs.le.1
  have HLN := Lib.hid hs.1
  have k1 := hc.k
  by_cases hn : ns = K
  case neg =>
    have t1 : ((ns : Int) != (K : Int)) = true := by simp; omega
    have e1 : Hid (Rs.parOk K ls = false) := Lib.hid (parOk_len (by rw [HLN.out]; exact hn))
    clear hc hs hn h4
    go_enter Try.func22, Try.ntmps22
    go_wp2
    go_ret2
    unfold Rs.parL Rs.parE
    rw [e1.out]
    exact nil_res rfl (Below.refl _ _)
  subst hn
  have t1 : ((ns : Int) != (ns : Int)) = false := by simp
  obtain ⟨ai, ci, hv⟩ := hs.vals
  obtain ⟨b0, o0, rfl, d0⟩ := (hv 0 h1).1
  rw [Nat.add_zero] at d0
  have HV : Hid (∀ i, i < ns → w.cell? ⟨b0, o0 + i, none⟩ = some (.slice (ai i) (nth ls i).length (ci i))) := Lib.hid fun i hi => by
    obtain ⟨b', o', e', d'⟩ := (hv i hi).1
    cases e'
    exact d'
  have HP := Lib.hid (parOk_iff HLN.out h1)
  have H4 := Lib.hid h4
  clear hc hs hv h4
  obtain ⟨L, hL⟩ : ∃ L, (nth ls 0).length = L := ⟨_, rfl⟩
  have HL := Lib.hid hL
  rw [hL] at d0 HP
  have hL4 : L ≤ 100000000 := by rw [← hL]; exact H4.out 0 h1
  clear hL
  by_cases hL0 : L = 0
  · subst hL0
    have e1 : Hid (Rs.parOk ns ls = false) := Lib.hid (by
      cases h : Rs.parOk ns ls with
      | false => rfl
      | true => exact absurd rfl (HP.out.1 h).1)
    go_enter Try.func22, Try.ntmps22
    go_wp2
    go_ret2
    unfold Rs.parL Rs.parE
    rw [e1.out]
    exact nil_res rfl (Below.refl _ _)
  have t2 : ((L : Int) == 0) = false := by simp; omega
  go_enter Try.func22, Try.ntmps22
  go_wp2_with fail
  go_loopw [6] (fun i wr => ∃ k : Nat, 1 ≤ k ∧ k ≤ ns ∧ i = .int .i64 k ∧ Below w.heap.size w wr ∧ Hid (∀ q, q < k → (nth ls q).length = L)) (fun i _ => ns - (intOf i).toNat)
  case atStart => exact ⟨1, Nat.le_refl _, h1, rfl, Below.refl _ _, Lib.hid fun q hq => by rw [show q = 0 by omega]; exact HL.out⟩
  case round =>
    obtain ⟨k, hk1, hk, rfl, hb, HQ⟩ := hrel
    have k3 := cell_later hb k1
    by_cases hlt : k < ns
    · have d1 := cell_later hb (HV.out k hlt)
      have d2 := cell_later hb d0
      have HB := Lib.hid hb
      obtain ⟨Lk, hLk⟩ : ∃ Lk, (nth ls k).length = Lk := ⟨_, rfl⟩
      have HLK := Lib.hid hLk
      rw [hLk] at d1
      clear hb hLk k1 d0
      have z1 : (0 : Int) < (ns : Int) := by omega
      have z2 : 0 < ns := by omega
      have z3 : ¬ ns ≤ 0 := by omega
      by_cases hq : Lk = L
      · subst hq
        have t3 : ((Lk : Int) != (Lk : Int)) = false := by simp
        have HQ2 : Hid (∀ q, q < k + 1 → (nth ls q).length = Lk) := Lib.hid fun q hq => by
          by_cases e : q = k
          · rw [e]; exact HLK.out
          · exact HQ.out q (by omega)
        go_wp2_with fail
        go_still (by kernel_rfl)
        go_wp2
        go_roundw
        case rel => exact ⟨k + 1, by omega, by omega, by go_num, HB.out.drew, HQ2⟩
        case measure => simp [intOf]; omega
      · have t3 : ((Lk : Int) != (L : Int)) = true := by simp; omega
        have e1 : Hid (Rs.parOk ns ls = false) := Lib.hid (by
          cases h : Rs.parOk ns ls with
          | false => rfl
          | true => exact absurd (HLK.out.symm.trans ((HP.out.1 h).2 k hlt)) hq)
        clear hq
        go_wp2_with fail
        go_still (by kernel_rfl)
        go_wp2
        go_ret2
        unfold Rs.parL Rs.parE
        rw [e1.out]
        exact nil_res rfl HB.out.drew
    · obtain rfl : k = ns := by omega
      have e1 : Hid (Rs.parOk k ls = true) := Lib.hid (HP.out.2 ⟨hL0, HQ.out⟩)
      have HB := Lib.hid hb
      have hres : Hid (Rs.parL k M ls = mat M L (Rs.tm (mat M k (Gf.cau k)) ls k) ∧ Rs.parE k ls = 0) := Lib.hid (by
        unfold Rs.parL Rs.parE Rs.par
        rw [e1.out, if_pos rfl, if_pos rfl, HL.out]
        exact ⟨rfl, rfl⟩)
      clear hb
      go_wp2_with fail
      refine (refpar_any b k M _ _ L _ wr (HC.out _ HB.out) (HS.out _ HB.out) HQ.out h1 h2 (by omega) hL4).mono ?_
      rintro e w2 ⟨⟨a2, c2, bl2, cp2, rfl, hm2⟩, hb2⟩
      have HM2 := Lib.hid hm2.bss'
      have HB2 := Lib.hid (HB.out.trans (hb2.mono HB.out.size))
      clear hm2 hb2
      go_wp2
      go_ret2
      rw [hres.out.1, hres.out.2]
      exact ⟨⟨_, _, _, rfl, HM2.out⟩, HB2.out⟩

/-- What there tells. -/
def ThrP (K M : Nat) (ls : List (List UInt8)) (w : World) (e : Ending) (w' : World) : Prop :=
  (match Rs.alk (K + M) ls with
    | none => e = .returned (.tuple #[.slice none 0 0, .int .i64 0, .int .i64 1])
    | some m => ∃ a c, e = .returned (.tuple #[.slice a (Rs.thr ls ls.length).length c, .int .i64 m, .int .i64 0]) ∧ OwnI w' w.heap.size a (Rs.thr ls ls.length).length c (Rs.thr ls ls.length)) ∧ Below w.heap.size w w'
theorem thr_le (ls : List (List UInt8)) (i : Nat) : (Rs.thr ls i).length ≤ i := by
  unfold Rs.thr
  have := List.length_filter_le (fun j => decide (0 < (nth ls j).length)) (List.range i)
  rwa [List.length_range] at this

set_option maxHeartbeats 2000000 in
theorem refthere_any (b K M : Nat) (aq : Option Addr) (ns cs : Nat) (ls : List (List UInt8)) (w : World) (hc : RCod w b K M) (hs : Bss w aq ns cs ls) (h1 : 1 ≤ K) (h2 : K + M ≤ 255) :
    Calls Try.prog 44 #[.pointer (some ⟨b, 0, none⟩), .slice aq ns cs] w (ThrP K M ls w) := by
  have hle := hs.le.1
  have HLN := Lib.hid hs.1
  have k1 := hc.k
  have k2 := hc.m
  have hw9 : IntKind.i64.wrap ((K : Int) + (M : Int)) = (K : Int) + (M : Int) := by rw [IntKind.wrap_i64]; omega
  by_cases hn : ns = K + M
  case neg =>
    have t1 : ((ns : Int) != ((K : Int) + (M : Int))) = true := by simp; omega
    have e1 : Hid (Rs.alk (K + M) ls = none) := Lib.hid (by unfold Rs.alk; rw [if_neg (by rw [HLN.out]; exact hn)])
    clear hc hs hn
    go_enter Try.func44, Try.ntmps44
    go_wp2_with fail
    go_still (by kernel_rfl)
    go_wp2
    refine bodyPost_ret (v := .tuple #[.slice none 0 0, .int .i64 0, .int .i64 1]) (by simp [results, Try.results44, go_sem]) rfl ?_
    unfold ThrP
    rw [e1.out]
    exact ⟨rfl, (Below.refl _ _).drew⟩
  have t1 : ((ns : Int) != ((K : Int) + (M : Int))) = false := by rw [hn]; simp
  have hA : Hid (Rs.alk (K + M) ls = Rs.sc ls) := Lib.hid (by unfold Rs.alk; rw [if_pos (by rw [HLN.out]; exact hn)])
  obtain ⟨ai, ci, hv⟩ := hs.vals
  have HV : Hid (∀ i, i < ns → ∃ b off, aq = some ⟨b, off, none⟩ ∧ w.cell? ⟨b, off + i, none⟩ = some (.slice (ai i) (nth ls i).length (ci i)) ∧ (nth ls i).length ≤ 9223372036854775807) := Lib.hid fun i hi => by
    obtain ⟨⟨b', o', e', d'⟩, hb'⟩ := hv i hi
    exact ⟨b', o', e', d', hb'.le.1⟩
  have hn255 : ns ≤ 255 := by omega
  clear hc hs hv hn
  go_enter Try.func44, Try.ntmps44
  go_wp2_with fail
  go_still (by kernel_rfl)
  go_wp2_with fail
  clear k1 k2 t1 hw9
  go_loopw [7, 8, 9] (fun x l i wr => ∃ (k m n c : Nat) (a : Option Addr), k ≤ ns ∧ i = .int .i64 k ∧ x = .int .i64 m ∧ m ≤ 9223372036854775807 ∧ l = .slice a n c ∧ n ≤ k ∧ Below w.heap.size w wr ∧ OwnI wr w.heap.size a n c (Rs.thr ls k) ∧ Hid (Rs.sc (ls.take k) = some m)) (fun _ _ i _ => ns - (intOf i).toNat)
  case atStart => exact ⟨0, 0, 0, 0, none, Nat.zero_le _, rfl, rfl, by omega, rfl, Nat.le_refl _, (Below.refl _ _).drew, World.ownsRow_nil _ _ _ _, Lib.hid rfl⟩
  case round =>
    obtain ⟨k, m, n, c, a, hk, rfl, rfl, hm, rfl, hnk, hb, ho, HX⟩ := hrel
    by_cases hlt : k < ns
    · obtain ⟨b0, o0, rfl, d0, hLb⟩ := HV.out k hlt
      have d1 := cell_later hb d0
      have hstep : Hid (Rs.sc (ls.take (k + 1)) = if 0 < (nth ls k).length ∧ 0 < m ∧ (nth ls k).length ≠ m then none else some (max m (nth ls k).length)) := Lib.hid (by
        rw [sc_snoc ls (by rw [HLN.out]; exact hlt), HX.out]; rfl)
      have hyes := Lib.hid (fun h => thr_yes (ls := ls) (i := k) h)
      have hno := Lib.hid (fun h => thr_no (ls := ls) (i := k) h)
      have HO := Lib.hid ho
      have HB := Lib.hid hb
      have hsz := hb.size
      clear hb ho d0
      generalize (nth ls k).length = L at *
      by_cases hL0 : L = 0
      · subst hL0
        have t3 : (((0 : Nat) : Int) == 0) = true := rfl
        have hs2 : Hid (Rs.sc (ls.take (k + 1)) = some m) := Lib.hid (by rw [hstep.out, if_neg (by omega)]; simp)
        go_wp2
        go_roundw
        case rel => exact ⟨k + 1, m, n, c, a, by omega, by go_num, rfl, hm, rfl, by omega, HB.out, by rw [hno.out rfl]; exact HO.out, hs2⟩
        case measure => simp [intOf]; omega
      have t3 : ((L : Int) == 0) = false := by simp; omega
      by_cases hbad : 0 < m ∧ L ≠ m
      · have t4 : ((m : Int) != 0) = true := by simp; omega
        have t5 : ((L : Int) != (m : Int)) = true := by simp; omega
        have HN : Hid (Rs.sc ls = none) := Lib.hid (sc_bad (i := k + 1) (by rw [hstep.out, if_pos ⟨by omega, hbad.1, hbad.2⟩]))
        clear hbad
        go_wp2
        refine bodyPost_ret (v := .tuple #[.slice none 0 0, .int .i64 0, .int .i64 1]) (by simp [results, Try.results44, go_sem]) rfl ?_
        unfold ThrP
        rw [hA.out, HN.out]
        exact ⟨rfl, HB.out⟩
      · have hs2 : Hid (Rs.sc (ls.take (k + 1)) = some L) := Lib.hid (by rw [hstep.out, if_neg (by omega)]; congr 1; omega)
        have hcase : (((m : Int) != 0) = false) ∨ (((m : Int) != 0) = true ∧ ((L : Int) != (m : Int)) = false) := by
          by_cases e : m = 0
          · left; rw [e]; rfl
          · right; exact ⟨by simp; omega, by rw [show L = m by omega]; simp⟩
        have HX1 := Lib.hid (box_new wr (.int .i64 (k : Int)) 3)
        have H1 : Hid (OwnI (wr.alloc (.cells #[.int .i64 (k : Int)] 3)) w.heap.size a n c (Rs.thr ls k)) := Lib.hid (own_below HO.out (below_alloc wr _))
        clear hbad
        rcases hcase with hq | ⟨hq, hq2⟩
        all_goals
          go_wp2_with (at_builtin; refine app_int2 rfl _ _ rfl w.heap.size rfl H1.out rfl HX1.out (by omega) (le_alloc hsz) ?_; intro a6 c6 w6 h6 hb6 hev6; have H6 := Lib.hid h6; have HB6 := Lib.hid (HB.out.trans (((below_alloc wr _).mono hsz).trans hb6)); clear h6 hb6 hev6)
          go_roundw
          case rel => exact ⟨k + 1, L, n + 1, c6, a6, by omega, by go_num, rfl, hLb, rfl, by omega, HB6.out, by rw [hyes.out (by omega)]; exact H6.out, hs2⟩
          case measure => simp [intOf]; omega
    · obtain rfl : k = ns := by omega
      have HX2 : Hid (Rs.sc ls = some m) := Lib.hid (by have := HX.out; rwa [List.take_of_length_le (by rw [HLN.out]; exact Nat.le_refl _)] at this)
      have HB := Lib.hid hb
      have hl : (Rs.thr ls k).length = n := by have := ho.1; simpa [zv, ints] using this
      have HO : Hid (OwnI wr w.heap.size a (Rs.thr ls ls.length).length c (Rs.thr ls ls.length) ∧ (Rs.thr ls ls.length).length = n) := Lib.hid (by rw [HLN.out, hl]; exact ⟨ho, rfl⟩)
      clear hb ho hl
      go_wp2
      refine bodyPost_ret (v := .tuple #[.slice a n c, .int .i64 m, .int .i64 0]) (by simp [results, Try.results44, go_sem]) rfl ?_
      unfold ThrP
      rw [hA.out, HX2.out]
      exact ⟨⟨a, c, by rw [HO.out.2], HO.out.1⟩, HB.out⟩
end Go.Proofs.Ytppgbapfmijboaa
