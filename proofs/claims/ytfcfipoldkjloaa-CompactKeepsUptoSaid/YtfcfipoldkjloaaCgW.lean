/- merge.Merge, the reference's; few. -/
import Derived.Test.YtfcfipoldkjloaaCgV
import Derived.Test.YtfcfipoldkjloaaCgQ
set_option maxRecDepth 100000
set_option linter.unusedSimpArgs false
namespace Go.Proofs.Ytfcfipoldkjloaa
open Go.RowKit
set_option linter.unusedVariables false

def Ent.sumL (ls : List (List Ent)) : Nat := (ls.map List.length).sum
theorem foldl_len : ∀ (ls : List (List Ent)) (acc : List Ent), (ls.foldl Ent.two acc).length ≤ acc.length + Ent.sumL ls
  | [], acc => by simp [Ent.sumL]
  | l :: ls, acc => by
    have h1 := foldl_len ls (Ent.two acc l)
    have h2 := Ent.two_len _ acc l (Nat.le_refl _)
    unfold Ent.sumL at *
    simp only [List.foldl_cons, List.map_cons, List.sum_cons]
    omega
theorem merge_len (ls : List (List Ent)) : (Ent.mergeL ls).length ≤ Ent.sumL ls := by
  have := foldl_len ls []
  simpa [Ent.mergeL] using this
def Ent.allR (ls : List (List Ent)) : Bool := ls.all Ent.rightB
def Ent.mergeE (ls : List (List Ent)) : List Ent := if Ent.allR ls = true then Ent.mergeL ls else []
def Ent.mergeX (ls : List (List Ent)) : Int := if Ent.allR ls = true then 0 else 15
theorem allR_at {ls : List (List Ent)} (h : ∀ j, j < ls.length → Ent.rightB (nth ls j) = true) : Ent.allR ls = true := by
  unfold Ent.allR
  rw [List.all_eq_true]
  intro l hl
  obtain ⟨j, hj, rfl⟩ := List.getElem_of_mem hl
  rw [← nth_eq _ hj]; exact h j hj
theorem allR_no {ls : List (List Ent)} {j : Nat} (hj : j < ls.length) (h : Ent.rightB (nth ls j) = false) : Ent.mergeE ls = [] ∧ Ent.mergeX ls = 15 := by
  have : Ent.allR ls = false := by
    cases e : Ent.allR ls with
    | false => rfl
    | true =>
      have := List.all_eq_true.1 e _ (nth_mem hj)
      rw [h] at this; cases this
  unfold Ent.mergeE Ent.mergeX
  rw [this]
  exact ⟨rfl, rfl⟩
theorem allR_yes {ls : List (List Ent)} (h : Ent.allR ls = true) : Ent.mergeE ls = Ent.mergeL ls ∧ Ent.mergeX ls = 0 := by
  unfold Ent.mergeE Ent.mergeX
  rw [h]
  exact ⟨rfl, rfl⟩
theorem allR_mem {ls : List (List Ent)} (h : Ent.allR ls = true) : ∀ l ∈ ls, Ent.rightB l = true := List.all_eq_true.1 h
set_option maxHeartbeats 4000000 in
theorem merge_any (a : Option Addr) (n c : Nat) (ls : List (List Ent)) (w : World) (h : Ess w a n c ls) (hn : n ≤ 1000000) (hv : ∀ l ∈ ls, ∀ e ∈ l, e.val.length ≤ 1000000000) (hs : Ent.sumL ls ≤ 900000000) :
    Calls Try.prog 22 #[.slice a n c] w (RetEs (Ent.mergeE ls) (Ent.mergeX ls) w) := by
  have hle := h.le.1
  have HN := Lib.hid h.1
  have HE := Lib.hid h
  have HV := Lib.hid hv
  have HS := Lib.hid hs
  clear h hv hs
  go_enter Try.func22, Try.ntmps22
  go_wp2_with fail
  go_loopw [8] (fun i wr => ∃ j : Nat, j ≤ n ∧ i = .int .i64 j ∧ Below w.heap.size w wr ∧ Hid (∀ k, k < j → Ent.rightB (nth ls k) = true)) (fun i _ => n - (intOf i).toNat)
  case atStart => exact ⟨0, Nat.zero_le _, rfl, Below.refl _ _, Lib.hid (fun k hk => by omega)⟩
  case round =>
    obtain ⟨j, hj, rfl, hb, hall⟩ := hrel
    by_cases hlt : j < n
    · obtain ⟨b, off, ai, ni, ci, rfl, hc, hes⟩ := (HE.out.below hb).get hlt
      have HES := Lib.hid hes
      have HB := Lib.hid hb
      clear hes hb
      go_wp2_with fail
      refine (mright_any _ _ _ (nth ls j) _ HES.out).mono ?_
      rintro e w1 ⟨rfl, hb1⟩
      have HB1 := Lib.hid (HB.out.trans (hb1.mono HB.out.size))
      clear hb1
      cases hR : Ent.rightB (nth ls j) with
      | false =>
        have hno := allR_no (by rw [HN.out]; exact hlt) hR
        have HP : Hid (RetEs (Ent.mergeE ls) (Ent.mergeX ls) w (.returned (.tuple #[.slice none 0 0, .int .i64 15])) w1) := Lib.hid (by rw [hno.1, hno.2]; exact ret_es_nil HB1.out)
        clear hno hR
        go_wp2
        go_ret2
        exact HP.out
      | true =>
        have HA : Hid (∀ k, k < j + 1 → Ent.rightB (nth ls k) = true) := Lib.hid (fun k hk => by
          by_cases e : k = j
          · rw [e]; exact hR
          · exact hall.out k (by omega))
        clear hR
        go_wp2
        go_roundw
        case rel => exact ⟨j + 1, by omega, by go_num, HB1.out, HA⟩
        case measure => simp [intOf]; omega
    · obtain rfl : n = j := by omega
      have hR := allR_at (ls := ls) (fun k hk => hall.out k (by rw [HN.out] at hk; exact hk))
      have HY := Lib.hid (allR_yes hR)
      have HM := Lib.hid (fun l hl => right_pairwise (allR_mem hR l hl))
      have HB := Lib.hid hb
      clear hb hR
      go_wp2_with fail
      refine (clonels_any a n c ls wr (HE.out.below HB.out) hn).mono ?_
      rintro e w1 ⟨a1, c1, rfl, hlr, hb1⟩
      have HLR := Lib.hid hlr
      have HB1 := Lib.hid hb1
      clear hlr hb1
      go_wp2_with fail
      refine (together_any wr a1 n c1 ls w1 HB1.out HLR.out HM.out hn HV.out (Nat.le_trans (merge_len ls) HS.out)).mono ?_
      rintro e w2 ⟨a2, n2, c2, rfl, ha2, hb2⟩
      have HP : Hid (RetEs (Ent.mergeE ls) (Ent.mergeX ls) w (.returned (.tuple #[.slice a2 n2 c2, .int .i64 0])) w2) := Lib.hid (by
        rw [HY.out.1, HY.out.2]
        exact ⟨_, _, _, rfl, ha2.mono HB.out.size, HB.out.trans ((HB1.out.trans hb2).mono HB.out.size)⟩)
      clear ha2 hb2
      go_wp2
      go_ret2
      exact HP.out
/-- How the first entries of two rests compare. -/
theorem two_left {x : Ent} {la lb : List Ent} (lb0 : lb = []) : Ent.two (x :: la) lb = x :: Ent.two la lb := by subst lb0; rw [Ent.two_nil_right, Ent.two_nil_right]
theorem two_right {y : Ent} {lb : List Ent} : Ent.two [] (y :: lb) = y :: Ent.two [] lb := by rw [Ent.two_nil, Ent.two_nil]
set_option maxHeartbeats 16000000 in
theorem reftwo_any (a b : Option Addr) (n c n' c' : Nat) (la lb : List Ent) (w : World) (ha : Es w a n c la) (hb : Es w b n' c' lb) (hn : n + n' ≤ 900000000) :
    Calls Try.prog 26 #[.slice a n c, .slice b n' c'] w fun e w' => ∃ a' m co, e = .returned (.slice a' m co) ∧ AccE w' w.heap.size a' m co (Ent.two la lb) ∧ Below w.heap.size w w' := by
  have hle := ha.le.1
  have hle' := hb.le.1
  have HN := Lib.hid ha.1
  have HN' := Lib.hid hb.1
  have HA := Lib.hid ha
  have HB := Lib.hid hb
  clear ha hb
  go_enter Try.func26, Try.ntmps26
  go_wp2_with fail
  go_loopw [5, 6, 7] (fun o iv kv wr => ∃ (i k m co : Nat) (ao : Option Addr) (lo : List Ent), i ≤ n ∧ k ≤ n' ∧ m ≤ i + k ∧ o = .slice ao m co ∧ iv = .int .i64 i ∧ kv = .int .i64 k ∧ AccE wr w.heap.size ao m co lo ∧ Below w.heap.size w wr ∧ Hid (lo ++ Ent.two (la.drop i) (lb.drop k) = Ent.two la lb)) (fun _ iv kv _ => n + n' - ((intOf iv).toNat + (intOf kv).toNat))
  case atStart => exact ⟨0, 0, 0, 0, none, [], Nat.zero_le _, Nat.zero_le _, Nat.le_refl _, rfl, rfl, rfl, AccE.nil _ _, Below.refl _ _, Lib.hid rfl⟩
  case round =>
    obtain ⟨i, k, m, co, ao, lo, hi, hk, hm, rfl, rfl, rfl, hac, hbl, hto⟩ := hrel
    have HAC := Lib.hid hac
    have HBL := Lib.hid hbl
    have HNEW := Lib.hid hac.new
    by_cases hin : i < n
    · obtain ⟨b1, o1, a1, d1, rfl, he1, hv1⟩ := HA.out.vals hin
      have HO1 : Hid (0 < (nth la i).val.length → ∀ y, a1 = some y → y.block < w.heap.size) := Lib.hid (fun h => hv1.old h)
      have HV1 := Lib.hid (hv1.below hbl)
      have he1' := he1.below hbl
      have hd1 := drop_nth (es := la) (k := i) (by rw [HN.out]; exact hin)
      by_cases hkn : k < n'
      · obtain ⟨b2, o2, a2, d2, rfl, he2, hv2⟩ := HB.out.vals hkn
        have HO2 : Hid (0 < (nth lb k).val.length → ∀ y, a2 = some y → y.block < w.heap.size) := Lib.hid (fun h => hv2.old h)
        have HV2 := Lib.hid (hv2.below hbl)
        have he2' := he2.below hbl
        have hd2 := drop_nth (es := lb) (k := k) (by rw [HN'.out]; exact hkn)
        have hstep := hto.out
        rw [hd1, hd2, Ent.two_cons, ← hd1, ← hd2] at hstep
        have p1 := he1'.key
        have p2 := he1'.seq
        have p3 := he1'.gone
        have p4 := he1'.val
        have q1 := he2'.key
        have q2 := he2'.seq
        have q3 := he2'.gone
        have q4 := he2'.val
        have HC0 := Lib.hid (fun V : World => refcmp_any (nth la i) (nth lb k) a1 a2 d1 d2 V)
        have u1 : ((i : Int) == (n : Int)) = false := by simp; omega
        have u2 : ((k : Int) == (n' : Int)) = false := by simp; omega
        have HE1 := Lib.hid he1'
        have HE2 := Lib.hid he2'
        clear hac hbl he1 hv1 he1' hd1 he2 hv2 he2' hd2
        rcases Ent.cmp_cases (nth la i) (nth lb k) with hc | hc | hc
        · rw [if_pos hc] at hstep
          have HST : Hid ((lo ++ [nth la i]) ++ Ent.two (la.drop (i + 1)) (lb.drop (k)) = Ent.two la lb) := Lib.hid (by rw [List.append_assoc]; exact hstep)
          rw [hc] at HC0
          clear hc
          go_wp2_with fail
          refine wp_region_class (by kernel_rfl) (by kernel_rfl) (Below.refl _ _) ?_
          have m1 := BW.cell p1
          have m2 := BW.cell p2
          have m3 := BW.cell p3
          have m4 := BW.cell p4
          have n91 := BW.cell q1
          have n92 := BW.cell q2
          have n93 := BW.cell q3
          have n94 := BW.cell q4
          repeat (first | go_big_quiet_step ((go_at_call 21; exact calls_class (HC0.out _))))
          refine wpQuiet_nil ?_
          intro w7 hb7; replace hb7 := BW.of hb7
          clear p1 p2 p3 p4 q1 q2 q3 q4 m1 m2 m3 m4 n91 n92 n93 n94 u1 u2
          have he9 := HE1.out.below hb7
          have r1 := he9.key
          have r2 := he9.seq
          have r3 := he9.gone
          have r4 := he9.val
          have HA9 := Lib.hid (HAC.out.below hb7)
          have HV9 := Lib.hid (HV1.out.below hb7)
          have HB9 := Lib.hid (HBL.out.trans ((hb7).mono HBL.out.size))
          clear he9 hstep hb7
          go_wp2_with (at_builtin; refine app_ent rfl _ _ rfl w.heap.size rfl (HA9.out.below (below_alloc1 _ _)) rfl (load_box _ (nth la i) _ _) (HV9.out.below (below_alloc1 _ _)) (fun h5 x y hx hy e => by have h1 := HO1.out h5 x hx; have h2 := (HNEW.out y hy).1; omega) (by omega) (le_alloc HB9.out.size) ?_; intro a4 c4 w4 h4 hb4 _; have H4 := Lib.hid h4; have HB4 := Lib.hid ((HB9.out.alloc HB9.out.size _).trans hb4); clear h4 hb4)
          go_roundw
          case rel => exact ⟨i + 1, k, m + 1, c4, a4, lo ++ [nth la i], by omega, by omega, by omega, rfl, by go_num, rfl, H4.out, HB4.out, HST⟩
          case measure => simp [intOf]; omega
        · rw [if_neg (by omega), if_pos hc] at hstep
          have HST : Hid ((lo ++ [nth la i]) ++ Ent.two (la.drop (i + 1)) (lb.drop (k + 1)) = Ent.two la lb) := Lib.hid (by rw [List.append_assoc]; exact hstep)
          rw [hc] at HC0
          clear hc
          go_wp2_with fail
          refine wp_region_class (by kernel_rfl) (by kernel_rfl) (Below.refl _ _) ?_
          have m1 := BW.cell p1
          have m2 := BW.cell p2
          have m3 := BW.cell p3
          have m4 := BW.cell p4
          have n91 := BW.cell q1
          have n92 := BW.cell q2
          have n93 := BW.cell q3
          have n94 := BW.cell q4
          repeat (first | go_big_quiet_step ((go_at_call 21; exact calls_class (HC0.out _))))
          refine wpQuiet_nil ?_
          intro w7 hb7; replace hb7 := BW.of hb7
          clear p1 p2 p3 p4 q1 q2 q3 q4 m1 m2 m3 m4 n91 n92 n93 n94 u1 u2
          have he9 := HE1.out.below hb7
          have r1 := he9.key
          have r2 := he9.seq
          have r3 := he9.gone
          have r4 := he9.val
          have HA9 := Lib.hid (HAC.out.below hb7)
          have HV9 := Lib.hid (HV1.out.below hb7)
          have HB9 := Lib.hid (HBL.out.trans ((hb7).mono HBL.out.size))
          clear he9 hstep hb7
          go_wp2_with (at_builtin; refine app_ent rfl _ _ rfl w.heap.size rfl (HA9.out.below (below_alloc1 _ _)) rfl (load_box _ (nth la i) _ _) (HV9.out.below (below_alloc1 _ _)) (fun h5 x y hx hy e => by have h1 := HO1.out h5 x hx; have h2 := (HNEW.out y hy).1; omega) (by omega) (le_alloc HB9.out.size) ?_; intro a4 c4 w4 h4 hb4 _; have H4 := Lib.hid h4; have HB4 := Lib.hid ((HB9.out.alloc HB9.out.size _).trans hb4); clear h4 hb4)
          go_roundw
          case rel => exact ⟨i + 1, k + 1, m + 1, c4, a4, lo ++ [nth la i], by omega, by omega, by omega, rfl, by go_num, by go_num, H4.out, HB4.out, HST⟩
          case measure => simp [intOf]; omega
        · rw [if_neg (by omega), if_neg (by omega)] at hstep
          have HST : Hid ((lo ++ [nth lb k]) ++ Ent.two (la.drop (i)) (lb.drop (k + 1)) = Ent.two la lb) := Lib.hid (by rw [List.append_assoc]; exact hstep)
          rw [hc] at HC0
          clear hc
          go_wp2_with fail
          refine wp_region_class (by kernel_rfl) (by kernel_rfl) (Below.refl _ _) ?_
          have m1 := BW.cell p1
          have m2 := BW.cell p2
          have m3 := BW.cell p3
          have m4 := BW.cell p4
          have n91 := BW.cell q1
          have n92 := BW.cell q2
          have n93 := BW.cell q3
          have n94 := BW.cell q4
          repeat (first | go_big_quiet_step ((go_at_call 21; exact calls_class (HC0.out _))))
          refine wpQuiet_nil ?_
          intro w7 hb7; replace hb7 := BW.of hb7
          clear p1 p2 p3 p4 q1 q2 q3 q4 m1 m2 m3 m4 n91 n92 n93 n94 u1 u2
          have he9 := HE2.out.below hb7
          have r1 := he9.key
          have r2 := he9.seq
          have r3 := he9.gone
          have r4 := he9.val
          have HA9 := Lib.hid (HAC.out.below hb7)
          have HV9 := Lib.hid (HV2.out.below hb7)
          have HB9 := Lib.hid (HBL.out.trans ((hb7).mono HBL.out.size))
          clear he9 hstep hb7
          go_wp2_with (at_builtin; refine app_ent rfl _ _ rfl w.heap.size rfl (HA9.out.below (below_alloc1 _ _)) rfl (load_box _ (nth lb k) _ _) (HV9.out.below (below_alloc1 _ _)) (fun h5 x y hx hy e => by have h1 := HO2.out h5 x hx; have h2 := (HNEW.out y hy).1; omega) (by omega) (le_alloc HB9.out.size) ?_; intro a4 c4 w4 h4 hb4 _; have H4 := Lib.hid h4; have HB4 := Lib.hid ((HB9.out.alloc HB9.out.size _).trans hb4); clear h4 hb4)
          go_roundw
          case rel => exact ⟨i, k + 1, m + 1, c4, a4, lo ++ [nth lb k], by omega, by omega, by omega, rfl, rfl, by go_num, H4.out, HB4.out, HST⟩
          case measure => simp [intOf]; omega
      · obtain rfl : n' = k := by omega
        have hstep := hto.out
        rw [hd1, two_left (List.drop_eq_nil_of_le (by rw [HN'.out]; exact Nat.le_refl _))] at hstep
        have HST : Hid ((lo ++ [nth la i]) ++ Ent.two (la.drop (i + 1)) (lb.drop n') = Ent.two la lb) := Lib.hid (by rw [List.append_assoc]; exact hstep)
        have u1 : ((i : Int) == (n : Int)) = false := by simp; omega
        have HE1 := Lib.hid he1'
        clear hac hbl he1 hv1 he1' hd1
        have he9 := HE1.out.below (Below.refl wr.heap.size wr)
        have r1 := he9.key
        have r2 := he9.seq
        have r3 := he9.gone
        have r4 := he9.val
        have HA9 := Lib.hid (HAC.out.below (Below.refl wr.heap.size wr))
        have HV9 := Lib.hid (HV1.out.below (Below.refl wr.heap.size wr))
        have HB9 := Lib.hid (HBL.out.trans (((Below.refl wr.heap.size wr)).mono HBL.out.size))
        clear he9 hstep
        go_wp2_with (at_builtin; refine app_ent rfl _ _ rfl w.heap.size rfl (HA9.out.below (below_alloc1 _ _)) rfl (load_box _ (nth la i) _ _) (HV9.out.below (below_alloc1 _ _)) (fun h5 x y hx hy e => by have h1 := HO1.out h5 x hx; have h2 := (HNEW.out y hy).1; omega) (by omega) (le_alloc HB9.out.size) ?_; intro a4 c4 w4 h4 hb4 _; have H4 := Lib.hid h4; have HB4 := Lib.hid ((HB9.out.alloc HB9.out.size _).trans hb4); clear h4 hb4)
        go_roundw
        case rel => exact ⟨i + 1, n', m + 1, c4, a4, lo ++ [nth la i], by omega, by omega, by omega, rfl, by go_num, rfl, H4.out, HB4.out, HST⟩
        case measure => simp [intOf]; omega
    · obtain rfl : n = i := by omega
      by_cases hkn : k < n'
      · obtain ⟨b2, o2, a2, d2, rfl, he2, hv2⟩ := HB.out.vals hkn
        have HO2 : Hid (0 < (nth lb k).val.length → ∀ y, a2 = some y → y.block < w.heap.size) := Lib.hid (fun h => hv2.old h)
        have HV2 := Lib.hid (hv2.below hbl)
        have HE2 := Lib.hid (he2.below hbl)
        have hd2 := drop_nth (es := lb) (k := k) (by rw [HN'.out]; exact hkn)
        have hd1 : la.drop n = [] := List.drop_eq_nil_of_le (by rw [HN.out]; exact Nat.le_refl _)
        have hstep := hto.out
        rw [hd2, hd1, two_right, ← hd1] at hstep
        have HST : Hid ((lo ++ [nth lb k]) ++ Ent.two (la.drop n) (lb.drop (k + 1)) = Ent.two la lb) := Lib.hid (by rw [List.append_assoc]; exact hstep)
        clear hac hbl he2 hv2 hd2 hd1
        have he9 := HE2.out.below (Below.refl wr.heap.size wr)
        have r1 := he9.key
        have r2 := he9.seq
        have r3 := he9.gone
        have r4 := he9.val
        have HA9 := Lib.hid (HAC.out.below (Below.refl wr.heap.size wr))
        have HV9 := Lib.hid (HV2.out.below (Below.refl wr.heap.size wr))
        have HB9 := Lib.hid (HBL.out.trans (((Below.refl wr.heap.size wr)).mono HBL.out.size))
        clear he9 hstep
        go_wp2_with (at_builtin; refine app_ent rfl _ _ rfl w.heap.size rfl (HA9.out.below (below_alloc1 _ _)) rfl (load_box _ (nth lb k) _ _) (HV9.out.below (below_alloc1 _ _)) (fun h5 x y hx hy e => by have h1 := HO2.out h5 x hx; have h2 := (HNEW.out y hy).1; omega) (by omega) (le_alloc HB9.out.size) ?_; intro a4 c4 w4 h4 hb4 _; have H4 := Lib.hid h4; have HB4 := Lib.hid ((HB9.out.alloc HB9.out.size _).trans hb4); clear h4 hb4)
        go_roundw
        case rel => exact ⟨n, k + 1, m + 1, c4, a4, lo ++ [nth lb k], by omega, by omega, by omega, rfl, rfl, by go_num, H4.out, HB4.out, HST⟩
        case measure => simp [intOf]; omega
      · obtain rfl : n' = k := by omega
        have e1 : lo = Ent.two la lb := by
          have := hto.out
          rw [List.drop_eq_nil_of_le (by rw [HN.out]; exact Nat.le_refl _), List.drop_eq_nil_of_le (by rw [HN'.out]; exact Nat.le_refl _), Ent.two_nil, List.append_nil] at this
          exact this
        have E1 := Lib.hid e1
        clear hac hbl e1
        go_wp2
        go_ret
        exact ⟨_, _, _, rfl, by rw [← E1.out]; exact HAC.out, HBL.out⟩
end Go.Proofs.Ytfcfipoldkjloaa
