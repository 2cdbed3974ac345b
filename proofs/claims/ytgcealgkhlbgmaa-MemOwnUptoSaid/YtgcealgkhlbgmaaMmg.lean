/- MemSees. -/
import Derived.Test.YtgcealgkhlbgmaaMme
import Derived.Test.YtgcealgkhlbgmaaMmf
namespace Go.Proofs.Ytgcealgkhlbgmaa
open Go.RowKit
set_option linter.unusedVariables false

/-- One table. -/
def One (wo W : World) (tb : Nat) (L : List Ent) (ld : List Int) : Prop := ∃ bs hg hs, Tbl W wo.heap.size tb bs L hg hs ld ∧ Below wo.heap.size wo W
theorem One.below {wo W W' : World} {tb : Nat} {L : List Ent} {ld : List Int} (h : One wo W tb L ld) (hb : Below W.heap.size W W') : One wo W' tb L ld := by
  obtain ⟨bs, hg, hs, h1, h2⟩ := h
  exact ⟨bs, hg, hs, h1.below hb, h2.trans (hb.mono h2.size)⟩
theorem One.put {wo W : World} {tb : Nat} {L : List Ent} {ld : List Int} (h : One wo W tb L ld) (v : Ent) (va : Option Addr) (vc : Nat) (hv : Bs W va v.val.length vc v.val) (hn : L.length ≤ 10000) (hsm : ∀ e ∈ L, Sm e) (hsv : Sm v) :
    Calls Try.prog 11 #[.pointer (some ⟨tb, 0, none⟩), ev v va vc] W fun e W' => e = .returned (.tuple #[]) ∧ One wo W' tb (Ent.lay L v.laid) ld := by
  obtain ⟨bs, hg, hs, h1, h2⟩ := h
  refine (sput_any _ tb bs L hg hs ld v va vc W h1 hv hn hsm hsv).mono ?_
  rintro e W' ⟨bs', rfl, hk, _, hT⟩
  exact ⟨rfl, bs', _, _, hT, h2.trans (hk.below (fun b h => (h1.bs b h).1) h2.size)⟩
theorem One.get {wo W : World} {tb : Nat} {L : List Ent} {ld : List Int} (h : One wo W tb L ld) (key : List UInt8) (up : Nat) (hsm : ∀ e ∈ L, Sm e) :
    Calls Try.prog 20 #[.pointer (some ⟨tb, 0, none⟩), .string (bstr key), .int .u64 up] W (TGet W (Ent.getAt L key up)) := by
  obtain ⟨bs, hg, hs, h1, h2⟩ := h
  exact tget_any _ tb bs L hg hs ld key up W h1 (fun e he => by have := (hsm e he).1; omega)
theorem One.all {wo W : World} {tb : Nat} {L : List Ent} {ld : List Int} (h : One wo W tb L ld) (hn : L.length ≤ 10000) (hsm : ∀ e ∈ L, Sm e) :
    Calls Try.prog 13 #[.pointer (some ⟨tb, 0, none⟩)] W (ColP W L) := by
  obtain ⟨bs, hg, hs, h1, h2⟩ := h
  exact tallrow_any _ _ _ L _ _ _ W h1 (by omega) (fun e he => (hsm e he).2) (fun e he => by have := (hsm e he).1; omega)
set_option maxRecDepth 8000 in
set_option maxHeartbeats 3000000 in
theorem memSees_walk (a1 al : Option Addr) (n1 c1 n c : Nat) (l1 : List Int) (l : List Ent) (up : Nat) (w : World) (h1 : Is w a1 n1 c1 l1) (h : Es w al n c l) (hf : Ent.tot l + n ≤ 1000000000) (hsq : ∀ e ∈ l, e.seq ≤ 18446744073709551615) :
    Calls Try.prog 5 #[.slice a1 n1 c1, .slice al n c, .int .u64 up] w fun e w' => e = .returned (.bool true) ∧ Below w.heap.size w w' := by
  have hle := h.le.1
  have hle1 := h1.le.1
  have HN := Lib.hid h.1
  have HE := Lib.hid h
  have HI1 := Lib.hid h1
  have HF := Lib.hid hf
  have HSQ := Lib.hid hsq
  clear h h1 hf hsq
  go_enter Try.func5, Try.ntmps5
  go_wp2_with fail
  refine (known_any w).mono ?_
  rintro e w1 ⟨rfl, hb1⟩
  have HB1 := Lib.hid hb1
  have hw1 : w.heap.size ≤ w1.heap.size := hb1.size
  clear hb1
  go_wp2_with fail
  refine (efew_any al n c l 400 w1 (HE.out.below HB1.out) HF.out (by omega)).mono ?_
  rintro e w2 ⟨rfl, q, rfl⟩
  have HB2 := Lib.hid (below_drewN HB1.out q)
  clear HB1
  cases hfew : decide (n ≤ 400 ∧ Ent.tot l ≤ 131072) with
  | false =>
    clear hfew
    go_wp2
    go_ret
    exact ⟨rfl, HB2.out⟩
  | true =>
    have hfe := of_decide_eq_true hfew
    have HSM := Lib.hid (sm_of hfe.2 HSQ.out)
    have hn3 := hfe.1
    clear hfew hfe
    by_cases hm1 : 1000 < n1
    · have t1 : decide ((1000 : Int) < (n1 : Int)) = true := decide_eq_true (by omega)
      go_wp2
      go_ret
      exact ⟨rfl, HB2.out⟩
    have t1 : decide ((1000 : Int) < (n1 : Int)) = false := decide_eq_false (by omega)
    obtain ⟨wo, hwo⟩ : ∃ wo, w1.drewN q = wo := ⟨_, rfl⟩
    rw [hwo] at HB2 ⊢
    clear hwo
    have hwo := HB2.out.size
    go_wp2_with fail
    refine (tnew_any a1 n1 c1 l1 wo (HI1.out.below HB2.out) (by omega)).mono ?_
    rintro e w4 ⟨tb, bs, rfl, hT, hb4⟩
    have HT4 : Hid (One wo w4 tb [] l1) := Lib.hid ⟨bs, _, _, hT, hb4⟩
    clear hT hb4
    go_wp2_with fail
    go_loopw [8] (fun i wr => ∃ k : Nat, k ≤ n ∧ i = .int .i64 k ∧ Hid (One wo wr tb (Ent.lays [] ((l.take k).map Ent.laid)) l1)) (fun i _ => n - (intOf i).toNat)
    case atStart => exact ⟨0, Nat.zero_le _, rfl, HT4⟩
    case round =>
      obtain ⟨k, hk, rfl, hO⟩ := hrel
      by_cases hlt : k < n
      · have hb : Below wo.heap.size wo wr := by obtain ⟨_, _, _, _, h2⟩ := hO.out; exact h2
        obtain ⟨bx, ox, ax, cx, rfl, hex, hvx⟩ := ((HE.out.below HB2.out).below hb).vals hlt
        have hN := HN.out
        have HNA : Hid (Ent.lays [] ((l.take (k + 1)).map Ent.laid) = Ent.lay (Ent.lays [] ((l.take k).map Ent.laid)) (nth l k).laid) := Lib.hid (by
          rw [List.take_succ_eq_append_getElem (by omega), List.map_append, List.map_cons, List.map_nil, lays_snoc, ← nth_eq _ (by omega)])
        have hLA := lays_len [] ((l.take k).map Ent.laid)
        rw [List.length_map, List.length_take] at hLA
        simp only [List.length_nil, Nat.zero_add] at hLA
        have HPA := Lib.hid (One.put hO.out (nth l k) ax cx hvx (by omega) (lays_sm (es := l.take k) (fun e he => HSM.out e (List.mem_of_mem_take he))) (HSM.out _ (by rw [nth_eq _ (by omega)]; exact List.getElem_mem _)))
        have p1 := hex.key
        have p2 := hex.seq
        have p3 := hex.gone
        have p4 := hex.val
        clear hex hvx hLA hN hb
        go_wp2_with fail
        unfold ev at HPA
        refine HPA.out.mono ?_
        rintro e w8 ⟨rfl, hT8⟩
        rw [← HNA.out] at hT8
        have HT8 := Lib.hid hT8
        clear hT8 HPA p1 p2 p3 p4
        go_wp2
        go_roundw
        case rel => exact ⟨k + 1, by omega, by go_num, HT8⟩
        case measure => simp [intOf]; omega
      · obtain rfl : k = n := by omega
        have hO2 := hO.out
        rw [List.take_of_length_le (by have := HN.out; omega)] at hO2
        have hLA := lays_len [] (l.map Ent.laid)
        rw [List.length_map] at hLA
        simp only [List.length_nil, Nat.zero_add] at hLA
        have hSA := lays_sm (es := l) HSM.out
        have hRB : Ent.rightB (Ent.lays [] (l.map Ent.laid)) = true := rightB_sorted (lays_sorted List.Pairwise.nil) (lays_fine l)
        have hSO : (Ent.lays [] (l.map Ent.laid)).Pairwise Ent.lt := lays_sorted List.Pairwise.nil
        have hNl := HN.out
        obtain ⟨L, hL⟩ : ∃ L, L = Ent.lays [] (l.map Ent.laid) := ⟨_, rfl⟩
        rw [← hL] at hO2 hLA hSA hRB hSO
        have HO2 := Lib.hid hO2
        have HSA := Lib.hid hSA
        have HSO := Lib.hid hSO
        have hLk : L.length ≤ k := by omega
        have HRS : Hid (∀ a n c W, Es W a n c L → Calls Try.prog 23 #[.slice a n c, .int .u64 up] W (RetEs (Ent.seen L up) 0 W)) := Lib.hid fun a n c W hW => by
          have := refseen_any a n c L up W hW (by have := hW.1; omega)
          rw [hRB, if_pos rfl, if_pos rfl] at this
          exact this
        clear hO hO2 hSA hRB hSO hL hLA hNl
        go_wp2_with fail
        refine (One.all HO2.out (by omega) HSA.out).mono ?_
        rintro e v1 ⟨ax, kx, cx, rfl, hax, hbx⟩
        have H1 := Lib.hid (HO2.out.below hbx)
        have HX1 := Lib.hid hax.es
        clear hax hbx HO2
        go_wp2_with fail
        refine (HRS.out ax kx cx v1 HX1.out).mono ?_
        rintro e v2 ⟨asn, ks, cs, rfl, has, hbs⟩
        have H2 := Lib.hid (H1.out.below hbs)
        have HS2 := Lib.hid has.es
        have hsl : ks ≤ k := by
          have h1 := has.len
          have h2 : (Ent.seen L up).length ≤ L.length := List.length_filter_le _ _
          omega
        have HSL := Lib.hid has.len
        obtain ⟨S, hS⟩ : ∃ S, S = Ent.seen L up := ⟨_, rfl⟩
        rw [← hS] at HS2 HSL
        have HSE := Lib.hid hS
        have HEV := Lib.hid ((HE.out.below HB2.out).below (show Below wo.heap.size wo v2 by obtain ⟨_, _, _, _, h2⟩ := H2.out; exact h2))
        clear has hbs H1 HX1 HRS hS
        go_wp2_with fail
        go_loopw [11, 12, 13, 14, 15] (fun s11 i s13 s14 s15 wr => ∃ j : Nat, j ≤ k ∧ i = .int .i64 j ∧ s11 = .int .i64 j ∧ Hid (Below v2.heap.size v2 wr)) (fun _ i _ _ _ _ => k - (intOf i).toNat)
        case atStart => exact ⟨0, Nat.zero_le _, rfl, rfl, Lib.hid (Below.refl _ _)⟩
        case round =>
          obtain ⟨vo, hvo⟩ : ∃ vo, vo = wr := ⟨_, rfl⟩
          subst hvo
          obtain ⟨j, hj, rfl, rfl, hbj⟩ := hrel
          by_cases hlj : j < k
          · obtain ⟨bx, ox, ax, cx, rfl, hex, hvx⟩ := (HEV.out.below hbj.out).vals hlj
            have p1 := hex.key
            have HKE : Hid (∀ W, Below vo.heap.size vo W → W.cell? ⟨bx, ox + j * 4, none⟩ = some (.string (bstr (nth l j).key))) := Lib.hid fun W hW => cell_later hW hex.key
            have HGT := Lib.hid (One.get (H2.out.below hbj.out) (nth l j).key up HSA.out)
            obtain ⟨key, hkey⟩ : ∃ key, key = (nth l j).key := ⟨_, rfl⟩
            rw [← hkey] at p1 HKE HGT
            clear hex hvx hkey
            go_wp2_with fail
            refine HGT.out.mono ?_
            rintro e v3 ⟨hb3, hcase⟩
            have HO : Hid (∃ x a c, e = .returned (.tuple #[ev x a c, .bool (Ent.getAt L key up).isSome]) ∧ Bs v3 a x.val.length c x.val ∧ (∀ y, Ent.getAt L key up = some y → x = y)) := Lib.hid (by
              cases hg : Ent.getAt L key up with
              | none => rw [hg] at hcase; exact ⟨default, none, 0, hcase, Bs.nil _, fun y h => by cases h⟩
              | some x => rw [hg] at hcase; obtain ⟨a, c, h1, h2⟩ := hcase; exact ⟨x, a, c, h1, h2.bs, fun y h => by cases h; rfl⟩)
            obtain ⟨x, ac, cc, rfl, hvx, hxy⟩ := HO.out
            obtain ⟨isb, hisb⟩ : ∃ isb, isb = (Ent.getAt L key up).isSome := ⟨_, rfl⟩
            rw [← hisb]
            have HIS := Lib.hid hisb
            have HXY := Lib.hid hxy
            have HVX := Lib.hid hvx
            have hxb := load_box v3 x ac cc
            have hb4 := below_alloc1 v3 (.cells #[.string (bstr x.key), .int .u64 x.seq, .bool x.gone, .slice ac x.val.length cc] 30)
            have HXB := Lib.hid hxb
            have HB4 := Lib.hid (hb3.trans (hb4.mono hb3.size))
            have HVX4 := Lib.hid (hvx.below hb4)
            clear hcase HO hisb hxy hvx hxb hb3 hb4 HGT p1 HVX
            simp only [ev]
            go_wp2_with fail
            obtain ⟨W4, hW4⟩ : ∃ W4, v3.alloc (.cells #[.string (bstr x.key), .int .u64 x.seq, .bool x.gone, .slice ac x.val.length cc] 30) = W4 := ⟨_, rfl⟩
            rw [hW4] at HXB HB4 HVX4 ⊢
            clear hW4
            have HS4 := Lib.hid ((HS2.out.below hbj.out).below HB4.out)
            have HVK : Hid (∀ W, Below W4.heap.size W4 W → Below vo.heap.size vo W) := Lib.hid fun W hW => HB4.out.trans (hW.mono HB4.out.size)
            go_loopw [15] (fun i wi => ∃ m : Nat, m ≤ ks ∧ i = .int .i64 m ∧ Hid (∀ i, i < m → (nth S i).key ≠ key) ∧ Hid (Below W4.heap.size W4 wi)) (fun i _ => ks - (intOf i).toNat)
            case atStart => exact ⟨0, Nat.zero_le _, rfl, Lib.hid (fun i hi => by omega), Lib.hid (Below.refl _ _)⟩
            case round =>
              obtain ⟨m, hm, rfl, hlo, hbm⟩ := hrel
              have q1 := HKE.out wr (HVK.out wr hbm.out)
              have HLO := Lib.hid hlo.out
              have hsk := HSE.out
              have HST : Hid ((m < ks → (nth S m).key = key) → Ent.stands (Ent.getAt L key up) = decide (m < ks) ∧ (m < ks → Ent.getAt L key up = some (nth S m))) := Lib.hid fun hat => by
                have h9 := seen_key HSO.out up key (k := m) (by rw [← hsk, HSL.out]; exact hm) (by rw [← hsk]; exact hlo.out) (by rw [← hsk, HSL.out]; exact hat)
                rw [← hsk, HSL.out] at h9
                exact h9
              clear hsk hlo
              have HFIN : Hid (∀ W, Below wr.heap.size wr W → Below v2.heap.size v2 W) := Lib.hid fun W hW => by
                have h1 := hbj.out.trans ((HVK.out wr hbm.out).mono hbj.out.size)
                exact h1.trans (hW.mono h1.size)
              by_cases hms : m < ks
              · obtain ⟨bs2, os2, as2, cs2, rfl, he2, hv2⟩ := (HS4.out.below hbm.out).vals hms
                have p1 := he2.key
                by_cases hke : (nth S m).key = key
                · have t1 : ((bstr (nth S m).key).toList != (bstr key).toList) = false := by simp only [bne, bstr_beq]; simp [hke]
                  have t2 : ((bstr (nth S m).key).toList == (bstr key).toList) = true := by rw [bstr_beq]; exact decide_eq_true hke
                  obtain ⟨hs1, hs2⟩ := HST.out (fun _ => hke)
                  have hxm := HXY.out _ (hs2 hms)
                  have hgo : x.gone = false := by
                    rw [hs2 hms, decide_eq_true hms] at hs1
                    rw [hxm]
                    have h9 : (!(nth S m).gone) = true := hs1
                    simpa using h9
                  have hib : isb = true := by rw [HIS.out, hs2 hms]; rfl
                  have hxw := HXB.out.below hbm.out
                  have x1 := hxw.key
                  have x2 := hxw.seq
                  have x3 := hxw.gone
                  have x4 := hxw.val
                  have p2 := he2.seq
                  have p3 := he2.gone
                  have p4 := he2.val
                  simp only [Nat.zero_add] at x1 x2 x3 x4
                  have HSA2 : Hid (∀ V : BW wr, Calls Try.prog 22 #[ev x ac cc, ev (nth S m) as2 cs2] V.w fun e w' => e = .returned (.bool true) ∧ Below V.w.heap.size V.w w') := Lib.hid fun V => by
                    have h9 := esame_any x (nth S m) ac as2 cc cs2 V.w ((HVX4.out.below hbm.out).below V.b) (hv2.below V.b)
                    rwa [decide_eq_true hxm] at h9
                  have h3' : wr.cell? ⟨v3.heap.size, 2, none⟩ = some (.bool false) := by rw [← hgo]; exact x3
                  have HGO := Lib.hid hgo
                  have HSA3 : Hid (∀ V : BW wr, Calls Try.prog 22 #[.agg #[.string (bstr x.key), .int .u64 x.seq, .bool false, .slice ac x.val.length cc], ev (nth S m) as2 cs2] V.w fun e w' => e = .returned (.bool true) ∧ Below V.w.heap.size V.w w') := Lib.hid fun V => by
                    have h9 := HSA2.out V
                    unfold ev at h9 ⊢
                    rw [HGO.out] at h9
                    exact h9
                  subst hib
                  have HKE2 := Lib.hid hke
                  clear hs1 hs2 hxm hgo hxw he2 hv2 x3 HSA2 hke
                  go_upto_region 21 with fail
                  refine wp_region_class (w0 := wr) (by kernel_rfl) (by kernel_rfl) (Below.refl _ _) ?_
                  have k1 := BW.cell p1
                  have k2 := BW.cell q1
                  repeat (first | go_big_quiet_step (fail))
                  refine wpQuiet_nil ?_
                  intro w9 hb9; replace hb9 := BW.of hb9
                  clear k1 k2
                  have HB9 := Lib.hid hb9
                  replace x1 := cell_later hb9 x1
                  replace x2 := cell_later hb9 x2
                  replace h3' := cell_later hb9 h3'
                  replace x4 := cell_later hb9 x4
                  replace p1 := cell_later hb9 p1
                  replace p2 := cell_later hb9 p2
                  replace p3 := cell_later hb9 p3
                  replace p4 := cell_later hb9 p4
                  have HSA4 : Hid (∀ V : BW w9, Calls Try.prog 22 #[.agg #[.string (bstr x.key), .int .u64 x.seq, .bool false, .slice ac x.val.length cc], ev (nth S m) as2 cs2] V.w fun e w' => e = .returned (.bool true) ∧ Below V.w.heap.size V.w w') := Lib.hid fun V => HSA3.out ⟨V.w, HB9.out.trans (V.b.mono HB9.out.size)⟩
                  clear hb9 HSA3 q1
                  go_upto_region 23 with fail
                  refine wp_region_class (w0 := w9) (by kernel_rfl) (by kernel_rfl) (Below.refl _ _) ?_
                  replace x1 := BW.cell x1
                  replace x2 := BW.cell x2
                  replace h3' := BW.cell h3'
                  replace x4 := BW.cell x4
                  replace p1 := BW.cell p1
                  replace p2 := BW.cell p2
                  replace p3 := BW.cell p3
                  replace p4 := BW.cell p4
                  repeat (first | go_big_quiet_step ((go_at_call 22; exact calls_class (HSA4.out _))))
                  refine wpQuiet_nil ?_
                  intro w10 hb10; replace hb10 := BW.of hb10
                  have HB10 := Lib.hid (HFIN.out w10 (HB9.out.trans (hb10.mono HB9.out.size)))
                  clear hb10 x1 x2 h3' x4 p1 p2 p3 p4
                  go_wp2
                  go_roundw
                  case rel => exact ⟨j + 1, by omega, by go_num, by go_num, HB10⟩
                  case measure => simp [intOf]; omega
                · have t1 : ((bstr (nth S m).key).toList != (bstr key).toList) = true := by simp only [bne, bstr_beq]; simp [hke]
                  have t2 : ((bstr (nth S m).key).toList == (bstr key).toList) = false := by rw [bstr_beq]; exact decide_eq_false hke
                  have HKN := Lib.hid hke
                  clear he2 hv2 hke
                  go_upto_region 21 with fail
                  refine wp_region_class (w0 := wr) (by kernel_rfl) (by kernel_rfl) (Below.refl _ _) ?_
                  replace p1 := BW.cell p1
                  replace q1 := BW.cell q1
                  repeat (first | go_big_quiet_step (fail))
                  refine wpQuiet_nil ?_
                  intro w9 hb9; replace hb9 := BW.of hb9
                  have HB9 := Lib.hid (hbm.out.trans (hb9.mono hbm.out.size))
                  clear hb9 p1 q1
                  go_wp2
                  go_roundw
                  case rel => exact ⟨m + 1, by omega, by go_num, Lib.hid (fun i hi => by
                    by_cases e : i = m
                    · rw [e]; exact HKN.out
                    · exact HLO.out i (by omega)), HB9⟩
                  case measure => simp [intOf]; omega
              · obtain rfl : m = ks := by omega
                obtain ⟨hs1, _⟩ := HST.out (fun h9 => absurd h9 hms)
                rw [decide_eq_false hms] at hs1
                have hig : (isb && !x.gone) = false := by
                  cases hg : Ent.getAt L key up with
                  | none => rw [HIS.out, hg]; rfl
                  | some y =>
                    rw [hg] at hs1
                    have h9 : (!y.gone) = false := hs1
                    rw [HXY.out y hg, h9, Bool.and_false]
                have hxw := HXB.out.below hbm.out
                have x3 := hxw.gone
                simp only [Nat.zero_add] at x3
                clear hs1 hxw
                go_upto_region 21 with fail
                refine wp_region_class (w0 := wr) (by kernel_rfl) (by kernel_rfl) (Below.refl _ _) ?_
                have k2 := BW.cell q1
                repeat (first | go_big_quiet_step (fail))
                refine wpQuiet_nil ?_
                intro w9 hb9; replace hb9 := BW.of hb9
                clear k2 q1
                have HB9 := Lib.hid hb9
                replace x3 := cell_later hb9 x3
                clear hb9
                go_upto_region 23 with fail
                obtain ⟨gx, hgx⟩ : ∃ gx, gx = x.gone := ⟨_, rfl⟩
                rw [← hgx] at x3 hig
                clear hgx
                cases isb with
                | true =>
                  have hgt : gx = true := by simpa using hig
                  subst hgt
                  refine wp_region_class (w0 := w9) (by kernel_rfl) (by kernel_rfl) (Below.refl _ _) ?_
                  replace x3 := BW.cell x3
                  repeat (first | go_big_quiet_step (fail))
                  refine wpQuiet_nil ?_
                  intro w10 hb10; replace hb10 := BW.of hb10
                  have HB10 := Lib.hid (HFIN.out w10 (HB9.out.trans (hb10.mono HB9.out.size)))
                  clear hb10 x3
                  go_wp2
                  go_roundw
                  case rel => exact ⟨j + 1, by omega, by go_num, by go_num, HB10⟩
                  case measure => simp [intOf]; omega
                | false =>
                  refine wp_region_class (w0 := w9) (by kernel_rfl) (by kernel_rfl) (Below.refl _ _) ?_
                  replace x3 := BW.cell x3
                  repeat (first | go_big_quiet_step (fail))
                  refine wpQuiet_nil ?_
                  intro w10 hb10; replace hb10 := BW.of hb10
                  have HB10 := Lib.hid (HFIN.out w10 (HB9.out.trans (hb10.mono HB9.out.size)))
                  clear hb10 x3
                  go_wp2
                  go_roundw
                  case rel => exact ⟨j + 1, by omega, by go_num, by go_num, HB10⟩
                  case measure => simp [intOf]; omega
          · obtain rfl : j = k := by omega
            have t9 : ((j : Int) == (j : Int)) = true := by simp
            have HFN : Hid (Below w.heap.size w vo) := Lib.hid (by
              obtain ⟨_, _, _, _, h2⟩ := H2.out.below hbj.out
              exact HB2.out.trans (h2.mono HB2.out.size))
            go_wp2
            go_ret
            exact ⟨rfl, HFN.out⟩
end Go.Proofs.Ytgcealgkhlbgmaa
