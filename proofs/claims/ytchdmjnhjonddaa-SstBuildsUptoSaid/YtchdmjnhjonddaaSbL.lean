/- Sorted tables: the reference's Build, all of it. -/
import Derived.Test.YtchdmjnhjonddaaSbK
set_option maxRecDepth 100000
set_option linter.unusedVariables false
set_option linter.unusedSimpArgs false
namespace Go.Proofs.Ytchdmjnhjonddaa
open Go.RowKit

theorem ent_ne {e : Ent} (hs : U64 e.seq) (h : e.key.length + e.val.length ≤ 1000000000) : Sst.ent e ≠ [] := fun h0 => by
  have := (ent_len hs h).1
  rw [h0] at this
  simp at this
set_option maxHeartbeats 8000000 in
theorem rbuild_any (a : Option Addr) (n c : Nat) (l : List Ent) (z : Int) (w : World) (h : Es w a n c l) (ok : Sst.Ok l) (hz : -9223372036854775808 ≤ z ∧ z ≤ 9223372036854775807) :
    Calls Try.prog 17 #[.slice a n c, .int .i64 z] w (RetP (Sst.build l z) w) := by
  have hle := h.le.1
  have HN := Lib.hid h.1
  have HL := Lib.hid h
  have HOK := Lib.hid ok
  have hn4 : n ≤ 400 := by rw [← h.1]; exact ok.n
  have HRT := Lib.hid (refright_any a n c l w h)
  clear h ok
  by_cases q1 : 1 ≤ z
  case neg =>
    have HP := Lib.hid (build_arg (l := l) (z := z) (by omega))
    have t1 : decide (z < 1) = true := decide_eq_true (by omega)
    go_enter Try.func17, Try.ntmps17
    go_wp2
    go_ret2
    rw [HP.out]
    exact retp_nil (Below.refl _ _)
  by_cases q2 : z ≤ 67108864
  case neg =>
    have HP := Lib.hid (build_arg (l := l) (z := z) (by omega))
    have t1 : decide (z < 1) = false := decide_eq_false (by omega)
    have t2 : decide ((67108864 : Int) < z) = true := decide_eq_true (by omega)
    go_enter Try.func17, Try.ntmps17
    go_wp2
    go_ret2
    rw [HP.out]
    exact retp_nil (Below.refl _ _)
  have t1 : decide (z < 1) = false := decide_eq_false (by omega)
  have t2 : decide ((67108864 : Int) < z) = false := decide_eq_false (by omega)
  obtain ⟨C, rfl⟩ : ∃ m : Nat, z = (m : Int) := ⟨z.toNat, by omega⟩
  by_cases hr : Ent.rightB l = false
  case pos =>
    have HP := Lib.hid (build_order (l := l) (z := (C : Int)) (by omega) hr)
    rw [hr] at HRT
    go_enter Try.func17, Try.ntmps17
    go_wp2_with fail
    refine HRT.out.mono ?_
    rintro e w1 ⟨rfl, hb1⟩
    have HB1 := Lib.hid hb1
    clear hb1
    go_wp2
    go_ret2
    rw [HP.out]
    exact retp_nil HB1.out
  have HPL := Lib.hid (fun h3 => build_long (l := l) (z := (C : Int)) (by omega) hr h3)
  have HPO := Lib.hid (fun h3 => build_ok (l := l) (C := C) (by omega) hr h3)
  rw [show Ent.rightB l = true by simpa using hr] at HRT
  generalize hbd : Sst.build l (C : Int) = BD at *
  clear hbd hr
  go_enter Try.func17, Try.ntmps17
  go_wp2_with fail
  refine HRT.out.mono ?_
  rintro e w1 ⟨rfl, hb1⟩
  have HB1 := Lib.hid hb1
  clear hb1 HRT
  go_wp2_with fail
  go_loopw [6] (fun iv wr => ∃ i : Nat, i ≤ n ∧ iv = .int .i64 i ∧ wr = w1 ∧ Hid (∀ j, j < i → ¬ Sst.long (nth l j))) (fun iv _ => n - (intOf iv).toNat)
  case atStart => exact ⟨0, Nat.zero_le _, rfl, rfl, Lib.hid (fun j hj => by omega)⟩
  case round =>
    obtain ⟨i, hi, rfl, hwr, HLG⟩ := hrel
    obtain rfl := hwr.symm
    clear hwr
    by_cases hlt : i < n
    · have htin : decide (i < n) = true := decide_eq_true hlt
      obtain ⟨b, off, ae, ce, rfl, he, hv⟩ := (HL.out.below HB1.out).vals hlt
      have hok := HOK.out.at (i := i) (by rw [HN.out]; exact hlt)
      have HMEM : Hid (nth l i ∈ l) := Lib.hid (by rw [nth_eq l (by rw [HN.out]; exact hlt)]; exact List.getElem_mem _)
      have HLG2 : Hid (¬ Sst.long (nth l i) → ∀ j, j < i + 1 → ¬ Sst.long (nth l j)) := Lib.hid (fun h j hj => by
        by_cases e : j = i
        · rw [e]; exact h
        · exact HLG.out j (by omega))
      have p0 := he.key
      have p3 := he.val
      generalize nth l i = x at *
      clear he hv
      have hkv : x.key.length + x.val.length ≤ 131072 := hok.2
      clear hok
      have hs := bstr_size x.key
      by_cases hlk : 65535 < x.key.length
      case pos =>
        have HP := Lib.hid (HPL.out ⟨x, HMEM.out, .inl hlk⟩)
        have t3 : decide ((65535 : Int) < (x.key.length : Int)) = true := decide_eq_true (by omega)
        go_wp2
        go_ret2
        rw [HP.out]
        exact retp_nil HB1.out
      have hlv : ¬ 33554432 < x.val.length := by omega
      have HNL : Hid (¬ Sst.long x) := Lib.hid (fun h => by rcases h with h | h <;> omega)
      have t3 : decide ((65535 : Int) < (x.key.length : Int)) = false := decide_eq_false (by omega)
      have t4 : decide ((33554432 : Int) < (x.val.length : Int)) = false := decide_eq_false (by omega)
      go_wp2
      go_roundw
      case rel => exact ⟨i + 1, by omega, by go_num, (by first | rfl | trivial), Lib.hid (HLG2.out HNL.out)⟩
      case measure => simp [intOf]; omega
    obtain rfl : n = i := by omega
    have HNLG : Hid (∀ e ∈ l, ¬ Sst.long e) := Lib.hid (fun e he => by
      obtain ⟨j, hj, rfl⟩ := List.getElem_of_mem he
      rw [← nth_eq _ hj]
      exact HLG.out j (by rw [← HN.out]; exact hj))
    have HP := Lib.hid (HPO.out (by rintro ⟨e, he, h⟩; exact HNLG.out e he h))
    have HU0 : Hid (Sst.upto l C 0 = ⟨[], [], [], []⟩) := Lib.hid rfl
    have HUS : Hid (∀ i, Sst.upto l C (i + 1) = Sst.step C (decide (i + 1 = n)) (Sst.upto l C i) (nth l i)) := Lib.hid (fun i => by rw [← HN.out]; rfl)
    have HSM := Lib.hid (fun i (hi : i ≤ n) => upto_small (size := C) HOK.out (i := i) (by rw [HN.out]; exact hi))
    have HBK := Lib.hid (upto_bk (size := C) HOK.out HNLG.out l.length (Nat.le_refl _)).1
    have HFN : Hid (Sst.fin l C = (Sst.upto l C n).out ++ Codec.frame (Sst.index (Sst.upto l C n).bl) ++ Codec.frame (Sst.filter l) ++ (Sst.foot' (Sst.upto l C n).out.length ((Sst.upto l C n).out ++ Codec.frame (Sst.index (Sst.upto l C n).bl)).length n ++ Codec.four (Codec.sum (Sst.foot' (Sst.upto l C n).out.length ((Sst.upto l C n).out ++ Codec.frame (Sst.index (Sst.upto l C n).bl)).length n)))) := Lib.hid (by rw [← HN.out]; rfl)
    rw [HN.out] at HBK
    have HKL : Hid (∀ e ∈ l, e.key.length ≤ 1000000) := Lib.hid (fun e he => by
      obtain ⟨j, hj, rfl⟩ := List.getElem_of_mem he
      have h1 := (HOK.out.at hj).2
      rw [nth_eq _ hj] at h1
      omega)
    generalize Sst.upto l C = UP at *
    clear HPL HPO HLG
    go_wp2_with fail
    go_loopw [7, 8, 9, 10, 11] (fun ov pv bv fv iv wr => ∃ (i no co np cp nb cb f : Nat) (ao ap ab : Option Addr) (wp : World), i ≤ n ∧ f ≤ n ∧ iv = .int .i64 i ∧ ov = .slice ao no co ∧ pv = .slice ap np cp ∧ bv = .slice ab nb cb ∧ fv = .int .i64 f ∧ Hid (((UP i).pay = [] → f = i) ∧ ((UP i).pay ≠ [] → f < n ∧ (nth l f).key = (UP i).fk)) ∧ Hid (Own wp w.heap.size ao no co (UP i).out) ∧ Hid (Acc celR 97 wp w.heap.size ab nb cb (UP i).bl) ∧ Hid (Below w.heap.size w wp) ∧ Hid (Below wp.heap.size wp wr) ∧ Hid (Own wr wp.heap.size ap np cp (UP i).pay)) (fun _ _ _ _ iv _ => n - (intOf iv).toNat)
    case atStart => exact ⟨0, 0, 0, 0, 0, 0, 0, 0, none, none, none, w1, Nat.zero_le _, Nat.zero_le _, rfl, rfl, rfl, rfl, rfl, Lib.hid ⟨fun _ => rfl, fun h => by rw [HU0.out] at h; exact absurd rfl h⟩, by rw [HU0.out]; exact Lib.hid (Own.nil _ _), by rw [HU0.out]; exact Lib.hid (Acc.nil _ _ _ _), HB1, Lib.hid (Below.refl _ _), by rw [HU0.out]; exact Lib.hid (Own.nil _ _)⟩
    case round =>
      obtain ⟨i, no, co, np, cp, nb, cb, f, ao, ap, ab, wp, hi, hf, rfl, rfl, rfl, rfl, rfl, HF, HOP, HACP, HBP, HWR, HPY⟩ := hrel
      have HO := Lib.hid (HOP.out.below HWR.out)
      have HAC := Lib.hid (HACP.out.below HWR.out)
      have HB := Lib.hid (HBP.out.trans (HWR.out.mono HBP.out.size))
      have hsm := HSM.out i hi
      have hno : no ≤ 150000 := by rw [← HO.out.bs.1]; exact hsm.1
      have hnp : np ≤ 150000 := by rw [← HPY.out.bs.1]; exact hsm.2.1
      have hnb : nb ≤ 400 := by rw [← HAC.out.1]; exact hsm.2.2
      clear hsm
      by_cases hlt : i < n
      case neg =>
        obtain rfl : n = i := by omega
        have htin : decide (n < n) = false := decide_eq_false (by omega)
        have HED := Lib.hid (rending_any w.heap.size ao no co (UP n).out ab nb cb (UP n).bl a n c l wr HB.out.size HO.out (HAC.out.rd (by decide)) HBK.out hnb HN.out (fun W hW => HL.out.below (HB.out.trans hW)) HKL.out hn4 hno)
        have HN1 : Hid ((UP n).out.length = no) := Lib.hid HO.out.bs.1
        go_wp2_with fail
        refine HED.out.mono ?_
        rintro en w9 ⟨a9, n9, c9, rfl, ho9, hb9⟩
        have HO9 := Lib.hid ho9
        have HB9 := Lib.hid (HB.out.trans hb9)
        clear ho9 hb9
        go_wp2
        go_ret2
        rw [HP.out]
        exact ⟨_, _, _, rfl, by rw [HFN.out, HN1.out]; exact HO9.out, HB9.out⟩
      have htin : decide (i < n) = true := decide_eq_true hlt
      obtain ⟨b, off, ae, ce, rfl, he0, hv0⟩ := HL.out.vals hlt
      have HVO := Lib.hid (fun (h0 : 0 < (nth l i).val.length) => hv0.old h0)
      have he := he0.below HB.out
      have hv := hv0.below HB.out
      have hok := HOK.out.at (i := i) (by rw [HN.out]; exact hlt)
      have HUI := Lib.hid (HUS.out i)
      have HNX : Hid (nth l i = nth l i) := Lib.hid rfl
      have p0 := he.key
      have p1 := he.seq
      have p2 := he.gone
      have p3 := he.val
      have HV := Lib.hid hv
      clear he hv he0 hv0
      have hkv : (nth l i).key.length + (nth l i).val.length ≤ 131072 := hok.2
      have HSEQ := Lib.hid hok.1
      clear hok
      have HEN := Lib.hid (ent_len HSEQ.out (by omega))
      have HENE := Lib.hid (ent_ne HSEQ.out (by omega))
      obtain ⟨FK, hFK⟩ : ∃ FK, FK = Sst.fk' (UP i) (nth l i) := ⟨_, rfl⟩
      have HFF : Hid (f < n ∧ (nth l f).key = FK) := Lib.hid (by
        by_cases h0 : (UP i).pay = []
        · have h1 := HF.out.1 h0
          subst h1
          exact ⟨hlt, by rw [hFK]; unfold Sst.fk'; rw [if_pos h0]⟩
        · have h1 := HF.out.2 h0
          exact ⟨h1.1, by rw [hFK]; unfold Sst.fk'; rw [if_neg h0]; exact h1.2⟩)
      have HFK := Lib.hid hFK
      clear hFK HF
      have HNEP : Hid (0 < (nth l i).val.length → ∀ y z, ae = some y → ap = some z → y.block ≠ z.block) := Lib.hid (fun h0 y z hy hz => by
        have h1 := HVO.out h0 y hy
        have h2 := (HPY.out.new z hz).1
        have h3 := HBP.out.size
        omega)
      have HSE := Lib.hid (rent_any wp.heap.size ap np cp (UP i).pay (nth l i) ae ce wr HWR.out.size HPY.out HV.out HNEP.out HSEQ.out (by omega))
      unfold ev at HSE
      generalize UP i = st at *
      generalize hx : nth l i = x at *
      have HXE := Lib.hid hx
      clear hx HNX
      go_wp2_with fail
      refine HSE.out.mono ?_
      rintro en w3 ⟨a3, n3, c3, rfl, ho3, hb3, hev3⟩
      have HWR3 := Lib.hid (HWR.out.trans hb3)
      have HPY3 := Lib.hid ho3
      have HB3 := Lib.hid (HBP.out.trans (HWR3.out.mono HBP.out.size))
      have HO3 := Lib.hid (HOP.out.below HWR3.out)
      have HAC3 := Lib.hid (HACP.out.below HWR3.out)
      have HN3 := Lib.hid ho3.bs.1
      have hn3 : n3 ≤ 300000 := by
        have h1 := HN3.out
        have h2 := HEN.out
        have h3 := HPY.out.bs.1
        rw [List.length_append] at h1
        omega
      clear ho3 hb3 hev3 p0 p1 p2 p3 HSE
      by_cases hfl : C ≤ n3 ∨ i + 1 = n
      case neg =>
        have HST : Hid (UP (i + 1) = ⟨st.out, st.pay ++ Sst.ent x, st.bl, FK⟩) := Lib.hid (by
          rw [HUI.out, HFK.out, step_keep]
          rw [HN3.out]
          simpa using hfl)
        have t6 : decide ((C : Int) ≤ (n3 : Int)) = false := decide_eq_false (by omega)
        have t6' : decide (C ≤ n3) = false := decide_eq_false (by omega)
        have t7 : ((i : Int) == (n : Int) - 1) = false := by rw [beq_eq_false_iff_ne]; omega
        clear hfl
        go_wp2
        go_roundw
        case rel => exact ⟨i + 1, no, co, n3, c3, nb, cb, f, ao, a3, ab, wp, by omega, hf, by go_num, rfl, rfl, rfl, rfl, Lib.hid ⟨fun h => by rw [HST.out] at h; exact absurd (List.append_eq_nil_iff.1 h).2 HENE.out, fun _ => by rw [HST.out]; exact HFF.out⟩, by rw [HST.out]; exact HOP, by rw [HST.out]; exact HACP, HBP, HWR3, by rw [HST.out]; exact HPY3⟩
        case measure => simp [intOf]; omega
      have HST : Hid (UP (i + 1) = ⟨st.out ++ Codec.frame (st.pay ++ Sst.ent x), [], st.bl ++ [⟨FK, st.out.length, (Codec.frame (st.pay ++ Sst.ent x)).length⟩], FK⟩) := Lib.hid (by
        rw [HUI.out, HFK.out, step_flush]
        rw [HN3.out]
        simpa using hfl)
      have HON : Hid (st.out.length = no) := Lib.hid HO.out.bs.1
      go_upto_region 18 with fail
      go_cut [66] (fun v wx => v = .bool true ∧ wx = w3)
      case first =>
        by_cases hC : C ≤ n3
        · have t6 : decide ((C : Int) ≤ (n3 : Int)) = true := decide_eq_true (by omega)
          have t6' : decide (C ≤ n3) = true := decide_eq_true hC
          clear hfl hC
          go_wp2
          go_meet
          exact ⟨rfl, rfl⟩
        · have t6 : decide ((C : Int) ≤ (n3 : Int)) = false := decide_eq_false (by omega)
          have t6' : decide (C ≤ n3) = false := decide_eq_false hC
          have t7 : ((i : Int) == (n : Int) - 1) = true := by rw [beq_iff_eq]; omega
          clear hfl hC
          go_wp2
          go_meet
          exact ⟨rfl, rfl⟩
      case rest =>
      obtain ⟨rfl, hwx⟩ := hcut
      obtain rfl := hwx.symm
      clear hwx hfl
      have HFR := Lib.hid (refframe_e w.heap.size ao a3 no co n3 c3 st.out (st.pay ++ Sst.ent x) w3 HB3.out.size HO3.out.app HPY3.out.bs (fun _ y z hy hz => by
        have h1 := (HPY3.out.new y hy).1
        have h2 := (HOP.out.new z hz).2
        omega) ⟨by omega⟩)
      have HFL := Lib.hid (frame_le (p := st.pay ++ Sst.ent x) (by rw [HN3.out]; omega))
      have HNEB := Lib.hid (own_ne HAC3.out.2 HO3.out (by decide))
      generalize Codec.frame (st.pay ++ Sst.ent x) = fr at *
      go_wp2_with fail
      refine HFR.out.mono ?_
      rintro en w4 ⟨a4, n4, c4, rfl, ho4, hb4, hev4⟩
      have HB4 := Lib.hid (HB3.out.trans hb4)
      have HO4 := Lib.hid ho4
      have HAC4 := Lib.hid (HAC3.out.evol hev4 HNEB.out)
      have hN4 : n4 = no + fr.length := by rw [← ho4.bs.1, List.length_append, HON.out]
      obtain ⟨fl, hflen⟩ : ∃ fl, fr.length = fl := ⟨_, rfl⟩
      have hflb : fl ≤ 300014 := by
        have h2 := HFL.out
        have h3 := HN3.out
        omega
      have HFLE := Lib.hid hflen
      have en4 : (n4 : Int) - (no : Int) = (fl : Int) := by omega
      have hn4b : n4 ≤ 500000 := by omega
      have HN4 : Hid (n4 = no + fl) := Lib.hid (by omega)
      clear ho4 hb4 hev4 HFR hN4 hflen
      obtain ⟨bf, off2, af, cf, ea, hef, _⟩ := (HL.out.below HB4.out).vals HFF.out.1
      cases ea
      have pk := hef.key
      rw [HFF.out.2] at pk
      have hfn := HFF.out.1
      clear hef
      go_wp2_with (at_builtin; refine app_cel celR rfl _ _ 94 97 rfl Try.underlying94 infoBr rfl (by decide) (by decide) w.heap.size rfl (HAC4.out.below (below_alloc1 _ _)) (e := ⟨FK, no, fl⟩) rfl (br_box (by first | rfl | simp) ⟨FK, no, fl⟩) (by omega) (le_alloc HB4.out.size) ?_; intro a5 c5 w5 h5 hb5 hev5; have HA5 := Lib.hid h5; have HB5 := Lib.hid (HB4.out.trans (((Below.refl _ _).alloc HB4.out.size _).trans hb5)); have HE5 := Lib.hid ((Evol.alloc _ _ _).trans hev5); have HO5 := Lib.hid (HO4.out.evolNe HE5.out (own_ne HO4.out HAC4.out.2 (by decide))); clear h5 hb5 hev5)
      go_roundw
      case rel => exact ⟨i + 1, n4, c4, 0, 0, nb + 1, c5, i + 1, a4, none, a5, w5, by omega, by omega, by go_num, rfl, rfl, by go_num, by go_num, Lib.hid ⟨fun _ => rfl, fun h => by rw [HST.out] at h; exact absurd rfl h⟩, by rw [HST.out]; exact HO5, by rw [HST.out, HON.out, HFLE.out]; exact HA5, HB5, Lib.hid (Below.refl _ _), by rw [HST.out]; exact Lib.hid (Own.nil _ _)⟩
      case measure => simp [intOf]; omega
end Go.Proofs.Ytchdmjnhjonddaa
