/- The walk of CompactKeeps. -/
import Derived.Test.YtfcfipoldkjloaaCpP
import Derived.Test.YtfcfipoldkjloaaCpC
set_option maxRecDepth 100000
set_option linter.unusedVariables false
set_option linter.unusedSimpArgs false
namespace Go.Proofs.Ytfcfipoldkjloaa
open Go.RowKit

/-- A list that a play may have. -/
structure Okl (l : List Ent) : Prop where
  len : l.length ≤ 300
  tot : Ent.tot l ≤ 131072
  right : Ent.rightB l = true
theorem Okl.wt {l : List Ent} (h : Okl l) : ∀ e ∈ l, Cp.wt e ≤ 1000000 := fun e he => by
  have := tot_mem he; have := h.tot; unfold Cp.wt; omega
theorem okl_all {ls : List (List Ent)} (h : ∀ j, j < ls.length → Okl (nth ls j)) : Ent.allR ls = true := allR_at fun j hj => (h j hj).right
theorem okl_mem {ls : List (List Ent)} (h : ∀ j, j < ls.length → Okl (nth ls j)) : ∀ l ∈ ls, Okl l := fun l hl => by
  obtain ⟨j, hj, rfl⟩ := List.getElem_of_mem hl
  rw [← nth_eq _ hj]; exact h j hj
theorem okl_sum : ∀ (ls : List (List Ent)), (∀ l ∈ ls, Okl l) → Ent.sumL ls ≤ ls.length * 300
  | [], _ => by simp [Ent.sumL]
  | l :: ls, h => by
    have h1 := okl_sum ls (fun k hk => h k (by simp [hk]))
    have h2 := (h l (by simp)).len
    unfold Ent.sumL at *
    simp only [List.map_cons, List.sum_cons, List.length_cons]
    omega
theorem flatten_take {ls : List (List Ent)} {i : Nat} (h : i < ls.length) : (ls.take (i + 1)).flatten = (ls.take i).flatten ++ nth ls i := by
  rw [take_snoc ls h]; simp
theorem flatten_take_len (ls : List (List Ent)) (i : Nat) : ((ls.take i).flatten).length ≤ ls.flatten.length := by
  conv => rhs; rw [← List.take_append_drop i ls, List.flatten_append, List.length_append]
  omega
set_option maxHeartbeats 8000000 in
theorem compactKeeps_walk (keep more : Nat) (bottom : Bool) (size : Int) (a : Option Addr) (n c : Nat) (ls : List (List Ent)) (w : World) (h : Ess w a n c ls) (hk : U64 keep) (hm : U64 more) (hs : -9223372036854775808 ≤ size ∧ size ≤ 9223372036854775807) (hf : Ent.totL ls + n ≤ 1000000000) :
    Calls Try.prog 3 #[.int .u64 keep, .int .u64 more, .bool bottom, .int .i64 size, .slice a n c] w fun e w' => e = .returned (.bool true) ∧ Below w.heap.size w w' := by
  have hle := h.le.1
  have HN := Lib.hid h.1
  have HE : Hid (∀ W, Below w.heap.size w W → Ess W a n c ls) := Lib.hid fun W k => h.below k
  have HF := Lib.hid hf
  have HSZ := Lib.hid hs
  clear h hf hs
  go_enter Try.func3, Try.ntmps3
  go_wp2_with fail
  refine (known_any _).mono ?_
  rintro e w1 ⟨rfl, hb1⟩
  have HB1 := Lib.hid hb1
  clear hb1
  by_cases hn : n ≤ 20
  case neg =>
    have t1 : decide ((20 : Int) < (n : Int)) = true := decide_eq_true (by omega)
    clear hn
    go_wp2
    go_ret
    exact ⟨rfl, HB1.out⟩
  have t1 : decide ((20 : Int) < (n : Int)) = false := decide_eq_false (by omega)
  by_cases hs1 : 1 ≤ size
  case neg =>
    have t2 : decide (size < 1) = true := decide_eq_true (by omega)
    clear hn hs1
    go_wp2
    go_ret
    exact ⟨rfl, HB1.out⟩
  obtain ⟨sz, rfl⟩ : ∃ m : Nat, size = (m : Int) := ⟨size.toNat, by omega⟩
  have t2 : decide ((sz : Int) < 1) = false := decide_eq_false (by omega)
  go_wp2_with fail
  go_loopw [11] (fun iv wr => ∃ i : Nat, i ≤ n ∧ iv = .int .i64 i ∧ Hid (Below w.heap.size w wr) ∧ Hid (∀ j, j < i → Okl (nth ls j))) (fun iv _ => n - (intOf iv).toNat)
  case atStart => exact ⟨0, Nat.zero_le _, rfl, HB1, Lib.hid (fun j hj => by omega)⟩
  case round =>
    obtain ⟨i, hi, rfl, hbl, hall⟩ := hrel
    by_cases hin : i < n
    · obtain ⟨b, off, ai, ni, ci, rfl, hc, hes⟩ := (HE.out _ hbl.out).get hin
      have HES := Lib.hid hes
      have htl : Ent.tot (nth ls i) + ni ≤ 1000000000 := by
        have h1 := totL_mem (show nth ls i ∈ ls from nth_mem (by rw [HN.out]; exact hin))
        have h2 := hes.1
        have h3 := HF.out
        omega
      clear hes
      go_wp2_with fail
      refine (efew_any ai ni ci (nth ls i) 300 _ HES.out htl (by omega)).mono ?_
      rintro e w2 ⟨rfl, q, rfl⟩
      have HB2 := Lib.hid (below_drewN hbl.out q)
      cases hfw : decide (ni ≤ 300 ∧ Ent.tot (nth ls i) ≤ 131072) with
      | false =>
        clear hfw htl
        go_wp2
        go_ret
        exact ⟨rfl, HB2.out⟩
      | true =>
        have HFW := Lib.hid (of_decide_eq_true hfw)
        clear hfw htl
        go_wp2_with fail
        refine (refright_any ai ni ci (nth ls i) _ (HES.out.below (below_drewN (Below.refl _ _) q))).mono ?_
        rintro e w3 ⟨rfl, hb3⟩
        have HB3 := Lib.hid (HB2.out.trans (hb3.mono HB2.out.size))
        clear hb3
        cases hR : Ent.rightB (nth ls i) with
        | false =>
          clear hR
          go_wp2
          go_ret
          exact ⟨rfl, HB3.out⟩
        | true =>
          have HA : Hid (∀ j, j < i + 1 → Okl (nth ls j)) := Lib.hid (fun j hj => by
            by_cases e : j = i
            · rw [e]; exact ⟨by rw [HES.out.1]; exact HFW.out.1, HFW.out.2, hR⟩
            · exact hall.out j (by omega))
          clear hR
          go_wp2
          go_roundw
          case rel => exact ⟨i + 1, by omega, by go_num, HB3, HA⟩
          case measure => simp [intOf]; omega
    · obtain rfl : n = i := by omega
      have HO : Hid (∀ j, j < ls.length → Okl (nth ls j)) := Lib.hid (by rw [HN.out]; exact hall.out)
      have HAR := Lib.hid (okl_all HO.out)
      have HSL : Hid (Ent.sumL ls ≤ 6000) := Lib.hid (by have := okl_sum ls (okl_mem HO.out); rw [HN.out] at this; omega)
      clear hall
      go_wp2_with fail
      refine (run_any a n c ls keep bottom sz _ (HE.out _ hbl.out) (by omega) (by have := HSZ.out; omega) HAR.out (by omega) (fun l hl => (okl_mem HO.out l hl).wt) (by have := HSL.out; omega)).mono ?_
      rintro e w4 ⟨a4, n4, c4, rfl, h4, hb4⟩
      have HMR := Lib.hid (mergeL_right HAR.out)
      have HPS := Lib.hid ((mergeL_right HAR.out).2.sublist (l₁ := Ent.prune (Ent.mergeL ls) keep bottom) List.filter_sublist)
      have HPR := Lib.hid (Ent.prune_right (mergeL_right HAR.out) keep bottom)
      have HPL : Hid ((Ent.prune (Ent.mergeL ls) keep bottom).length ≤ 6000) := Lib.hid (Nat.le_trans (List.length_filter_le _ _) (Nat.le_trans (merge_len ls) HSL.out))
      have HSEEN : Hid (∀ up, keep ≤ up → Ent.seen (Ent.prune (Ent.mergeL ls) keep bottom) up = Ent.seen (Ent.mergeL ls) up) := Lib.hid (fun up hu => Ent.prune_seen _ bottom hu)
      generalize Ent.prune (Ent.mergeL ls) keep bottom = P at *
      have HRISE := Lib.hid (fun (i : Nat) (h0 : 0 < i) (hi : i < (Cp.cut sz P [] 0).length) => Cp.cut_rise HPS.out h0 hi)
      have HNE := Lib.hid (Cp.cut_ne sz P [] 0)
      have HALL := Lib.hid (Cp.cut_all sz P)
      have HCL := Lib.hid (Cp.cut_len sz P [] 0)
      generalize Cp.cut sz P [] 0 = ps at *
      have HB4 := Lib.hid (hbl.out.trans (hb4.mono hbl.out.size))
      have HE4 := Lib.hid h4
      have hle4 := h4.le.1
      have HN4 := Lib.hid h4.1
      have hn4 : n4 ≤ 6000 := by rw [← h4.1]; exact Nat.le_trans HCL.out HPL.out
      clear hbl hb4 h4
      go_wp2_with fail
      go_loopw [14, 15] (fun av iv wr => ∃ (i m co : Nat) (ao : Option Addr), i ≤ n4 ∧ av = .slice ao m co ∧ iv = .int .i64 i ∧ Hid (AccE wr w4.heap.size ao m co (ps.take i).flatten) ∧ Hid (Below w4.heap.size w4 wr)) (fun _ iv _ => n4 - (intOf iv).toNat)
      case atStart => exact ⟨0, 0, 0, none, Nat.zero_le _, rfl, rfl, Lib.hid (by simpa using AccE.nil _ _), Lib.hid (Below.refl _ _)⟩
      case round =>
        obtain ⟨i, m, co, ao, hi, rfl, rfl, hac, hbl⟩ := hrel
        by_cases hin : i < n4
        · obtain ⟨b, off, ai, ni, ci, ea, hc, hes⟩ := HE4.out.get hin
          subst ea
          have hc' := cell_later hbl.out hc
          have HES := Lib.hid hes
          have hni : 0 < ni := by
            rw [← hes.1]
            refine List.length_pos_iff.2 (HNE.out _ (nth_mem (by rw [HN4.out]; exact hin)))
          have hml : m ≤ 6000 := by
            rw [← hac.out.len]
            have h1 := flatten_take_len ps i
            rw [HALL.out] at h1
            have := HPL.out
            omega
          have hnil : ni ≤ 6000 := by
            rw [← hes.1]
            have h1 := flatten_take_len ps (i + 1)
            rw [HALL.out, flatten_take (by rw [HN4.out]; exact hin), List.length_append] at h1
            have := HPL.out
            omega
          have HSN := Lib.hid (flatten_take (ls := ps) (i := i) (by rw [HN4.out]; exact hin))
          have t3 : ((ni : Int) == 0) = false := by simp; omega
          obtain ⟨b2, o2, a6, d6, ea, he0, hv0⟩ := hes.vals hni
          subst ea
          have k1 := (he0.below hbl.out).key
          rw [Nat.zero_mul, Nat.add_zero] at k1
          clear hes he0 hv0 hc
          cases i with
          | zero =>
            rw [Nat.add_zero] at hc'
            go_wp2_with fail
            refine wp_region_class (w0 := wr) (by kernel_rfl) (by kernel_rfl) (Below.refl _ _) ?_
            have m1 := BW.cell hc'
            have m2 := BW.cell k1
            repeat (first | go_big_quiet_step (fail))
            refine wpQuiet_nil ?_
            intro w7 hb7; replace hb7 := BW.of hb7
            have HB7 := Lib.hid (hbl.out.trans (hb7.mono hbl.out.size))
            have HA7 := Lib.hid (hac.out.below hb7)
            have hc7 := cell_later hb7 hc'
            clear hb7 hc' k1 m1 m2
            go_wp2_with (at_builtin; refine app_ents rfl _ _ rfl w4.heap.size rfl HA7.out rfl HES.out HB7.out (Nat.le_refl _) (by omega) HB7.out.size ?_; intro a9 c9 w9 h9 hb9 _; have H9 := Lib.hid h9; have HB9 := Lib.hid (HB7.out.trans hb9); clear h9 hb9)
            go_roundw
            case rel => exact ⟨0 + 1, m + ni, c9, a9, by omega, rfl, by go_num, by rw [HSN.out]; exact H9, HB9⟩
            case measure => simp [intOf]; omega
          | succ j =>
            have hjn : j < n4 := by omega
            obtain ⟨b', off', ap, np, cp, ea, hcp, hep⟩ := HE4.out.get hjn
            cases ea
            have hnp : 0 < np := by
              rw [← hep.1]
              refine List.length_pos_iff.2 (HNE.out _ (nth_mem (by rw [HN4.out]; exact hjn)))
            obtain ⟨q, rfl⟩ : ∃ q, np = q + 1 := ⟨np - 1, by omega⟩
            obtain ⟨b3, o3, a7, d7, ea, hel, hvl⟩ := hep.vals (Nat.lt_succ_self q)
            subst ea
            have k2 := (hel.below hbl.out).key
            have hcp' := cell_later hbl.out hcp
            have hr1 := HRISE.out (j + 1) (by omega) (by rw [HN4.out]; exact hin)
            rw [Nat.add_sub_cancel, hep.1, Nat.add_sub_cancel] at hr1
            have t4 : Op.bytesLess (bstr (nth (nth ps j) q).key).toList (bstr (nth (nth ps (j + 1)) 0).key).toList = true := by rw [bstr_list, bstr_list]; exact hr1
            have hql : q ≤ 9223372036854775807 := by have := hep.le; omega
            clear hcp hep hel hvl hr1
            generalize (nth (nth ps j) q).key = kx at *
            generalize (nth (nth ps (j + 1)) 0).key = ky at *
            go_wp2_with fail
            refine wp_region_class (w0 := wr) (by kernel_rfl) (by kernel_rfl) (Below.refl _ _) ?_
            have m1 := BW.cell hc'
            have m2 := BW.cell k1
            have m3 := BW.cell k2
            have m4 := BW.cell hcp'
            repeat (first | go_big_quiet_step (fail))
            refine wpQuiet_nil ?_
            intro w7 hb7; replace hb7 := BW.of hb7
            have HB7 := Lib.hid (hbl.out.trans (hb7.mono hbl.out.size))
            have HA7 := Lib.hid (hac.out.below hb7)
            have hc7 := cell_later hb7 hc'
            clear hb7 hc' k1 m1 m2 m3 m4 k2 hcp' t4
            go_wp2_with (at_builtin; refine app_ents rfl _ _ rfl w4.heap.size rfl HA7.out rfl HES.out HB7.out (Nat.le_refl _) (by omega) HB7.out.size ?_; intro a9 c9 w9 h9 hb9 _; have H9 := Lib.hid h9; have HB9 := Lib.hid (HB7.out.trans hb9); clear h9 hb9)
            go_roundw
            case rel => exact ⟨j + 1 + 1, m + ni, c9, a9, by omega, rfl, by go_num, by rw [HSN.out]; exact H9, HB9⟩
            case measure => simp [intOf]; omega
        · obtain rfl : n4 = i := by omega
          have e1 : (ps.take n4).flatten = P := by rw [← HN4.out, List.take_length]; exact HALL.out
          rw [e1] at hac
          have HB5 := Lib.hid (HB4.out.trans (hbl.out.mono HB4.out.size))
          have hml : m ≤ 6000 := by rw [← hac.out.len]; exact HPL.out
          clear e1 HRISE HNE HALL hbl
          obtain ⟨s, hs⟩ : ∃ s : Nat, s = keep + more := ⟨_, rfl⟩
          have hk64 := hk.lt
          have hm64 := hm.lt
          by_cases hov : keep + more < 18446744073709551616
          · have hw : IntKind.u64.wrap ((keep : Int) + (more : Int)) = (s : Int) := by rw [IntKind.wrap_u64]; omega
            have t8 : decide (s < keep) = false := decide_eq_false (by omega)
            have HUP : Hid (keep ≤ s) := Lib.hid (by omega)
            clear hs hov hk64 hm64 hk hm
            go_wp2_with fail
            refine (refmerge_any a n c ls _ (HE.out _ HB5.out) (by have := HSL.out; omega)).mono ?_
            rintro e w6 ⟨a6, n6, c6, rfl, h6, hb6⟩
            rw [(allR_yes HAR.out).1] at h6
            have HB6 := Lib.hid (HB5.out.trans (hb6.mono HB5.out.size))
            have HA6 := Lib.hid (hac.out.es.below hb6)
            have hn6 : n6 ≤ 6000 := by rw [← h6.1]; exact Nat.le_trans (merge_len ls) HSL.out
            have H6 := Lib.hid h6
            clear h6 hb6 hac
            go_wp2_with fail
            have hsn := refseen_e a6 n6 c6 (Ent.mergeL ls) s _ H6.out (by omega)
            unfold Ent.seenE Ent.erE at hsn
            rw [if_pos (Ent.rightB_iff.2 HMR.out), if_pos (Ent.rightB_iff.2 HMR.out)] at hsn
            refine hsn.mono ?_
            clear hsn
            rintro e w7 ⟨a7, n7, c7, rfl, h7, hb7⟩
            have HB7 := Lib.hid (HB6.out.trans (hb7.mono HB6.out.size))
            have HA7 := Lib.hid (HA6.out.below hb7)
            have H7 := Lib.hid h7.es
            clear h7 hb7 HA6
            go_wp2_with fail
            have hsn := refseen_e ao m co P s _ HA7.out (by omega)
            unfold Ent.seenE Ent.erE at hsn
            rw [if_pos (Ent.rightB_iff.2 HPR.out), if_pos (Ent.rightB_iff.2 HPR.out), HSEEN.out s HUP.out] at hsn
            refine hsn.mono ?_
            clear hsn
            rintro e w8 ⟨a8, n8, c8, rfl, h8, hb8⟩
            have HB8 := Lib.hid (HB7.out.trans (hb8.mono HB7.out.size))
            have H78 := Lib.hid (H7.out.below hb8)
            have H8 := Lib.hid h8.es
            clear h8 hb8
            go_wp2_with fail
            refine (srows_same _ _ _ _ _ _ _ _ H78.out H8.out).mono ?_
            rintro e w9 ⟨rfl, hb9⟩
            have HB9 := Lib.hid (HB8.out.trans (hb9.mono HB8.out.size))
            clear hb9
            go_wp2
            go_ret
            exact ⟨rfl, HB9.out⟩
          · obtain ⟨d, hd⟩ : ∃ d : Nat, d + 18446744073709551616 = keep + more := ⟨keep + more - 18446744073709551616, by omega⟩
            have hw : IntKind.u64.wrap ((keep : Int) + (more : Int)) = (d : Int) := by rw [IntKind.wrap_u64]; omega
            have t8 : decide (d < keep) = true := decide_eq_true (by omega)
            clear hs hov hk64 hm64 hk hm hd
            go_wp2_with fail
            refine (refmerge_any a n c ls _ (HE.out _ HB5.out) (by have := HSL.out; omega)).mono ?_
            rintro e w6 ⟨a6, n6, c6, rfl, h6, hb6⟩
            rw [(allR_yes HAR.out).1] at h6
            have HB6 := Lib.hid (HB5.out.trans (hb6.mono HB5.out.size))
            have HA6 := Lib.hid (hac.out.es.below hb6)
            have hn6 : n6 ≤ 6000 := by rw [← h6.1]; exact Nat.le_trans (merge_len ls) HSL.out
            have H6 := Lib.hid h6
            clear h6 hb6 hac
            go_wp2_with fail
            have hsn := refseen_e a6 n6 c6 (Ent.mergeL ls) keep _ H6.out (by omega)
            unfold Ent.seenE Ent.erE at hsn
            rw [if_pos (Ent.rightB_iff.2 HMR.out), if_pos (Ent.rightB_iff.2 HMR.out)] at hsn
            refine hsn.mono ?_
            clear hsn
            rintro e w7 ⟨a7, n7, c7, rfl, h7, hb7⟩
            have HB7 := Lib.hid (HB6.out.trans (hb7.mono HB6.out.size))
            have HA7 := Lib.hid (HA6.out.below hb7)
            have H7 := Lib.hid h7.es
            clear h7 hb7 HA6
            go_wp2_with fail
            have hsn := refseen_e ao m co P keep _ HA7.out (by omega)
            unfold Ent.seenE Ent.erE at hsn
            rw [if_pos (Ent.rightB_iff.2 HPR.out), if_pos (Ent.rightB_iff.2 HPR.out), HSEEN.out keep (Nat.le_refl _)] at hsn
            refine hsn.mono ?_
            clear hsn
            rintro e w8 ⟨a8, n8, c8, rfl, h8, hb8⟩
            have HB8 := Lib.hid (HB7.out.trans (hb8.mono HB7.out.size))
            have H78 := Lib.hid (H7.out.below hb8)
            have H8 := Lib.hid h8.es
            clear h8 hb8
            go_wp2_with fail
            refine (srows_same _ _ _ _ _ _ _ _ H78.out H8.out).mono ?_
            rintro e w9 ⟨rfl, hb9⟩
            have HB9 := Lib.hid (HB8.out.trans (hb9.mono HB8.out.size))
            clear hb9
            go_wp2
            go_ret
            exact ⟨rfl, HB9.out⟩
end Go.Proofs.Ytfcfipoldkjloaa
