/- compact.Size, compact.Run. -/
import Derived.Test.YtfcfipoldkjloaaCpB
set_option maxRecDepth 100000
set_option linter.unusedVariables false
set_option linter.unusedSimpArgs false
namespace Go.Proofs.Ytfcfipoldkjloaa
open Go.RowKit

/-! Plain. -/
theorem Cp.step_yes {size : Nat} {P : List Ent} {i f s : Nat} (hi : i < P.length) (hf : f ≤ i) (he : Cp.ends size (s + Cp.wt (nth P i)) (nth P i) (P.drop (i + 1)) = true) :
    Cp.cut size (P.drop i) ((P.take i).drop f) s = ((P.take (i + 1)).drop f) :: Cp.cut size (P.drop (i + 1)) ((P.take (i + 1)).drop (i + 1)) 0 := by
  rw [drop_nth hi, Cp.cut, if_pos he]
  have e2 : (P.take (i + 1)).drop (i + 1) = [] := List.drop_eq_nil_of_le (by simp; omega)
  rw [e2, take_snoc P hi, List.drop_append_of_le_length (by simp; omega)]
theorem Cp.step_no {size : Nat} {P : List Ent} {i f s : Nat} (hi : i < P.length) (hf : f ≤ i) (he : Cp.ends size (s + Cp.wt (nth P i)) (nth P i) (P.drop (i + 1)) = false) :
    Cp.cut size (P.drop i) ((P.take i).drop f) s = Cp.cut size (P.drop (i + 1)) ((P.take (i + 1)).drop f) (s + Cp.wt (nth P i)) := by
  rw [drop_nth hi, Cp.cut, if_neg (by rw [he]; simp)]
  congr 1
  rw [take_snoc P hi, List.drop_append_of_le_length (by simp; omega)]
theorem Cp.ends_last {size s : Nat} {P : List Ent} {i : Nat} (h : i + 1 = P.length) : Cp.ends size s (nth P i) (P.drop (i + 1)) = true := by
  rw [List.drop_eq_nil_of_le (by omega)]; rfl
theorem Cp.ends_next {size s : Nat} {P : List Ent} {i : Nat} (h : i + 1 < P.length) : Cp.ends size s (nth P i) (P.drop (i + 1)) = (decide (size ≤ s) && decide ((nth P (i + 1)).key ≠ (nth P i).key)) := by
  rw [drop_nth h]; rfl
theorem mergeL_right {ls : List (List Ent)} (h : Ent.allR ls = true) : Ent.Right (Ent.mergeL ls) := by
  have hp : ∀ l ∈ ls, l.Pairwise Ent.lt := fun l hl => right_pairwise (allR_mem h l hl)
  refine ⟨fun e he => ?_, Ent.merge_sorted hp⟩
  obtain ⟨l, hl, hx⟩ := Ent.InL_mem ((Ent.mem_merge hp e).1 he)
  exact (Ent.rightB_iff.1 (allR_mem h l hl)).1 e hx
theorem mergeL_mem {ls : List (List Ent)} (h : Ent.allR ls = true) {e : Ent} (he : e ∈ Ent.mergeL ls) : ∃ l ∈ ls, e ∈ l :=
  Ent.InL_mem ((Ent.mem_merge (fun l hl => right_pairwise (allR_mem h l hl)) e).1 he)
set_option maxHeartbeats 1000000 in
theorem size_any (e : Ent) (a : Option Addr) (c : Nat) (w : World) (h : Cp.wt e ≤ 1000000) :
    Calls Try.prog 24 #[ev e a c] w fun en w' => en = .returned (.int .i64 (Cp.wt e : Nat)) ∧ Below w.heap.size w w' := by
  have hsz : (bstr e.key).size = e.key.length := by simp [bstr, ByteArray.size]
  have HW : Hid (((e.key.length : Nat) : Int) + (e.val.length : Nat) + 16 = ((Cp.wt e : Nat) : Int)) := Lib.hid (by unfold Cp.wt; omega)
  have hb : e.key.length + e.val.length ≤ 1000000 := by unfold Cp.wt at h; omega
  clear h
  unfold ev
  go_enter Try.func24, Try.ntmps24
  go_wp2
  go_ret
  exact ⟨by rw [← HW.out]; rfl, below_alloc1 _ _⟩
/-- What Run hands back. -/
def RetPs (ps : List (List Ent)) (er : Int) (w : World) (e : Ending) (w' : World) : Prop := ∃ a n c, e = .returned (.tuple #[.slice a n c, .int .i64 er]) ∧ Ess w' a n c ps ∧ Below w.heap.size w w'
set_option maxHeartbeats 8000000 in
theorem run_any (a : Option Addr) (n c : Nat) (ls : List (List Ent)) (keep : Nat) (bottom : Bool) (size : Nat) (w : World) (h : Ess w a n c ls) (hsz : 1 ≤ size) (hsz2 : size ≤ 9223372036854775807)
    (hR : Ent.allR ls = true) (hn : n ≤ 1000000) (hv : ∀ l ∈ ls, ∀ e ∈ l, Cp.wt e ≤ 1000000) (hs : Ent.sumL ls ≤ 30000) :
    Calls Try.prog 9 #[.int .u64 keep, .bool bottom, .int .i64 size, .slice a n c] w (RetPs (Cp.cut size (Ent.prune (Ent.mergeL ls) keep bottom) [] 0) 0 w) := by
  have hle := h.le.1
  have HE := Lib.hid h
  have HY := Lib.hid (allR_yes hR)
  have hMR := mergeL_right hR
  have HRB : Hid (Ent.rightB (Ent.mergeL ls) = true) := Lib.hid (Ent.rightB_iff.2 hMR)
  have HMW : Hid (∀ e ∈ Ent.mergeL ls, Cp.wt e ≤ 1000000) := Lib.hid fun e he => by
    obtain ⟨l, hl, hx⟩ := mergeL_mem hR he
    exact hv l hl e hx
  have HV : Hid (∀ l ∈ ls, ∀ e ∈ l, e.val.length ≤ 1000000000) := Lib.hid fun l hl e he => by
    have := hv l hl e he; unfold Cp.wt at this; omega
  have HML : Hid ((Ent.mergeL ls).length ≤ 30000) := Lib.hid (Nat.le_trans (merge_len ls) hs)
  have HS := Lib.hid hs
  clear h hv hs hMR hR
  have t0 : decide ((size : Int) < 1) = false := decide_eq_false (by omega)
  go_enter Try.func9, Try.ntmps9
  go_wp2_with fail
  refine (merge_any a n c ls w HE.out hn HV.out (by have := HS.out; omega)).mono ?_
  rintro e w1 ⟨a1, n1, c1, rfl, ha1, hb1⟩
  rw [HY.out.1] at ha1
  rw [HY.out.2]
  have HB1 := Lib.hid hb1
  have HN1 : Hid (n1 ≤ 30000) := Lib.hid (by rw [← ha1.len]; exact HML.out)
  have HA1 := Lib.hid ha1.es
  clear ha1 hb1
  go_wp2_with fail
  have hpr := prune_e a1 n1 c1 (Ent.mergeL ls) keep bottom w1 HA1.out HN1.out (fun e he => by have := HMW.out e he; unfold Cp.wt at this; omega)
  unfold Ent.pruneE Ent.erE at hpr
  rw [if_pos HRB.out, if_pos HRB.out] at hpr
  refine hpr.mono ?_
  rintro e w2 ⟨a2, n2, c2, rfl, ha2, hb2⟩
  have HB2 := Lib.hid (HB1.out.trans (hb2.mono HB1.out.size))
  have hle2 := ha2.es.le
  have HPW : Hid (∀ e ∈ Ent.prune (Ent.mergeL ls) keep bottom, Cp.wt e ≤ 1000000) := Lib.hid fun e he => HMW.out e (List.mem_filter.1 he).1
  have hn2 : n2 ≤ 30000 := by
    rw [← ha2.len]
    exact Nat.le_trans (List.length_filter_le _ _) HML.out
  have HA2 := Lib.hid ha2.es
  have HN2 := Lib.hid ha2.len
  clear ha2 hb2
  generalize Ent.prune (Ent.mergeL ls) keep bottom = P at *
  have hcut0 : Cp.cut size P [] 0 = Cp.cut size P [] 0 := rfl
  obtain ⟨i0, hi0, hz0, hz1, hz2⟩ := info_parts infoE
  have HSL : Hid (∀ (f t : Nat) (z : Int), z = (t : Int) → f ≤ t → t ≤ n2 → ∀ W, (Instr.slice 26 (.slice a2 n2 c2) (some (.int .i64 (f : Int))) (some (.int .i64 z)) none).run Try.prog W = .ok (.slice (subAn a2 c2 f 4) (t - f) (c2 - f)) W) :=
    Lib.hid fun f t z hz h1 h2 W => run_slice_lh (P := Try.prog) Try.underlying26 hi0 hz1 a2 n2 c2 rfl hz h1 (by have := HA2.out.2.1; omega) W
  clear hcut0 hi0 hz0 hz1 hz2
  go_wp2_with fail
  go_loopw [12, 13, 14, 36] (fun o sv fv iv wr => ∃ (i f s m co : Nat) (ao : Option Addr) (lo : List (List Ent)), i ≤ n2 ∧ f ≤ i ∧ m ≤ i ∧ s ≤ i * 1000000 ∧ o = .slice ao m co ∧ sv = .int .i64 s ∧ fv = .int .i64 f ∧ iv = .int .i64 i ∧ Hid (Parts wr w2.heap.size ao m co lo) ∧ Hid (Below w2.heap.size w2 wr) ∧ Hid (lo ++ Cp.cut size (P.drop i) ((P.take i).drop f) s = Cp.cut size P [] 0)) (fun _ _ _ iv _ => n2 - (intOf iv).toNat)
  case atStart => exact ⟨0, 0, 0, 0, 0, none, [], Nat.zero_le _, Nat.le_refl _, Nat.le_refl _, by omega, rfl, rfl, rfl, rfl, Lib.hid (Parts.nil _ _), Lib.hid (Below.refl _ _), Lib.hid rfl⟩
  case round =>
    obtain ⟨i, f, s, m, co, ao, lo, hi, hfi, hmi, hsb, rfl, rfl, rfl, rfl, hac, hbl, hto⟩ := hrel
    by_cases hin : i < n2
    · obtain ⟨b1, o1, a3, d3, ea, he3, hv3⟩ := HA2.out.vals hin
      subst ea
      have hwt : Cp.wt (nth P i) ≤ 1000000 := HPW.out _ (by rw [nth_eq _ (by rw [HN2.out]; exact hin)]; exact List.getElem_mem _)
      have he4 := he3.below hbl.out
      have r1 := he4.key
      have r2 := he4.seq
      have r3 := he4.gone
      have r4 := he4.val
      clear he3 hv3 he4
      go_wp2_with fail
      refine (size_any (nth P i) a3 d3 _ hwt).mono ?_
      rintro e w4 ⟨rfl, hb4⟩
      have HB4 := Lib.hid ((hbl.out.alloc hbl.out.size _).trans (hb4.mono (le_alloc hbl.out.size)))
      have HC4 := Lib.hid (hac.out.below ((below_alloc1 wr _).trans (hb4.mono (le_alloc (Nat.le_refl _)))))
      have p1 := (load_box wr (nth P i) a3 d3).key
      replace p1 := cell_later hb4 p1
      clear hb4 r1 r2 r3 r4 hac hbl
      by_cases hlast : i + 1 = n2
      · have t1 : ((i : Int) + 1 == (n2 : Int)) = true := by simp; omega
        have HST := Lib.hid (by have := hto.out; rw [Cp.step_yes (by rw [HN2.out]; exact hin) hfi (Cp.ends_last (by rw [HN2.out]; exact hlast))] at this; rw [List.append_cons] at this; exact this : (lo ++ [(P.take (i + 1)).drop f]) ++ Cp.cut size (P.drop (i + 1)) ((P.take (i + 1)).drop (i + 1)) 0 = Cp.cut size P [] 0)
        clear hto hlast
        generalize Cp.wt (nth P i) = k at *
        go_wp2_with fail
        refine wp_region_class (by kernel_rfl) (by kernel_rfl) (Below.refl _ _) ?_
        have m1 := BW.cell p1
        repeat (first | go_big_quiet_step (fail))
        refine wpQuiet_nil ?_
        intro w7 hb7; replace hb7 := BW.of hb7
        have HB7 := Lib.hid (HB4.out.trans (hb7.mono HB4.out.size))
        have HC7 := Lib.hid (HC4.out.below hb7)
        clear hb7 p1 m1
        have hsl : ∀ W, (Instr.slice 26 (.slice (some ⟨b1, o1, none⟩) n2 c2) (some (.int .i64 (f : Int))) (some (.int .i64 ((i : Int) + 1))) none).run Try.prog W = .ok (.slice (subAn (some ⟨b1, o1, none⟩) c2 f 4) (i + 1 - f) (c2 - f)) W := HSL.out f (i + 1) ((i : Int) + 1) (by simp) (by omega) hin
        go_wp2_with fail
        refine (clonees_any _ _ _ ((P.take (i + 1)).drop f) w2 _ (HA2.out.part (by omega) hin (Nat.le_trans hin HA2.out.2.1) (Nat.le_refl _)) HB7.out (by omega)).mono ?_
        rintro e w8 ⟨a5, c5, rfl, h5, hb8⟩
        have H5 : Hid (AccO w8 w2.heap.size w2.heap.size a5 (i + 1 - f) c5 ((P.take (i + 1)).drop f)) := Lib.hid (h5.mono HB7.out.size)
        have HC8 := Lib.hid (HC7.out.below hb8)
        have HB8 := Lib.hid (HB7.out.trans (hb8.mono HB7.out.size))
        clear h5 hb8 HC7 HB7 hsl
        go_wp2_with (at_builtin; refine app_part rfl _ _ rfl w2.heap.size rfl (HC8.out.below (below_alloc1 _ _)) rfl (by rw [cell_of_row _ _ _ _ _ _ (heap_alloc_new _ _)]; rfl) (H5.out.below (below_alloc1 _ _)) (by omega) (le_alloc HB8.out.size) ?_; intro a9 c9 w9 h9 hb9 _; have H9 := Lib.hid h9; have HB9 := Lib.hid ((HB8.out.alloc HB8.out.size _).trans hb9); clear h9 hb9)
        go_roundw
        case rel => exact ⟨i + 1, i + 1, 0, m + 1, c9, a9, _, hin, Nat.le_refl _, by omega, by omega, rfl, rfl, by go_num, by go_num, H9, HB9, HST⟩
        case measure => simp [intOf]; omega
      · have hnext : i + 1 < n2 := by omega
        have t1 : ((i : Int) + 1 == (n2 : Int)) = false := by simp; omega
        obtain ⟨b2, o2, a6, d6, ea, he6, hv6⟩ := HA2.out.vals hnext
        cases ea
        have q1 := (he6.below HB4.out).key
        clear he6 hv6
        have q1' : w4.cell? ⟨b1, o1 + (i + 1) * 4, none⟩ = some (.string (bstr (nth P (i + 1)).key)) := q1
        clear q1
        have hen := fun s => Cp.ends_next (size := size) (s := s) (P := P) (i := i) (by rw [HN2.out]; exact hnext)
        by_cases hsz3 : size ≤ s + Cp.wt (nth P i)
        · by_cases hky : (nth P (i + 1)).key = (nth P i).key
          · have HST := Lib.hid (by have := hto.out; rw [Cp.step_no (by rw [HN2.out]; exact hin) hfi (by rw [hen, hky]; simp)] at this; exact this : lo ++ Cp.cut size (P.drop (i + 1)) ((P.take (i + 1)).drop f) (s + Cp.wt (nth P i)) = Cp.cut size P [] 0)
            have t2 : decide ((size : Int) ≤ (s : Int) + (Cp.wt (nth P i) : Nat)) = true := decide_eq_true (by omega)
            have t3 : decide ((nth P (i + 1)).key = (nth P i).key) = true := decide_eq_true hky
            clear hto hen hky hsz3
            generalize Cp.wt (nth P i) = k at *
            go_wp2_with fail
            refine wp_region_class (by kernel_rfl) (by kernel_rfl) (Below.refl _ _) ?_
            have m1 := BW.cell p1
            have m2 := BW.cell q1'
            repeat (first | go_big_quiet_step (fail))
            refine wpQuiet_nil ?_
            intro w7 hb7; replace hb7 := BW.of hb7
            have HB7 := Lib.hid (HB4.out.trans (hb7.mono HB4.out.size))
            have HC7 := Lib.hid (HC4.out.below hb7)
            clear hb7 p1 m1 q1' m2
            go_wp2
            go_roundw
            case rel => exact ⟨i + 1, f, s + k, m, co, ao, lo, hin, by omega, by omega, by omega, rfl, by go_num, rfl, by go_num, HC7, HB7, HST⟩
            case measure => simp [intOf]; omega
          · have HST := Lib.hid (by have := hto.out; rw [Cp.step_yes (by rw [HN2.out]; exact hin) hfi (by rw [hen]; simp [hky, hsz3])] at this; rw [List.append_cons] at this; exact this : (lo ++ [(P.take (i + 1)).drop f]) ++ Cp.cut size (P.drop (i + 1)) ((P.take (i + 1)).drop (i + 1)) 0 = Cp.cut size P [] 0)
            have t2 : decide ((size : Int) ≤ (s : Int) + (Cp.wt (nth P i) : Nat)) = true := decide_eq_true (by omega)
            have t3 : decide ((nth P (i + 1)).key = (nth P i).key) = false := decide_eq_false hky
            clear hto hen hky hsz3
            generalize Cp.wt (nth P i) = k at *
            go_wp2_with fail
            refine wp_region_class (by kernel_rfl) (by kernel_rfl) (Below.refl _ _) ?_
            have m1 := BW.cell p1
            have m2 := BW.cell q1'
            repeat (first | go_big_quiet_step (fail))
            refine wpQuiet_nil ?_
            intro w7 hb7; replace hb7 := BW.of hb7
            have HB7 := Lib.hid (HB4.out.trans (hb7.mono HB4.out.size))
            have HC7 := Lib.hid (HC4.out.below hb7)
            clear hb7 p1 m1 q1' m2
            have hsl : ∀ W, (Instr.slice 26 (.slice (some ⟨b1, o1, none⟩) n2 c2) (some (.int .i64 (f : Int))) (some (.int .i64 ((i : Int) + 1))) none).run Try.prog W = .ok (.slice (subAn (some ⟨b1, o1, none⟩) c2 f 4) (i + 1 - f) (c2 - f)) W := HSL.out f (i + 1) ((i : Int) + 1) (by simp) (by omega) hin
            go_wp2_with fail
            refine (clonees_any _ _ _ ((P.take (i + 1)).drop f) w2 _ (HA2.out.part (by omega) hin (Nat.le_trans hin HA2.out.2.1) (Nat.le_refl _)) HB7.out (by omega)).mono ?_
            rintro e w8 ⟨a5, c5, rfl, h5, hb8⟩
            have H5 : Hid (AccO w8 w2.heap.size w2.heap.size a5 (i + 1 - f) c5 ((P.take (i + 1)).drop f)) := Lib.hid (h5.mono HB7.out.size)
            have HC8 := Lib.hid (HC7.out.below hb8)
            have HB8 := Lib.hid (HB7.out.trans (hb8.mono HB7.out.size))
            clear h5 hb8 HC7 HB7 hsl
            go_wp2_with (at_builtin; refine app_part rfl _ _ rfl w2.heap.size rfl (HC8.out.below (below_alloc1 _ _)) rfl (by rw [cell_of_row _ _ _ _ _ _ (heap_alloc_new _ _)]; rfl) (H5.out.below (below_alloc1 _ _)) (by omega) (le_alloc HB8.out.size) ?_; intro a9 c9 w9 h9 hb9 _; have H9 := Lib.hid h9; have HB9 := Lib.hid ((HB8.out.alloc HB8.out.size _).trans hb9); clear h9 hb9)
            go_roundw
            case rel => exact ⟨i + 1, i + 1, 0, m + 1, c9, a9, _, hin, Nat.le_refl _, by omega, by omega, rfl, rfl, by go_num, by go_num, H9, HB9, HST⟩
            case measure => simp [intOf]; omega
        · have HST := Lib.hid (by have := hto.out; rw [Cp.step_no (by rw [HN2.out]; exact hin) hfi (by rw [hen]; simp [hsz3])] at this; exact this : lo ++ Cp.cut size (P.drop (i + 1)) ((P.take (i + 1)).drop f) (s + Cp.wt (nth P i)) = Cp.cut size P [] 0)
          have t2 : decide ((size : Int) ≤ (s : Int) + (Cp.wt (nth P i) : Nat)) = false := decide_eq_false (by omega)
          clear hto hen hsz3 q1'
          generalize Cp.wt (nth P i) = k at *
          go_wp2_with fail
          refine wp_region_class (by kernel_rfl) (by kernel_rfl) (Below.refl _ _) ?_
          have m1 := BW.cell p1
          repeat (first | go_big_quiet_step (fail))
          refine wpQuiet_nil ?_
          intro w7 hb7; replace hb7 := BW.of hb7
          have HB7 := Lib.hid (HB4.out.trans (hb7.mono HB4.out.size))
          have HC7 := Lib.hid (HC4.out.below hb7)
          clear hb7 p1 m1
          go_wp2
          go_roundw
          case rel => exact ⟨i + 1, f, s + k, m, co, ao, lo, hin, by omega, by omega, by omega, rfl, by go_num, rfl, by go_num, HC7, HB7, HST⟩
          case measure => simp [intOf]; omega
    · obtain rfl : n2 = i := by omega
      have hend : lo = Cp.cut size P [] 0 := by
        have := hto.out
        rw [List.drop_eq_nil_of_le (by rw [HN2.out]; exact Nat.le_refl _)] at this
        simpa [Cp.cut] using this
      have HP : Hid (RetPs (Cp.cut size P [] 0) 0 w (.returned (.tuple #[.slice ao m co, .int .i64 0])) wr) := Lib.hid ⟨ao, m, co, rfl, by rw [← hend]; exact hac.out.ess, HB2.out.trans (hbl.out.mono HB2.out.size)⟩
      clear hend
      go_wp2
      go_ret2
      exact HP.out
end Go.Proofs.Ytfcfipoldkjloaa
