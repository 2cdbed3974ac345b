/- compact.Size, compact.Run. -/
import Derived.Test.YtlipgaefflecaaaZCgV
import Derived.Test.YtlipgaefflecaaaZOth
import Derived.Test.YtlipgaefflecaaaZCaI
import Derived.Maps.OwnSet
import Derived.Maps.OwnOps
import Derived.Test.YtlipgaefflecaaaZCgE
import Derived.Test.YtlipgaefflecaaaZCaH
set_option linter.unusedVariables false
set_option linter.unusedSimpArgs false
section
set_option maxRecDepth 100000
set_option linter.unusedVariables false
set_option linter.unusedSimpArgs false
namespace Go.Proofs.Ytlipgaefflecaaa
open Go.RowKit

/-! Plain. -/
theorem Cp.step_yes {size : Nat} {P : List Ent} {i f s : Nat} (hi : i < P.length) (hf : f ≤ i) (he : Cp.ends size (s + Cp.wt (nth P i)) (nth P i) (P.drop (i + 1)) = true) :
    Cp.cut size (P.drop i) ((P.take i).drop f) s = ((P.take (i + 1)).drop f) :: Cp.cut size (P.drop (i + 1)) ((P.take (i + 1)).drop (i + 1)) 0 := by
  rw [drop_nth hi, Cp.cut, if_pos he]
  have e2 : (P.take (i + 1)).drop (i + 1) = [] := List.drop_eq_nil_of_le (by simp; omega)
  rw [e2, take_snoc P hi, List.drop_append_of_le_length (by simp; omega)]
theorem Cp.step_no {size : Nat} {P : List Ent} {i f s : Nat} (hi : i < P.length) (hf : f ≤ i) (he : Cp.ends size (s + Cp.wt (nth P i)) (nth P i) (P.drop (i + 1)) = false) :
    Cp.cut size (P.drop i) ((P.take i).drop f) s = Cp.cut size (P.drop (i + 1)) ((P.take (i + 1)).drop f) (s + Cp.wt (nth P i)) := by
  rw [drop_nth hi, Cp.cut, if_neg (by rw [he]; simp)]
  congr 1
  rw [take_snoc P hi, List.drop_append_of_le_length (by simp; omega)]
theorem Cp.ends_last {size s : Nat} {P : List Ent} {i : Nat} (h : i + 1 = P.length) : Cp.ends size s (nth P i) (P.drop (i + 1)) = true := by
  rw [List.drop_eq_nil_of_le (by omega)]; rfl
theorem Cp.ends_next {size s : Nat} {P : List Ent} {i : Nat} (h : i + 1 < P.length) : Cp.ends size s (nth P i) (P.drop (i + 1)) = (decide (size ≤ s) && decide ((nth P (i + 1)).key ≠ (nth P i).key)) := by
  rw [drop_nth h]; rfl
theorem mergeL_right {ls : List (List Ent)} (h : Ent.allR ls = true) : Ent.Right (Ent.mergeL ls) := by
  have hp : ∀ l ∈ ls, l.Pairwise Ent.lt := fun l hl => right_pairwise (allR_mem h l hl)
  refine ⟨fun e he => ?_, Ent.merge_sorted hp⟩
  obtain ⟨l, hl, hx⟩ := Ent.InL_mem ((Ent.mem_merge hp e).1 he)
  exact (Ent.rightB_iff.1 (allR_mem h l hl)).1 e hx
theorem mergeL_mem {ls : List (List Ent)} (h : Ent.allR ls = true) {e : Ent} (he : e ∈ Ent.mergeL ls) : ∃ l ∈ ls, e ∈ l :=
  Ent.InL_mem ((Ent.mem_merge (fun l hl => right_pairwise (allR_mem h l hl)) e).1 he)
set_option maxHeartbeats 1000000 in
theorem size_any (e : Ent) (a : Option Addr) (c : Nat) (w : World) (h : Cp.wt e ≤ 1000000) :
    Calls Try.prog 16 #[ev e a c] w fun en w' => en = .returned (.int .i64 (Cp.wt e : Nat)) ∧ Below w.heap.size w w' := by
  have hsz : (bstr e.key).size = e.key.length := by simp [bstr, ByteArray.size]
  have HW : Hid (((e.key.length : Nat) : Int) + (e.val.length : Nat) + 16 = ((Cp.wt e : Nat) : Int)) := Lib.hid (by unfold Cp.wt; omega)
  have hb : e.key.length + e.val.length ≤ 1000000 := by unfold Cp.wt at h; omega
  clear h
  unfold ev
  go_enter Try.func16, Try.ntmps16
  go_wp2
  go_ret
  exact ⟨by rw [← HW.out]; rfl, below_alloc1 _ _⟩
/-- What Run hands back. -/
def RetPs (ps : List (List Ent)) (er : Int) (w : World) (e : Ending) (w' : World) : Prop := ∃ a n c, e = .returned (.tuple #[.slice a n c, .int .i64 er]) ∧ Ess w' a n c ps ∧ Below w.heap.size w w'
set_option maxHeartbeats 8000000 in
theorem run_any (a : Option Addr) (n c : Nat) (ls : List (List Ent)) (keep : Nat) (bottom : Bool) (size : Nat) (w : World) (h : Ess w a n c ls) (hsz : 1 ≤ size) (hsz2 : size ≤ 9223372036854775807)
    (hR : Ent.allR ls = true) (hn : n ≤ 1000000) (hv : ∀ l ∈ ls, ∀ e ∈ l, Cp.wt e ≤ 1000000) (hs : Ent.sumL ls ≤ 30000) :
    Calls Try.prog 13 #[.int .u64 keep, .bool bottom, .int .i64 size, .slice a n c] w (RetPs (Cp.cut size (Ent.prune (Ent.mergeL ls) keep bottom) [] 0) 0 w) := by
  have hle := h.le.1
  have HE := Lib.hid h
  have HY := Lib.hid (allR_yes hR)
  have hMR := mergeL_right hR
  have HRB : Hid (Ent.rightB (Ent.mergeL ls) = true) := Lib.hid (Ent.rightB_iff.2 hMR)
  have HMW : Hid (∀ e ∈ Ent.mergeL ls, Cp.wt e ≤ 1000000) := Lib.hid fun e he => by
    obtain ⟨l, hl, hx⟩ := mergeL_mem hR he
    exact hv l hl e hx
  have HV : Hid (∀ l ∈ ls, ∀ e ∈ l, e.val.length ≤ 1000000000) := Lib.hid fun l hl e he => by
    have := hv l hl e he; unfold Cp.wt at this; omega
  have HML : Hid ((Ent.mergeL ls).length ≤ 30000) := Lib.hid (Nat.le_trans (merge_len ls) hs)
  have HS := Lib.hid hs
  clear h hv hs hMR hR
  have t0 : decide ((size : Int) < 1) = false := decide_eq_false (by omega)
  go_enter Try.func13, Try.ntmps13
  go_wp2_with fail
  refine (merge_any a n c ls w HE.out hn HV.out (by have := HS.out; omega)).mono ?_
  rintro e w1 ⟨a1, n1, c1, rfl, ha1, hb1⟩
  rw [HY.out.1] at ha1
  rw [HY.out.2]
  have HB1 := Lib.hid hb1
  have HN1 : Hid (n1 ≤ 30000) := Lib.hid (by rw [← ha1.len]; exact HML.out)
  have HA1 := Lib.hid ha1.es
  clear ha1 hb1
  go_wp2_with fail
  have hpr := prune_e a1 n1 c1 (Ent.mergeL ls) keep bottom w1 HA1.out HN1.out (fun e he => by have := HMW.out e he; unfold Cp.wt at this; omega)
  unfold Ent.pruneE Ent.erE at hpr
  rw [if_pos HRB.out, if_pos HRB.out] at hpr
  refine hpr.mono ?_
  rintro e w2 ⟨a2, n2, c2, rfl, ha2, hb2⟩
  have HB2 := Lib.hid (HB1.out.trans (hb2.mono HB1.out.size))
  have hle2 := ha2.es.le
  have HPW : Hid (∀ e ∈ Ent.prune (Ent.mergeL ls) keep bottom, Cp.wt e ≤ 1000000) := Lib.hid fun e he => HMW.out e (List.mem_filter.1 he).1
  have hn2 : n2 ≤ 30000 := by
    rw [← ha2.len]
    exact Nat.le_trans (List.length_filter_le _ _) HML.out
  have HA2 := Lib.hid ha2.es
  have HN2 := Lib.hid ha2.len
  clear ha2 hb2
  generalize Ent.prune (Ent.mergeL ls) keep bottom = P at *
  have hcut0 : Cp.cut size P [] 0 = Cp.cut size P [] 0 := rfl
  obtain ⟨i0, hi0, hz0, hz1, hz2⟩ := info_parts infoE
  have HSL : Hid (∀ (f t : Nat) (z : Int), z = (t : Int) → f ≤ t → t ≤ n2 → ∀ W, (Instr.slice 33 (.slice a2 n2 c2) (some (.int .i64 (f : Int))) (some (.int .i64 z)) none).run Try.prog W = .ok (.slice (subAn a2 c2 f 4) (t - f) (c2 - f)) W) :=
    Lib.hid fun f t z hz h1 h2 W => run_slice_lh (P := Try.prog) Try.underlying33 hi0 hz1 a2 n2 c2 rfl hz h1 (by have := HA2.out.2.1; omega) W
  clear hcut0 hi0 hz0 hz1 hz2
  go_wp2_with fail
  go_loopw [12, 13, 14, 36] (fun o sv fv iv wr => ∃ (i f s m co : Nat) (ao : Option Addr) (lo : List (List Ent)), i ≤ n2 ∧ f ≤ i ∧ m ≤ i ∧ s ≤ i * 1000000 ∧ o = .slice ao m co ∧ sv = .int .i64 s ∧ fv = .int .i64 f ∧ iv = .int .i64 i ∧ Hid (Parts wr w2.heap.size ao m co lo) ∧ Hid (Below w2.heap.size w2 wr) ∧ Hid (lo ++ Cp.cut size (P.drop i) ((P.take i).drop f) s = Cp.cut size P [] 0)) (fun _ _ _ iv _ => n2 - (intOf iv).toNat)
  case atStart => exact ⟨0, 0, 0, 0, 0, none, [], Nat.zero_le _, Nat.le_refl _, Nat.le_refl _, by omega, rfl, rfl, rfl, rfl, Lib.hid (Parts.nil _ _), Lib.hid (Below.refl _ _), Lib.hid rfl⟩
  case round =>
    obtain ⟨i, f, s, m, co, ao, lo, hi, hfi, hmi, hsb, rfl, rfl, rfl, rfl, hac, hbl, hto⟩ := hrel
    by_cases hin : i < n2
    · obtain ⟨b1, o1, a3, d3, ea, he3, hv3⟩ := HA2.out.vals hin
      subst ea
      have hwt : Cp.wt (nth P i) ≤ 1000000 := HPW.out _ (by rw [nth_eq _ (by rw [HN2.out]; exact hin)]; exact List.getElem_mem _)
      have he4 := he3.below hbl.out
      have r1 := he4.key
      have r2 := he4.seq
      have r3 := he4.gone
      have r4 := he4.val
      clear he3 hv3 he4
      go_wp2_with fail
      refine (size_any (nth P i) a3 d3 _ hwt).mono ?_
      rintro e w4 ⟨rfl, hb4⟩
      have HB4 := Lib.hid ((hbl.out.alloc hbl.out.size _).trans (hb4.mono (le_alloc hbl.out.size)))
      have HC4 := Lib.hid (hac.out.below ((below_alloc1 wr _).trans (hb4.mono (le_alloc (Nat.le_refl _)))))
      have p1 := (load_box wr (nth P i) a3 d3).key
      replace p1 := cell_later hb4 p1
      clear hb4 r1 r2 r3 r4 hac hbl
      by_cases hlast : i + 1 = n2
      · have t1 : ((i : Int) + 1 == (n2 : Int)) = true := by simp; omega
        have HST := Lib.hid (by have := hto.out; rw [Cp.step_yes (by rw [HN2.out]; exact hin) hfi (Cp.ends_last (by rw [HN2.out]; exact hlast))] at this; rw [List.append_cons] at this; exact this : (lo ++ [(P.take (i + 1)).drop f]) ++ Cp.cut size (P.drop (i + 1)) ((P.take (i + 1)).drop (i + 1)) 0 = Cp.cut size P [] 0)
        clear hto hlast
        generalize Cp.wt (nth P i) = k at *
        go_wp2_with fail
        refine wp_region_class (by kernel_rfl) (by kernel_rfl) (Below.refl _ _) ?_
        have m1 := BW.cell p1
        repeat (first | go_big_quiet_step (fail))
        refine wpQuiet_nil ?_
        intro w7 hb7; replace hb7 := BW.of hb7
        have HB7 := Lib.hid (HB4.out.trans (hb7.mono HB4.out.size))
        have HC7 := Lib.hid (HC4.out.below hb7)
        clear hb7 p1 m1
        have hsl : ∀ W, (Instr.slice 33 (.slice (some ⟨b1, o1, none⟩) n2 c2) (some (.int .i64 (f : Int))) (some (.int .i64 ((i : Int) + 1))) none).run Try.prog W = .ok (.slice (subAn (some ⟨b1, o1, none⟩) c2 f 4) (i + 1 - f) (c2 - f)) W := HSL.out f (i + 1) ((i : Int) + 1) (by simp) (by omega) hin
        go_wp2_with fail
        refine (clonees_any _ _ _ ((P.take (i + 1)).drop f) w2 _ (HA2.out.part (by omega) hin (Nat.le_trans hin HA2.out.2.1) (Nat.le_refl _)) HB7.out (by omega)).mono ?_
        rintro e w8 ⟨a5, c5, rfl, h5, hb8⟩
        have H5 : Hid (AccO w8 w2.heap.size w2.heap.size a5 (i + 1 - f) c5 ((P.take (i + 1)).drop f)) := Lib.hid (h5.mono HB7.out.size)
        have HC8 := Lib.hid (HC7.out.below hb8)
        have HB8 := Lib.hid (HB7.out.trans (hb8.mono HB7.out.size))
        clear h5 hb8 HC7 HB7 hsl
        go_wp2_with (at_builtin; refine app_part rfl _ _ rfl w2.heap.size rfl (HC8.out.below (below_alloc1 _ _)) rfl (by rw [cell_of_row _ _ _ _ _ _ (heap_alloc_new _ _)]; rfl) (H5.out.below (below_alloc1 _ _)) (by omega) (le_alloc HB8.out.size) ?_; intro a9 c9 w9 h9 hb9 _; have H9 := Lib.hid h9; have HB9 := Lib.hid ((HB8.out.alloc HB8.out.size _).trans hb9); clear h9 hb9)
        go_roundw
        case rel => exact ⟨i + 1, i + 1, 0, m + 1, c9, a9, _, hin, Nat.le_refl _, by omega, by omega, rfl, rfl, by go_num, by go_num, H9, HB9, HST⟩
        case measure => simp [intOf]; omega
      · have hnext : i + 1 < n2 := by omega
        have t1 : ((i : Int) + 1 == (n2 : Int)) = false := by simp; omega
        obtain ⟨b2, o2, a6, d6, ea, he6, hv6⟩ := HA2.out.vals hnext
        cases ea
        have q1 := (he6.below HB4.out).key
        clear he6 hv6
        have q1' : w4.cell? ⟨b1, o1 + (i + 1) * 4, none⟩ = some (.string (bstr (nth P (i + 1)).key)) := q1
        clear q1
        have hen := fun s => Cp.ends_next (size := size) (s := s) (P := P) (i := i) (by rw [HN2.out]; exact hnext)
        by_cases hsz3 : size ≤ s + Cp.wt (nth P i)
        · by_cases hky : (nth P (i + 1)).key = (nth P i).key
          · have HST := Lib.hid (by have := hto.out; rw [Cp.step_no (by rw [HN2.out]; exact hin) hfi (by rw [hen, hky]; simp)] at this; exact this : lo ++ Cp.cut size (P.drop (i + 1)) ((P.take (i + 1)).drop f) (s + Cp.wt (nth P i)) = Cp.cut size P [] 0)
            have t2 : decide ((size : Int) ≤ (s : Int) + (Cp.wt (nth P i) : Nat)) = true := decide_eq_true (by omega)
            have t3 : decide ((nth P (i + 1)).key = (nth P i).key) = true := decide_eq_true hky
            clear hto hen hky hsz3
            generalize Cp.wt (nth P i) = k at *
            go_wp2_with fail
            refine wp_region_class (by kernel_rfl) (by kernel_rfl) (Below.refl _ _) ?_
            have m1 := BW.cell p1
            have m2 := BW.cell q1'
            repeat (first | go_big_quiet_step (fail))
            refine wpQuiet_nil ?_
            intro w7 hb7; replace hb7 := BW.of hb7
            have HB7 := Lib.hid (HB4.out.trans (hb7.mono HB4.out.size))
            have HC7 := Lib.hid (HC4.out.below hb7)
            clear hb7 p1 m1 q1' m2
            go_wp2
            go_roundw
            case rel => exact ⟨i + 1, f, s + k, m, co, ao, lo, hin, by omega, by omega, by omega, rfl, by go_num, rfl, by go_num, HC7, HB7, HST⟩
            case measure => simp [intOf]; omega
          · have HST := Lib.hid (by have := hto.out; rw [Cp.step_yes (by rw [HN2.out]; exact hin) hfi (by rw [hen]; simp [hky, hsz3])] at this; rw [List.append_cons] at this; exact this : (lo ++ [(P.take (i + 1)).drop f]) ++ Cp.cut size (P.drop (i + 1)) ((P.take (i + 1)).drop (i + 1)) 0 = Cp.cut size P [] 0)
            have t2 : decide ((size : Int) ≤ (s : Int) + (Cp.wt (nth P i) : Nat)) = true := decide_eq_true (by omega)
            have t3 : decide ((nth P (i + 1)).key = (nth P i).key) = false := decide_eq_false hky
            clear hto hen hky hsz3
            generalize Cp.wt (nth P i) = k at *
            go_wp2_with fail
            refine wp_region_class (by kernel_rfl) (by kernel_rfl) (Below.refl _ _) ?_
            have m1 := BW.cell p1
            have m2 := BW.cell q1'
            repeat (first | go_big_quiet_step (fail))
            refine wpQuiet_nil ?_
            intro w7 hb7; replace hb7 := BW.of hb7
            have HB7 := Lib.hid (HB4.out.trans (hb7.mono HB4.out.size))
            have HC7 := Lib.hid (HC4.out.below hb7)
            clear hb7 p1 m1 q1' m2
            have hsl : ∀ W, (Instr.slice 33 (.slice (some ⟨b1, o1, none⟩) n2 c2) (some (.int .i64 (f : Int))) (some (.int .i64 ((i : Int) + 1))) none).run Try.prog W = .ok (.slice (subAn (some ⟨b1, o1, none⟩) c2 f 4) (i + 1 - f) (c2 - f)) W := HSL.out f (i + 1) ((i : Int) + 1) (by simp) (by omega) hin
            go_wp2_with fail
            refine (clonees_any _ _ _ ((P.take (i + 1)).drop f) w2 _ (HA2.out.part (by omega) hin (Nat.le_trans hin HA2.out.2.1) (Nat.le_refl _)) HB7.out (by omega)).mono ?_
            rintro e w8 ⟨a5, c5, rfl, h5, hb8⟩
            have H5 : Hid (AccO w8 w2.heap.size w2.heap.size a5 (i + 1 - f) c5 ((P.take (i + 1)).drop f)) := Lib.hid (h5.mono HB7.out.size)
            have HC8 := Lib.hid (HC7.out.below hb8)
            have HB8 := Lib.hid (HB7.out.trans (hb8.mono HB7.out.size))
            clear h5 hb8 HC7 HB7 hsl
            go_wp2_with (at_builtin; refine app_part rfl _ _ rfl w2.heap.size rfl (HC8.out.below (below_alloc1 _ _)) rfl (by rw [cell_of_row _ _ _ _ _ _ (heap_alloc_new _ _)]; rfl) (H5.out.below (below_alloc1 _ _)) (by omega) (le_alloc HB8.out.size) ?_; intro a9 c9 w9 h9 hb9 _; have H9 := Lib.hid h9; have HB9 := Lib.hid ((HB8.out.alloc HB8.out.size _).trans hb9); clear h9 hb9)
            go_roundw
            case rel => exact ⟨i + 1, i + 1, 0, m + 1, c9, a9, _, hin, Nat.le_refl _, by omega, by omega, rfl, rfl, by go_num, by go_num, H9, HB9, HST⟩
            case measure => simp [intOf]; omega
        · have HST := Lib.hid (by have := hto.out; rw [Cp.step_no (by rw [HN2.out]; exact hin) hfi (by rw [hen]; simp [hsz3])] at this; exact this : lo ++ Cp.cut size (P.drop (i + 1)) ((P.take (i + 1)).drop f) (s + Cp.wt (nth P i)) = Cp.cut size P [] 0)
          have t2 : decide ((size : Int) ≤ (s : Int) + (Cp.wt (nth P i) : Nat)) = false := decide_eq_false (by omega)
          clear hto hen hsz3 q1'
          generalize Cp.wt (nth P i) = k at *
          go_wp2_with fail
          refine wp_region_class (by kernel_rfl) (by kernel_rfl) (Below.refl _ _) ?_
          have m1 := BW.cell p1
          repeat (first | go_big_quiet_step (fail))
          refine wpQuiet_nil ?_
          intro w7 hb7; replace hb7 := BW.of hb7
          have HB7 := Lib.hid (HB4.out.trans (hb7.mono HB4.out.size))
          have HC7 := Lib.hid (HC4.out.below hb7)
          clear hb7 p1 m1
          go_wp2
          go_roundw
          case rel => exact ⟨i + 1, f, s + k, m, co, ao, lo, hin, by omega, by omega, by omega, rfl, by go_num, rfl, by go_num, HC7, HB7, HST⟩
          case measure => simp [intOf]; omega
    · obtain rfl : n2 = i := by omega
      have hend : lo = Cp.cut size P [] 0 := by
        have := hto.out
        rw [List.drop_eq_nil_of_le (by rw [HN2.out]; exact Nat.le_refl _)] at this
        simpa [Cp.cut] using this
      have HP : Hid (RetPs (Cp.cut size P [] 0) 0 w (.returned (.tuple #[.slice ao m co, .int .i64 0])) wr) := Lib.hid ⟨ao, m, co, rfl, by rw [← hend]; exact hac.out.ess, HB2.out.trans (hbl.out.mono HB2.out.size)⟩
      clear hend
      go_wp2
      go_ret2
      exact HP.out
end Go.Proofs.Ytlipgaefflecaaa
end

section
set_option maxRecDepth 100000
set_option linter.unusedVariables false
set_option linter.unusedSimpArgs false
namespace Go.Proofs.Ytlipgaefflecaaa
namespace Ca
open Ent (klt klt_trans klt_total klt_asymm klt_irrefl)
/-- The parts' tables. -/
def news (next k : Nat) (ps : List (List Ent)) : List Tab := (List.range ps.length).map fun i => tabOf ((next + i : Nat) : Int) ((k : Int) + 1) (nth ps i)
/-- Files with the parts. -/
def putF (F : Int → List Ent) (next : Nat) (ps : List (List Ent)) : Int → List Ent := fun f => if (next : Int) ≤ f then nth ps (f.toNat - next) else F f
theorem putF_old {F : Int → List Ent} {next : Nat} {ps : List (List Ent)} {f : Int} (h : f < (next : Int)) : putF F next ps f = F f := by unfold putF; rw [if_neg (by omega)]
theorem putF_new (F : Int → List Ent) (next : Nat) (ps : List (List Ent)) (i : Nat) : putF F next ps ((next + i : Nat) : Int) = nth ps i := by
  unfold putF
  rw [if_pos (by omega), show ((next + i : Nat) : Int).toNat - next = i by omega]
theorem sub_sum {f : Ent → Nat} {a b : List Ent} (h : List.Sublist a b) : (a.map f).sum ≤ (b.map f).sum := by
  induction h with
  | slnil => simp
  | cons x _ ih => simp only [List.map_cons, List.sum_cons]; omega
  | cons_cons x _ ih => simp only [List.map_cons, List.sum_cons]; omega
theorem flat_sum {f : Ent → Nat} : ∀ ls : List (List Ent), (ls.flatten.map f).sum = (ls.map fun l => (l.map f).sum).sum
  | [] => rfl
  | l :: ls => by
    have := flat_sum (f := f) ls
    simp only [List.flatten_cons, List.map_append, List.sum_append_nat, List.map_cons, List.sum_cons]
    omega
theorem merge_flat {ls : List (List Ent)} (hs : Srt ls) (hn : ls.Pairwise NoEq) : (Ent.mergeL ls).Perm ls.flatten := by
  rw [List.perm_ext_iff_of_nodup (nodup_of (Ent.merge_sorted hs))]
  · intro x
    rw [mem_all hs hn, List.mem_flatten]
  · rw [List.nodup_iff_pairwise_ne, List.pairwise_flatten]
    exact ⟨fun l hl => nodup_of (hs l hl), hn.imp fun h x hx y hy e => h x hx y hy (by rw [e]; exact ⟨rfl, rfl⟩)⟩
/-- Parts of a list: their keys rise. -/
theorem parts_far {size : Nat} {P : List Ent} (hs : P.Pairwise Ent.lt) {i j : Nat} (hij : i < j) (hj : j < (Cp.cut size P [] 0).length) : klt (lst (nth (Cp.cut size P [] 0) i)) (fst (nth (Cp.cut size P [] 0) j)) = true := by
  have h1 := Cp.cut_rise (size := size) hs (i := i + 1) (by omega) (by omega)
  rw [Nat.add_sub_cancel] at h1
  have hne := Cp.cut_ne size P [] 0
  have hfl := Cp.cut_all size P
  generalize Cp.cut size P [] 0 = ps at *
  have h2 : klt (fst (nth ps j)) (fst (nth ps (i + 1))) = false := by
    rcases Nat.lt_or_ge (i + 1) j with h | h
    · rw [← hfl, List.pairwise_flatten] at hs
      have h3 := List.pairwise_iff_getElem.1 hs.2 (i + 1) j (by omega) hj h
      obtain ⟨x, hx, ex⟩ := fst_mem (l := nth ps (i + 1)) (hne _ (by rw [nth_eq _ (by omega)]; exact List.getElem_mem _))
      obtain ⟨y, hy, ey⟩ := fst_mem (l := nth ps j) (hne _ (by rw [nth_eq _ hj]; exact List.getElem_mem _))
      rw [nth_eq _ (by omega)] at hx
      rw [nth_eq _ hj] at hy
      rw [← ex, ← ey]
      rcases h3 x hx y hy with h4 | h4
      · exact klt_asymm h4
      · rw [h4.1]; exact klt_irrefl _
    · rw [show j = i + 1 by omega]
      exact klt_irrefl _
  exact klt_kle h1 h2
section
variable {F : Int → List Ent} {next k : Nat} {vt l : List Tab}
theorem news_mem {ps : List (List Ent)} {t : Tab} (h : t ∈ news next k ps) : ∃ i, i < ps.length ∧ t = tabOf ((next + i : Nat) : Int) ((k : Int) + 1) (nth ps i) := by
  obtain ⟨i, hi, e⟩ := List.mem_map.1 h
  exact ⟨i, List.mem_range.1 hi, e.symm⟩
theorem news_rows (F : Int → List Ent) (next k : Nat) (ps : List (List Ent)) : (news next k ps).map (fun t => putF F next ps t.file) = ps := by
  unfold news
  rw [List.map_map]
  apply List.ext_getElem
  · simp
  · intro i h1 h2
    simp only [List.getElem_map, List.getElem_range, Function.comp]
    show putF F next ps ((next + i : Nat) : Int) = _
    rw [putF_new, nth_eq _ h2]
/-- A job is done: all stands as before, and what is seen is the same. -/
theorem job_done (I : Inv F next vt) (h : Sel vt l k) {keep up size : Nat} {bottom : Bool} (hu : keep ≤ up) {ps : List (List Ent)} (hps : ps = Cp.cut size (Ent.prune (Ent.mergeL ((Tab.all k l vt).map fun t => F t.file)) keep bottom) [] 0)
    {vt' : List Tab} (hp : vt'.Perm (news next k ps ++ rest vt (Tab.all k l vt))) :
    Inv (putF F next ps) (next + ps.length) vt' ∧ pot (putF F next ps) vt' < pot F vt ∧ Ent.seen (Ent.mergeL (vt'.map fun t => putF F next ps t.file)) up = Ent.seen (Ent.mergeL (vt.map fun t => F t.file)) up := by
  have hperm := h.perm I
  have IP := I.perm hperm
  have hkeys := h.keys I
  have hside := fun u hu hk => h.side I (u := u) hu hk
  have hSok : ∀ s ∈ Tab.all k l vt, TOk F s := fun s hs => IP.ok s (List.mem_append.2 (.inl hs))
  have hRok : ∀ s ∈ rest vt (Tab.all k l vt), TOk F s := fun s hs => IP.ok s (List.mem_append.2 (.inr hs))
  have hRlt : ∀ s ∈ rest vt (Tab.all k l vt), 0 ≤ s.file ∧ s.file < (next : Int) := fun s hs => IP.lt s (List.mem_append.2 (.inr hs))
  have hsrt := IP.srt
  have hnoe := IP.noeq
  rw [List.map_append] at hsrt hnoe
  have hsS : Srt ((Tab.all k l vt).map fun t => F t.file) := fun a ha => hsrt a (List.mem_append.2 (.inl ha))
  have hsR : Srt ((rest vt (Tab.all k l vt)).map fun t => F t.file) := fun a ha => hsrt a (List.mem_append.2 (.inr ha))
  have hnS := pw_left hnoe
  have hlv : ∀ s ∈ Tab.all k l vt, s.level ≤ (k : Int) + 1 := fun s hs => by
    rcases h.all_mem.1 hs with h1 | h1
    · have := (h.sub s h1).2; omega
    · have := h1.2.1; omega
  have hfirst : ∃ s ∈ Tab.all k l vt, s.level = (k : Int) := by
    obtain ⟨t, ht⟩ := List.exists_mem_of_ne_nil _ h.ne
    exact ⟨t, h.all_mem.2 (.inl ht), (h.sub t ht).2⟩
  have hrl : ∀ u ∈ rest vt (Tab.all k l vt), 1 ≤ u.level := fun u hu => by
    rcases I.phase with h0 | ⟨h1, _⟩
    · rw [(h.none h0).2.2] at hu; cases hu
    · exact h1 u (rest_mem.1 hu).1
  have hrp : (rest vt (Tab.all k l vt)).Pairwise (Keys F) ∧ (rest vt (Tab.all k l vt)).Pairwise Lev := by
    rcases I.phase with h0 | ⟨_, h2, h3⟩
    · rw [(h.none h0).2.2]; exact ⟨List.Pairwise.nil, List.Pairwise.nil⟩
    · exact ⟨h2.sublist List.filter_sublist, h3.sublist List.filter_sublist⟩
  have hrn : (rest vt (Tab.all k l vt)).Pairwise (NE F) := I.ne.sublist List.filter_sublist
  have hrf : ((rest vt (Tab.all k l vt)).map Tab.file).Nodup := I.nd.sublist (List.filter_sublist.map _)
  have hk5 := h.k5
  have hlen0 : lens F vt = lens F (Tab.all k l vt) + lens F (rest vt (Tab.all k l vt)) := by rw [lens_perm hperm, lens_app]
  have hsz0 : sizes F vt = sizes F (Tab.all k l vt) + sizes F (rest vt (Tab.all k l vt)) := by rw [sizes_perm hperm, sizes_app]
  have hpot0 : pot F vt = pot F (Tab.all k l vt) + pot F (rest vt (Tab.all k l vt)) := by rw [pot_perm hperm, pot_app]
  have hseen0 : Ent.mergeL (vt.map fun t => F t.file) = Ent.mergeL (((Tab.all k l vt).map fun t => F t.file) ++ (rest vt (Tab.all k l vt)).map fun t => F t.file) := by
    rw [← List.map_append]
    exact merge_perm I.srt I.noeq (hperm.map _)
  generalize Tab.all k l vt = S at *
  generalize rest vt S = R at *
  -- what is merged, what is pruned
  have hA := merge_flat hsS hnS
  have hAmem := mem_all hsS hnS
  have hAs := Ent.merge_sorted hsS
  have hPsub : List.Sublist (Ent.prune (Ent.mergeL (S.map fun t => F t.file)) keep bottom) (Ent.mergeL (S.map fun t => F t.file)) := List.filter_sublist
  have hAr : Ent.Right (Ent.mergeL (S.map fun t => F t.file)) := Ent.merge_right fun a ha => by
    obtain ⟨t, ht, rfl⟩ := List.mem_map.1 ha
    exact (hSok t ht).right
  have hPr := Ent.prune_right hAr keep bottom
  have hlenA : (Ent.mergeL (S.map fun t => F t.file)).length = lens F S := by
    rw [hA.length_eq, List.length_flatten, List.map_map]
    rfl
  have hsizA : ((Ent.mergeL (S.map fun t => F t.file)).map Cp.wt).sum = sizes F S := by
    rw [(hA.map Cp.wt).sum_nat, flat_sum, List.map_map]
    rfl
  have hflat : ps.flatten = Ent.prune (Ent.mergeL (S.map fun t => F t.file)) keep bottom := by rw [hps, Cp.cut_all]
  have hne : ∀ p ∈ ps, p ≠ [] := by rw [hps]; exact Cp.cut_ne _ _ _ _
  have hfar : ∀ i j, i < j → j < ps.length → klt (lst (nth ps i)) (fst (nth ps j)) = true := by
    rw [hps]
    exact fun i j hij hj => parts_far hPr.2 hij hj
  have hpr : ∀ p ∈ ps, Ent.Right p := fun p hp' => hPr.sub (by rw [← hflat]; exact List.sublist_flatten_of_mem hp')
  have hpmem : ∀ p ∈ ps, ∀ x ∈ p, ∃ s ∈ S, x ∈ F s.file := fun p hp' x hx => by
    have h1 : x ∈ ps.flatten := List.mem_flatten.2 ⟨p, hp', hx⟩
    rw [hflat] at h1
    obtain ⟨a, ha, hxa⟩ := (hAmem x).1 (hPsub.subset h1)
    obtain ⟨s, hs, rfl⟩ := List.mem_map.1 ha
    exact ⟨s, hs, hxa⟩
  clear hps
  have hnth : ∀ i, i < ps.length → nth ps i ∈ ps := fun i hi => by rw [nth_eq _ hi]; exact List.getElem_mem _
  have hFR : ∀ u ∈ R, putF F next ps u.file = F u.file := fun u hu => putF_old (hRlt u hu).2
  have hRrows : R.map (fun t => putF F next ps t.file) = R.map fun t => F t.file := List.map_congr_left hFR
  have hkps : ∀ i j, i < j → j < ps.length → ∀ x ∈ nth ps i, ∀ y ∈ nth ps j, x.key ≠ y.key := fun i j hij hj x hx y hy e => by
    have h1 := le_lst (hpr _ (hnth i (by omega))).2 hx
    have h2 := fst_le (hpr _ (hnth j hj)).2 hy
    have h3 := klt_kle (kle_klt h1 (hfar i j hij hj)) h2
    rw [e, klt_irrefl] at h3
    cases h3
  have hkpr : ∀ p ∈ ps, ∀ u ∈ R, ∀ x ∈ p, ∀ y ∈ F u.file, x.key ≠ y.key := fun p hp' u hu x hx y hy => by
    obtain ⟨s, hs, hxs⟩ := hpmem p hp' x hx
    exact hkeys s hs u hu x hxs y hy
  have hNk : (news next k ps).Pairwise (Keys (putF F next ps)) := by
    unfold news
    rw [List.pairwise_map, List.pairwise_iff_getElem]
    intro i j hi hj hij x hx y hy
    simp only [List.getElem_range, List.length_range] at *
    change x ∈ putF F next ps ((next + i : Nat) : Int) at hx
    change y ∈ putF F next ps ((next + j : Nat) : Int) at hy
    rw [putF_new] at hx hy
    exact hkps i j hij (by rw [List.length_range] at hj; exact hj) x hx y hy
  have hNl : (news next k ps).Pairwise Lev := by
    unfold news
    rw [List.pairwise_map, List.pairwise_iff_getElem]
    intro i j hi hj hij _
    simp only [List.getElem_range, List.length_range] at *
    exact .inl (hfar i j hij (by rw [List.length_range] at hj; exact hj))
  have ne_of : ∀ {t u : Tab}, Keys (putF F next ps) t u → NE (putF F next ps) t u := fun hk x hx y hy e => hk x hx y hy e.1
  have hNR : ∀ t ∈ news next k ps, ∀ u ∈ R, Keys (putF F next ps) t u := fun t ht u hu x hx y hy => by
    obtain ⟨i, hi, rfl⟩ := news_mem ht
    change x ∈ putF F next ps ((next + i : Nat) : Int) at hx
    rw [putF_new] at hx
    rw [hFR u hu] at hy
    exact hkpr _ (hnth i hi) u hu x hx y hy
  have hRk : R.Pairwise (Keys (putF F next ps)) := List.Pairwise.imp_of_mem (fun {t u} ht hu hk x hx y hy => hk x (by rw [← hFR t ht]; exact hx) y (by rw [← hFR u hu]; exact hy)) hrp.1
  have hRn : R.Pairwise (NE (putF F next ps)) := List.Pairwise.imp_of_mem (fun {t u} ht hu hk x hx y hy => hk x (by rw [← hFR t ht]; exact hx) y (by rw [← hFR u hu]; exact hy)) hrn
  have hNRl : ∀ t ∈ news next k ps, ∀ u ∈ R, Lev t u := fun t ht u hu e => by
    obtain ⟨i, hi, rfl⟩ := news_mem ht
    have hp' := hpr _ (hnth i hi)
    have hn' := hne _ (hnth i hi)
    rcases hside u hu e.symm with hs | hs
    · obtain ⟨x, hx, ex⟩ := lst_mem hn'
      obtain ⟨s, hsS', hxs⟩ := hpmem _ (hnth i hi) x hx
      refine .inl ?_
      show klt (lst (nth ps i)) u.first = true
      rw [← ex]
      exact kle_klt ((hSok s hsS').hi hxs) (hs s hsS')
    · obtain ⟨x, hx, ex⟩ := fst_mem hn'
      obtain ⟨s, hsS', hxs⟩ := hpmem _ (hnth i hi) x hx
      refine .inr ?_
      show klt u.last (fst (nth ps i)) = true
      rw [← ex]
      exact klt_kle (hs s hsS') ((hSok s hsS').lo hxs)
  have hlenN : lens (putF F next ps) (news next k ps) = (ps.map List.length).sum := by
    have := congrArg (List.map List.length) (news_rows F next k ps)
    rw [List.map_map] at this
    unfold lens
    rw [← this]
    rfl
  have hlenP : (ps.map List.length).sum ≤ lens F S := by
    rw [← List.length_flatten, hflat, ← hlenA]
    exact hPsub.length_le
  have hsizN : sizes (putF F next ps) (news next k ps) ≤ sizes F S := by
    have h1 : sizes (putF F next ps) (news next k ps) = (ps.map siz).sum := by
      have := congrArg (List.map siz) (news_rows F next k ps)
      rw [List.map_map] at this
      unfold sizes
      rw [← this]
      rfl
    have h2 := flat_sum (f := Cp.wt) ps
    rw [h1, show (ps.map siz).sum = (ps.flatten.map Cp.wt).sum from h2.symm, hflat, ← hsizA]
    exact sub_sum hPsub
  have hlenR : lens (putF F next ps) R = lens F R := by unfold lens; rw [List.map_congr_left fun t ht => by rw [hFR t ht]]
  have hsizR : sizes (putF F next ps) R = sizes F R := by unfold sizes; rw [List.map_congr_left fun t ht => by rw [hFR t ht]]
  have hpotR : pot (putF F next ps) R = pot F R := by unfold pot; rw [List.map_congr_left fun t ht => by rw [hFR t ht]]
  have J : Inv (putF F next ps) (next + ps.length) (news next k ps ++ R) := by
    refine ⟨fun t ht => ?_, ?_, fun t ht => ?_, ?_, .inr ⟨fun t ht => ?_, ?_, ?_⟩, ?_, ?_⟩
    · rcases List.mem_append.1 ht with h1 | h1
      · obtain ⟨i, hi, rfl⟩ := news_mem h1
        have e : putF F next ps (tabOf ((next + i : Nat) : Int) ((k : Int) + 1) (nth ps i)).file = nth ps i := putF_new F next ps i
        refine ⟨by rw [e]; exact hne _ (hnth i hi), by rw [e]; exact hpr _ (hnth i hi), by rw [e]; rfl, ?_, ?_⟩
        · show (0 : Int) ≤ (k : Int) + 1; omega
        · show (k : Int) + 1 ≤ 6; omega
      · have h2 := hRok t h1
        exact ⟨by rw [hFR t h1]; exact h2.ne, by rw [hFR t h1]; exact h2.right, by rw [hFR t h1]; exact h2.eq, h2.lv⟩
    · rw [List.map_append, List.nodup_append]
      refine ⟨?_, hrf, fun a ha b hb e => ?_⟩
      · unfold news
        rw [List.map_map, List.nodup_iff_pairwise_ne, List.pairwise_map, List.pairwise_iff_getElem]
        intro i j hi hj hij e
        simp only [List.getElem_range, Function.comp] at e
        change ((next + i : Nat) : Int) = ((next + j : Nat) : Int) at e
        omega
      · obtain ⟨t, ht, rfl⟩ := List.mem_map.1 ha
        obtain ⟨u, hu, rfl⟩ := List.mem_map.1 hb
        obtain ⟨i, hi, rfl⟩ := news_mem ht
        have h3 := (hRlt u hu).2
        change ((next + i : Nat) : Int) = u.file at e
        omega
    · rcases List.mem_append.1 ht with h1 | h1
      · obtain ⟨i, hi, rfl⟩ := news_mem h1
        refine ⟨?_, ?_⟩
        · show (0 : Int) ≤ ((next + i : Nat) : Int); omega
        · show ((next + i : Nat) : Int) < ((next + ps.length : Nat) : Int); omega
      · have := hRlt t h1
        exact ⟨this.1, by omega⟩
    · rw [List.pairwise_append]
      exact ⟨hNk.imp fun h => ne_of h, hRn, fun t ht u hu => ne_of (hNR t ht u hu)⟩
    · rcases List.mem_append.1 ht with h1 | h1
      · obtain ⟨i, hi, rfl⟩ := news_mem h1
        show (1 : Int) ≤ (k : Int) + 1; omega
      · exact hrl t h1
    · rw [List.pairwise_append]
      exact ⟨hNk, hRk, hNR⟩
    · rw [List.pairwise_append]
      exact ⟨hNl, hrp.2, hNRl⟩
    · rw [lens_app, hlenN, hlenR]
      have := I.total
      omega
    · rw [sizes_app, hsizR]
      have := I.bytes
      omega
  refine ⟨J.perm hp.symm, ?_, ?_⟩
  · rw [pot_perm hp, pot_app, hpotR, hpot0]
    have h1 : pot (putF F next ps) (news next k ps) = (5 - k) * (ps.map List.length).sum := by
      rw [← hlenN]
      unfold pot lens news
      rw [List.map_map, List.map_map]
      generalize List.range ps.length = rr
      induction rr with
      | nil => simp
      | cons a rr ih =>
        simp only [List.map_cons, List.sum_cons, Function.comp] at ih ⊢
        rw [ih, Nat.mul_add]
        congr 2
        show (6 - ((k : Int) + 1)).toNat = 5 - k
        omega
    have h2 : (5 - k) * lens F S < pot F S := by
      obtain ⟨s, hs, hl⟩ := hfirst
      have key : ∀ T : List Tab, (∀ t ∈ T, t.level ≤ (k : Int) + 1) → (5 - k) * lens F T ≤ pot F T ∧ ∀ s ∈ T, s.level = (k : Int) → F s.file ≠ [] → (5 - k) * lens F T < pot F T := by
        intro T
        induction T with
        | nil => exact fun _ => ⟨by simp [lens, pot], fun s hs => by cases hs⟩
        | cons t T ih =>
          intro ht
          obtain ⟨i1, i2⟩ := ih fun u hu => ht u (by simp [hu])
          have h3 := ht t (by simp)
          have e1 : lens F (t :: T) = (F t.file).length + lens F T := by unfold lens; simp
          have e2 : pot F (t :: T) = (6 - t.level).toNat * (F t.file).length + pot F T := by unfold pot; simp
          have h4 : (5 - k) * (F t.file).length ≤ (6 - t.level).toNat * (F t.file).length := Nat.mul_le_mul_right _ (by omega)
          rw [e1, e2, Nat.mul_add]
          refine ⟨by omega, fun s hs hl hne => ?_⟩
          rcases List.mem_cons.1 hs with e | e
          · subst e
            have h5 : 0 < (F s.file).length := List.length_pos_iff.2 hne
            have h6 : (6 - s.level).toNat = (5 - k) + 1 := by omega
            rw [h6, Nat.add_mul, Nat.one_mul]
            omega
          · have := i2 s e hl hne
            omega
      exact (key S hlv).2 s hs hl (hSok s hs).ne
    have h3 : (5 - k) * (ps.map List.length).sum ≤ (5 - k) * lens F S := Nat.mul_le_mul_left _ hlenP
    omega
  · have e1 : Ent.mergeL (vt'.map fun t => putF F next ps t.file) = Ent.mergeL (ps ++ R.map fun t => F t.file) := by
      rw [merge_perm (J.perm hp.symm).srt (J.perm hp.symm).noeq (hp.map _), List.map_append, news_rows, hRrows]
    rw [e1, hseen0]
    have hnn : (ps ++ R.map fun t => F t.file).Pairwise NoEq := by
      have := J.noeq
      rw [List.map_append, news_rows, hRrows] at this
      exact this
    refine seen_job hsS hsR (fun p hp' => (hpr p hp').2) hnoe hnn (fun a ha b hb x hx y hy => ?_) hflat hu
    obtain ⟨s, hs, rfl⟩ := List.mem_map.1 ha
    obtain ⟨u, hu', rfl⟩ := List.mem_map.1 hb
    exact hkeys s hs u hu' x hx y hy
end
end Ca
end Go.Proofs.Ytlipgaefflecaaa
end

section
set_option maxRecDepth 100000
set_option linter.unusedVariables false
set_option linter.unusedSimpArgs false
namespace Go.Proofs.Ytlipgaefflecaaa
open Go.RowKit
open Ca

theorem row_set {w : World} {b : Nat} {arr : Array Value} {t : TypeId} {m : Nat × Nat} (h : w.heap[b]? = some (.cells arr t m)) (j : Nat) (v : Value) : (w.setCell ⟨b, j, none⟩ v).heap[b]? = some (.cells (arr.setIfInBounds j v) t m) := by
  show (w.heap.modify b _)[b]? = _
  obtain ⟨hlt, hk⟩ := Array.getElem?_eq_some_iff.1 h
  rw [Array.getElem?_eq_getElem (by rw [Array.size_modify]; exact hlt), Array.getElem_modify_self, hk]
  rfl
theorem siz_snoc (l : List Ent) {i : Nat} (hi : i < l.length) : siz (l.take (i + 1)) = siz (l.take i) + Cp.wt (nth l i) := by
  unfold siz
  rw [List.take_succ_eq_append_getElem hi, List.map_append, List.sum_append_nat, nth_eq _ hi]
  simp
set_option maxHeartbeats 3000000 in
theorem table_any (f k : Int) (a : Option Addr) (n c : Nat) (l : List Ent) (w : World) (h : Es w a n c l) (hn0 : 0 < n) (hn : n ≤ 1000000) (hw : ∀ e ∈ l, Cp.wt e ≤ 1000000) :
    Calls Try.prog 9 #[.int .i64 f, .int .i64 k, .slice a n c] w fun e w' => e = .returned (tval (tabOf f k l)) ∧ Below w.heap.size w w' := by
  have HE : Hid (∀ W, Below w.heap.size w W → Es W a n c l) := Lib.hid fun W kk => h.below kk
  have HW := Lib.hid hw
  have HLN := Lib.hid h.1
  have hle := h.le
  have HS0 : Hid (siz (l.take 0) = 0) := Lib.hid rfl
  have HSN : Hid (siz (l.take n) = siz l) := Lib.hid (by rw [← h.1, List.take_length])
  clear h hw
  have hb0 := below_alloc1 w (.cells #[.int .i64 0, .int .i64 0, .string ⟨#[]⟩, .string ⟨#[]⟩, .int .i64 0] 39)
  have hh0 := heap_alloc_new w (.cells #[.int .i64 0, .int .i64 0, .string ⟨#[]⟩, .string ⟨#[]⟩, .int .i64 0] 39)
  go_enter Try.func9, Try.ntmps9
  go_upto_region 1 with fail
  generalize hW0 : w.alloc (.cells #[.int .i64 0, .int .i64 0, .string ⟨#[]⟩, .string ⟨#[]⟩, .int .i64 0] 39) = w0 at *
  have HB0 := Lib.hid hb0
  have HH0 := Lib.hid hh0
  have HLT : Hid (w.heap.size < w0.heap.size) := Lib.hid (Array.getElem?_eq_some_iff.1 hh0).1
  clear hb0 hh0 hW0
  go_wp2_with fail
  go_loopw [7, 8] (fun sv iv wr => ∃ i s : Nat, i ≤ n ∧ s ≤ i * 1000000 ∧ sv = .int .i64 s ∧ iv = .int .i64 i ∧ Hid (s = siz (l.take i)) ∧ Hid (Below w0.heap.size w0 wr)) (fun _ iv _ => n - (intOf iv).toNat)
  case atStart => exact ⟨0, 0, by omega, by omega, rfl, rfl, Lib.hid HS0.out.symm, Lib.hid (Below.refl _ _)⟩
  case round =>
    obtain ⟨i, s, hi, hs, rfl, rfl, HS, HB⟩ := hrel
    have HBW := Lib.hid (HB0.out.trans (HB.out.mono HB0.out.size))
    by_cases hlt : i < n
    · have t1 : decide ((i : Int) < (n : Int)) = true := decide_eq_true (by omega)
      have t2 : decide (i < n) = true := decide_eq_true hlt
      obtain ⟨b1, o1, a3, d3, ea, he3, hv3⟩ := (HE.out wr HBW.out).vals hlt
      subst ea
      have hil : i < l.length := by rw [HLN.out]; exact hlt
      have hwt : Cp.wt (nth l i) ≤ 1000000 := HW.out _ (by rw [nth_eq _ hil]; exact List.getElem_mem _)
      have HSS : Hid (s + Cp.wt (nth l i) = siz (l.take (i + 1))) := Lib.hid (by rw [siz_snoc l hil, HS.out])
      have r1 := he3.key
      have r2 := he3.seq
      have r3 := he3.gone
      have r4 := he3.val
      clear he3 hv3
      have hsz := size_any (nth l i) a3 d3 wr hwt
      unfold ev at hsz
      go_wp2_with fail
      refine hsz.mono ?_
      clear hsz
      rintro e w4 ⟨rfl, hb4⟩
      have HB4 := Lib.hid (HB.out.trans (hb4.mono HB.out.size))
      clear hb4 r1 r2 r3 r4
      generalize Cp.wt (nth l i) = k2 at *
      go_wp2_with fail
      go_roundw
      case rel => exact ⟨i + 1, s + k2, by omega, by omega, by go_num, by go_num, HSS, HB4⟩
      case measure => simp [intOf]; omega
    · obtain rfl : i = n := by omega
      have t1 : decide ((i : Int) < (i : Int)) = false := decide_eq_false (by omega)
      have t2 : decide (i < i) = false := decide_eq_false (by omega)
      have hln := HLN.out
      obtain ⟨b1, o1, a3, d3, ea, he3, _⟩ := (HE.out wr HBW.out).vals (show 0 < i by omega)
      subst ea
      obtain ⟨b2, o2, a4, d4, ea, he4, _⟩ := (HE.out wr HBW.out).vals (show i - 1 < i by omega)
      cases ea
      have k1 := he3.key
      have k2 := he4.key
      rw [Nat.zero_mul, Nat.add_zero] at k1
      clear he3 he4 t1 t2
      obtain ⟨m, rfl⟩ : ∃ m, i = m + 1 := ⟨i - 1, by omega⟩
      rw [Nat.add_sub_cancel] at k2
      have HSF : Hid (s = siz l ∧ (nth l m).key = lst l ∧ (nth l 0).key = fst l) := Lib.hid ⟨by rw [HS.out, HSN.out], by unfold lst; rw [hln, Nat.add_sub_cancel], rfl⟩
      generalize (nth l m).key = y2 at *
      generalize (nth l 0).key = y1 at *
      have hwm : IntKind.i64.wrap (m : Int) = (m : Int) := by rw [IntKind.wrap_i64]; omega
      have hcm : 0 ≤ (m : Int) ∧ (m : Int) < (m : Int) + 1 := ⟨by omega, by omega⟩
      have hmm : decide ((m : Int) < (m : Int) + 1) = true := decide_eq_true (by omega)
      go_upto_region 6 with fail
      refine wp_region_steps [15] 15 15 (by kernel_rfl) (by kernel_rfl) rfl (fun W' => ∃ V : BW wr, W' = V.w) ?_
      have HBX : Hid (Below wr.heap.size wr wr.drew) := Lib.hid (Below.refl _ _).drew
      generalize wr.drew = wX at *
      refine anyT_pull [0, 1, 2, 3, 4, 5, 6, 7, 8, 9, 10, 11, 12, 13, 14] 15 0 (by intro c a d v w h; cases d <;> exact h) (by kernel_rfl) ⟨⟨_, HBX.out⟩, rfl⟩ ?_
      simp only [opsAt, List.filterMap_cons, List.filterMap_nil, List.getElem?_cons_zero, List.getElem?_cons_succ]
      iterate 15
        apply held_step
        · kernel_rfl
        · rintro _ ⟨V, rfl⟩
          have q1 := cell_later V.b k1
          have q2 := cell_later V.b k2
          go_simp
          try simp only [hwm, if_pos hcm, Int.toNat_natCast]
          try go_simp
          rfl
      refine held_nil ?_
      refine anyT_done (by kernel_rfl) ?_
      simp only [opsAt, List.filterMap_cons, List.filterMap_nil, List.getElem?_cons_zero, List.getElem?_cons_succ]
      have HX0 := Lib.hid (HB.out.trans (HBX.out.mono HB.out.size))
      have hr := (HX0.out.block w.heap.size HLT.out).trans HH0.out
      have r0 := cell_of_row _ _ 0 _ _ _ hr
      have r1 := cell_of_row _ _ 1 _ _ _ hr
      have r2 := cell_of_row _ _ 2 _ _ _ hr
      have r3 := cell_of_row _ _ 3 _ _ _ hr
      have r4 := cell_of_row _ _ 4 _ _ _ hr
      have rf : ∀ o, wX.frozen? ⟨w.heap.size, o, none⟩ = false := fun o => by simp [World.frozen?, hr]
      simp at r0 r1 r2 r3 r4
      have HQ := Lib.hid (row_set (row_set (row_set (row_set (row_set hr 0 (.int .i64 f)) 1 (.int .i64 k)) 2 (.string (bstr y1))) 3 (.string (bstr y2))) 4 (.int .i64 (s : Int)))
      have HBE := Lib.hid ((((((HB0.out.trans (HX0.out.mono HB0.out.size)).setCell (p := ⟨w.heap.size, 0, none⟩) (Nat.le_refl _) (.int .i64 f)).setCell (p := ⟨w.heap.size, 1, none⟩) (Nat.le_refl _) (.int .i64 k)).setCell (p := ⟨w.heap.size, 2, none⟩) (Nat.le_refl _) (.string (bstr y1))).setCell (p := ⟨w.heap.size, 3, none⟩) (Nat.le_refl _) (.string (bstr y2))).setCell (p := ⟨w.heap.size, 4, none⟩) (Nat.le_refl _) (.int .i64 (s : Int)))
      clear hr
      go_wp2
      have q0 := cell_of_row _ _ 0 _ _ _ HQ.out
      have q1 := cell_of_row _ _ 1 _ _ _ HQ.out
      have q2 := cell_of_row _ _ 2 _ _ _ HQ.out
      have q3 := cell_of_row _ _ 3 _ _ _ HQ.out
      have q4 := cell_of_row _ _ 4 _ _ _ HQ.out
      simp at q0 q1 q2 q3 q4
      obtain ⟨e1, e2, e3⟩ := HSF.out
      exact bodyPost_ret (v := .agg #[.int .i64 f, .int .i64 k, .string (bstr y1), .string (bstr y2), .int .i64 (s : Int)]) (by simp [results, Try.results9, go_sem, q0, q1, q2, q3, q4]) rfl ⟨by unfold tval tabOf; rw [← e1, ← e2, ← e3], HBE.out⟩
end Go.Proofs.Ytlipgaefflecaaa
end

section
set_option maxRecDepth 100000
set_option linter.unusedVariables false
set_option linter.unusedSimpArgs false
namespace Go.Proofs.Ytlipgaefflecaaa
open Go.RowKit
open Go.Maps (Keyed)
open Ca

/-- What is read stays. -/
def Kept (w w' : World) : Prop := ∀ b o v, w.cell? ⟨b, o, none⟩ = some v → w'.cell? ⟨b, o, none⟩ = some v
theorem Row.kept {w w' : World} {a : Option Addr} {cs : List Value} (h : Row w a cs) (k : Kept w w') : Row w' a cs := fun j v hv => by
  obtain ⟨b, off, rfl, hc⟩ := h j v hv
  exact ⟨b, off, rfl, k _ _ _ hc⟩
theorem Es.kept {w w' : World} {a : Option Addr} {n c : Nat} {l : List Ent} (h : Es w a n c l) (k : Kept w w') : Es w' a n c l :=
  ⟨h.1, h.2.1, h.2.2.1, fun i hi => by
    obtain ⟨b, off, ai, ci, h1, h2, h3⟩ := h.2.2.2 i hi
    exact ⟨b, off, ai, ci, h1, ⟨k _ _ _ h2.key, k _ _ _ h2.seq, k _ _ _ h2.gone, k _ _ _ h2.val⟩, ⟨h3.1, h3.2.1, h3.2.2.1, Row.kept h3.2.2.2 k⟩⟩⟩
theorem Ts.kept {w w' : World} {a : Option Addr} {n c : Nat} {l : List Tab} (h : Ts w a n c l) (k : Kept w w') : Ts w' a n c l := ⟨h.1, h.2.1, h.2.2.1, Row.kept h.2.2.2 k⟩
theorem Kept.below {w w' : World} (h : Below w.heap.size w w') : Kept w w' := fun b o v hv => cell_later h hv
def RF (v : Value) : Option (DataW Value × List MemPlace) := some (.held v, [])
theorem keyI : Keyed Try.prog 3 := Maps.int_keyed Try.underlying3
/-- The map in block b says which entries a file holds. -/
structure FM (w : World) (b n : Nat) (D : DataW Value) (F : Int → List Ent) : Prop where
  own : w.ownsMap Try.prog 3 RF b n D
  at_ : ∀ f : Int, 0 ≤ f → f ≤ 1099511627776 → ∃ a m c, D.atKey (.int .i64 f) (.held (.slice none 0 0)) = .held (.slice a m c) ∧ Es w a m c (F f)
theorem FM.made (w : World) : FM (w.alloc (.map #[] 0)) w.heap.size 0 (.map []) (fun _ => []) :=
  ⟨World.ownsMap_made w _ _ _, fun f _ _ => ⟨none, 0, 0, rfl, Es.nil _⟩⟩
theorem FM.below {w w' : World} {b n : Nat} {D : DataW Value} {F : Int → List Ent} (h : FM w b n D F) (hb : Below w.heap.size w w') : FM w' b n D F := by
  refine ⟨?_, fun f h0 h1 => ?_⟩
  · have hlt := h.own.lt
    obtain ⟨es, clock, h1, G, hs, hD⟩ := h.own
    exact ⟨es, clock, (hb.block b hlt).trans h1, G, hs, hD⟩
  · obtain ⟨a, m, c, g1, g2⟩ := h.at_ f h0 h1
    exact ⟨a, m, c, g1, g2.below hb⟩
theorem kept_grown {w w' : World} {b n : Nat} {D : DataW Value} {F : Int → List Ent} (h : FM w b n D F) (hg : w.grownBy w' (some b)) : Kept w w' := fun c o v hv => by
  by_cases e : c = b
  · subst e
    obtain ⟨es, clock, h1, G, hs, hD⟩ := h.own
    simp [World.cell?, h1] at hv
  · exact (World.cell?_of_block (hg.block c (World.block_lt_of_cell? _ _ hv) (fun x => e (by cases x; rfl)))).trans hv
theorem keyOf_i {f : Int} (h0 : 0 ≤ f) (h1 : f ≤ 1099511627776) : keyOf Try.prog 3 (.int .i64 f) = some (.int .i64 f) :=
  Maps.keyOf_int_mk Try.underlying3 (by
    have hmin : IntKind.i64.min = -9223372036854775808 := by decide
    have hmax : IntKind.i64.max = 9223372036854775807 := by decide
    simp only [Lit.wf, hmin, hmax, Bool.and_eq_true, decide_eq_true_eq]; omega)
theorem isKeyI {f : Int} (h0 : 0 ≤ f) (h1 : f ≤ 1099511627776) : WideAt.IsKeyLit (.int .i64 f) := keyI.key (keyOf_i h0 h1)
def setF (F : Int → List Ent) (k : Int) (l : List Ent) (f : Int) : List Ent := if f = k then l else F f
theorem FM.put {w w' : World} {b n : Nat} {D : DataW Value} {F : Int → List Ent} {k : Int} {a : Option Addr} {m c : Nat} {l : List Ent} (h : FM w b n D F) (h0 : 0 ≤ k) (h1 : k ≤ 1099511627776) (hl : Es w a m c l)
    (ho : w'.ownsMap Try.prog 3 RF b (n + 1) (D.put (.int .i64 k) (.held (.slice a m c)))) (hg : w.grownBy w' (some b)) : FM w' b (n + 1) (D.put (.int .i64 k) (.held (.slice a m c))) (setF F k l) := by
  have hk := kept_grown h hg
  refine ⟨ho, fun f hf0 hf1 => ?_⟩
  unfold setF
  by_cases e : f = k
  · subst e
    rw [if_pos rfl]
    exact ⟨a, m, c, Maps.atKey_put_same h.own.isMap (isKeyI h0 h1) _ _, hl.kept hk⟩
  · rw [if_neg e]
    obtain ⟨a', m', c', g1, g2⟩ := h.at_ f hf0 hf1
    exact ⟨a', m', c', by rw [Maps.atKey_put_other (fun x => e (by cases x; rfl))]; exact g1, g2.kept hk⟩
theorem zeroSl (w : World) : (zeroValue 33).run Try.prog w = .ok (.slice none 0 0) w := by kernel_rfl
section
variable {w : World} {ops : Array Oper} {rest : List Oper} {o : Oper} {a : Act} {Q : Exit → Act → World → Prop}
/-- 'files[f]'. -/
theorem look_f (hg : o.guard = none) (m x : Operand) (hop : o.op = Op.lookup 32 m x false) {b n : Nat} {D : DataW Value} {F : Int → List Ent} (hm : a.eval m = .map (some b)) (h : FM w b n D F)
    {f : Int} (h0 : 0 ≤ f) (h1 : f ≤ 1099511627776) (hx : a.eval x = .int .i64 f) (hK : ∀ af nf cf, Es w af nf cf (F f) → wpList Try.prog ops Q rest (a.put o.dst (.slice af nf cf)) w) : wpList Try.prog ops Q (o :: rest) a w := by
  refine wpList_plain hg fun K' hK' => ?_
  obtain ⟨v, ps, hrun, hv⟩ := h.own.lookup keyI Try.underlying32 (zeroSl w) (zd := .held (.slice none 0 0)) (zp := []) rfl (keyOf_i h0 h1)
  obtain ⟨af, nf, cf, g1, g2⟩ := h.at_ f h0 h1
  rw [g1] at hv
  have : v = .slice af nf cf := by unfold RF at hv; injection hv with hv; injection hv with h1 h2; injection h1
  subst this
  unfold Oper.wp
  simp [execOp, hop, hm, hx, hrun, Result.andThen]
  exact hK' _ _ (hK af nf cf g2)
/-- 'files[k] = l'. -/
theorem store_f (hg : o.guard = none) (m x v : Operand) (hop : o.op = Op.mapUpdate 32 m x v) {b n : Nat} {D : DataW Value} {F : Int → List Ent} (hm : a.eval m = .map (some b)) (h : FM w b n D F) (hn : n < maxLen)
    {k : Int} {af : Option Addr} {nf cf : Nat} {l : List Ent} (h0 : 0 ≤ k) (h1 : k ≤ 1099511627776) (hl : Es w af nf cf l) (hx : a.eval x = .int .i64 k) (hv : a.eval v = .slice af nf cf)
    (hK : ∀ D' w', FM w' b (n + 1) D' (setF F k l) → Kept w w' → w.grownBy w' (some b) → wpList Try.prog ops Q rest (a.put o.dst undef) w') : wpList Try.prog ops Q (o :: rest) a w := by
  refine wpList_mapUpdate_own _ hg m x v _ hop 3 33 keyI Try.underlying32 RF b n D hm h.own hn _ _ _ hx hv (keyOf_i h0 h1) (.held (.slice af nf cf)) [] rfl ?_
  intro w' g1 g2
  exact hK _ _ (h.put h0 h1 hl g1 g2) (kept_grown h g2) g2
end
end Go.Proofs.Ytlipgaefflecaaa
end

section
set_option maxRecDepth 100000
set_option linter.unusedVariables false
set_option linter.unusedSimpArgs false
namespace Go.Proofs.Ytlipgaefflecaaa
open Go.RowKit
open Ca

/-- A row of the call's own of rows that were read in w0. -/
def AccR (w0 w : World) (O : Nat) (a : Option Addr) (n c : Nat) (ls : List (List Ent)) : Prop :=
  ls.length = n ∧ ∃ cs, w.ownsRow O 33 1 (.slice a n c) n cs ∧ ∀ i, i < n → ∃ ai ni ci, cs[i]? = some (.slice ai ni ci) ∧ Es w0 ai ni ci (nth ls i)
theorem AccR.nil (w0 w : World) (O : Nat) : AccR w0 w O none 0 0 [] := ⟨rfl, [], World.ownsRow_nil w O _ _, fun i hi => by omega⟩
theorem AccR.below {w0 w w' : World} {O n c : Nat} {a : Option Addr} {ls : List (List Ent)} (h : AccR w0 w O a n c ls) (k : Below w.heap.size w w') : AccR w0 w' O a n c ls := by
  obtain ⟨h1, cs, h2, h3⟩ := h
  exact ⟨h1, cs, own_below h2 k, h3⟩
theorem AccR.ess {w0 w : World} {O n c : Nat} {a : Option Addr} {ls : List (List Ent)} (h : AccR w0 w O a n c ls) (k : Kept w0 w) : Ess w a n c ls := by
  obtain ⟨h1, cs, h2, h3⟩ := h
  have h4 := own_cap h2
  refine ⟨h1, h4.2.1, h4.2.2, fun i hi => ?_⟩
  obtain ⟨ai, ni, ci, g1, g2⟩ := h3 i hi
  obtain ⟨b, off, rfl, g3⟩ := (Row.of_own h2) i _ g1
  exact ⟨b, off, ai, ni, ci, rfl, g3, g2.kept k⟩
section
variable {w : World} {ops : Array Oper} {rest : List Oper} {o : Oper} {a : Act} {Q : Exit → Act → World → Prop}
/-- append of one row. -/
theorem app_row (hgd : Region.wanted o (yielded ops a.tmps) = true) (s x : Operand) (ho : o.op = .call { callee := .builtin .append, args := #[s, x], argTypes := #[22, 22] })
    (w0 : World) (O : Nat) {aq : Option Addr} {n c : Nat} {ls : List (List Ent)} (hs : a.eval s = .slice aq n c) (hacc : AccR w0 w O aq n c ls)
    {k : Nat} {p : List Ent} {np : Nat} {ap : Option Addr} {cp : Nat} (hx : a.eval x = .slice (some ⟨k, 0, none⟩) 1 1) (hcell : w.cell? ⟨k, 0, none⟩ = some (.slice ap np cp)) (hp : Es w0 ap np cp p)
    (hb : n ≤ 1000000000) (hB : O ≤ w.heap.size)
    (h : ∀ a' c' w', AccR w0 w' O a' (n + 1) c' (ls ++ [p]) → Below O w w' → Evol w aq w' a' → wpList Try.prog ops Q rest (a.put o.dst (.slice a' (n + 1) c')) w') : wpList Try.prog ops Q (o :: rest) a w := by
  obtain ⟨i, hi, h0, h1, h2⟩ := info_parts infoEs
  obtain ⟨hl, cs, hown, hin⟩ := hacc
  have hcl : cs.length = n := by simpa using hown.1
  have hr : Row w (some ⟨k, 0, none⟩) [.slice ap np cp] := fun j v hj => by
    cases j with
    | zero => cases hj; exact ⟨k, 0, rfl, hcell⟩
    | succ j => simp at hj
  refine wpList_app_own hgd s x 22 ho O 33 i (.slice none 0 0) 1 24 Try.underlying22 hi h0 h1 h2 rfl (by decide) aq n c cs hs hown (some ⟨k, 0, none⟩) 1 1 [.slice ap np cp] hx hr rfl (fun u hu => by simp at hu; subst hu; rfl) (by omega) (by simp only [maxLen]; omega) hB ?_
  intro a' c' w' g1 g2
  refine h a' c' w' ⟨by simp [hl], _, g1, fun i hi => ?_⟩ (g2.below hB (fun x hx => by subst hx; exact (World.ownsRow.lt hown x.block rfl).1)) g2
  by_cases e : i = n
  · subst e
    refine ⟨ap, np, cp, by rw [List.getElem?_append_right (by omega)]; simp [hcl], ?_⟩
    rw [nth_eq _ (by simp; omega)]
    simpa [← hl] using hp
  · rw [nth_append_left _ _ (by omega)]
    obtain ⟨ai, ni, ci, k1, k2⟩ := hin i (by omega)
    exact ⟨ai, ni, ci, by rw [List.getElem?_append_left (by omega)]; exact k1, k2⟩
end
end Go.Proofs.Ytlipgaefflecaaa
end

section
set_option maxRecDepth 100000
set_option linter.unusedVariables false
set_option linter.unusedSimpArgs false
namespace Go.Proofs.Ytlipgaefflecaaa
open Go.RowKit
open Ca

theorem sumL_takele (ls : List (List Ent)) (k : Nat) : Ent.sumL (ls.take k) ≤ Ent.sumL ls := by
  have h : Ent.sumL ls = Ent.sumL (ls.take k) + Ent.sumL (ls.drop k) := by
    unfold Ent.sumL
    rw [← List.sum_append_nat, ← List.map_append, List.take_append_drop]
  omega
section
variable {w : World} {ops : Array Oper} {rest : List Oper} {o : Oper} {a : Act} {Q : Exit → Act → World → Prop}
/-- 'files[f]', the row being known. -/
theorem look_fd (hg : o.guard = none) (m x : Operand) (hop : o.op = Op.lookup 32 m x false) {b n : Nat} {D : DataW Value} {F : Int → List Ent} (hm : a.eval m = .map (some b)) (h : FM w b n D F)
    {f : Int} (h0 : 0 ≤ f) (h1 : f ≤ 1099511627776) (hx : a.eval x = .int .i64 f) {af : Option Addr} {nf cf : Nat} (hat : D.atKey (.int .i64 f) (.held (.slice none 0 0)) = .held (.slice af nf cf)) (hK : wpList Try.prog ops Q rest (a.put o.dst (.slice af nf cf)) w) : wpList Try.prog ops Q (o :: rest) a w := by
  refine wpList_plain hg fun K' hK' => ?_
  obtain ⟨v, ps, hrun, hv⟩ := h.own.lookup keyI Try.underlying32 (zeroSl w) (zd := .held (.slice none 0 0)) (zp := []) rfl (keyOf_i h0 h1)
  rw [hat] at hv
  have : v = .slice af nf cf := by unfold RF at hv; injection hv with hv; injection hv with h1 h2; injection h1
  subst this
  unfold Oper.wp
  simp [execOp, hop, hm, hx, hrun, Result.andThen]
  exact hK' _ _ hK
end
set_option maxHeartbeats 3000000 in
theorem lseen_any (a : Option Addr) (n c : Nat) (vt : List Tab) (sq nx wl : Int) (bm nm : Nat) (Dm : DataW Value) (F : Int → List Ent) (up : Nat) (w : World) (h : Ts w a n c vt) (hm : FM w bm nm Dm F) (hn : n ≤ 1000)
    (hf : ∀ t ∈ vt, 0 ≤ t.file ∧ t.file ≤ 1099511627776) (hR : Ent.allR (vt.map fun t => F t.file) = true) (hs : Ent.sumL (vt.map fun t => F t.file) ≤ 30000) :
    Calls Try.prog 10 #[vv a n c sq nx wl, .map (some bm), .int .u64 up] w fun e w' => ∃ a' m co b, e = .returned (.tuple #[.slice a' m co, .bool b]) ∧ Es w' a' m co (Ent.seen (Ent.mergeL (vt.map fun t => F t.file)) up) ∧ Below w.heap.size w w' ∧ (b = true → (Ent.mergeL (vt.map fun t => F t.file)).length = Ent.sumL (vt.map fun t => F t.file)) := by
  have HT : Hid (∀ W, Below w.heap.size w W → Ts W a n c vt) := Lib.hid fun W k => h.below k
  have HM : Hid (∀ W, Below w.heap.size w W → FM W bm nm Dm F) := Lib.hid fun W k => hm.below k
  have HF := Lib.hid hf
  have HR := Lib.hid hR
  have HS := Lib.hid hs
  have HL := Lib.hid h.1
  have hle := h.le
  clear h hm hf hR hs
  have hvn := VBox.new w a n c sq nx wl
  have hbv := below_alloc1 w (.cells #[.slice a n c, .int .u64 sq, .int .i64 nx, .int .i64 wl] 31)
  unfold vv
  go_enter Try.func10, Try.ntmps10
  go_upto_region 1 with fail
  generalize w.alloc (.cells #[.slice a n c, .int .u64 sq, .int .i64 nx, .int .i64 wl] 31) = w0 at *
  have HB0 := Lib.hid hbv
  have v0 := hvn.cells.1
  have HV := Lib.hid (fun (W : World) (k : Below w0.heap.size w0 W) => cell_later k v0)
  clear hbv hvn v0
  go_wp2_with fail
  go_loopw [8, 9, 10] (fun lv nv iv wr => ∃ (i s : Nat) (al : Option Addr) (cl : Nat), i ≤ n ∧ lv = .slice al i cl ∧ nv = .int .i64 s ∧ iv = .int .i64 i ∧ Hid (s = Ent.sumL ((vt.map fun t => F t.file).take i)) ∧ Hid (AccR w0 wr w0.heap.size al i cl ((vt.map fun t => F t.file).take i)) ∧ Hid (Below w0.heap.size w0 wr)) (fun _ _ iv _ => n - (intOf iv).toNat)
  case atStart => exact ⟨0, 0, none, 0, by omega, rfl, rfl, rfl, Lib.hid rfl, Lib.hid (AccR.nil _ _ _), Lib.hid (Below.refl _ _)⟩
  case round =>
    obtain ⟨i, s, al, cl, hi, rfl, rfl, rfl, HSS, HA, HB⟩ := hrel
    have v0 := HV.out wr HB.out
    have HBW := Lib.hid (HB0.out.trans (HB.out.mono HB0.out.size))
    by_cases hlt : i < n
    · have t1 : decide ((i : Int) < (n : Int)) = true := decide_eq_true (by omega)
      have t2 : decide (i < n) = true := decide_eq_true hlt
      obtain ⟨b1, o1, rfl, g1⟩ := (HT.out wr HBW.out).get hlt
      have c0 := g1.file
      clear g1
      have HC : Hid (∀ W, Below w.heap.size w W → W.cell? ⟨b1, o1 + i * 5, none⟩ = some (.int .i64 (nth vt i).file)) := Lib.hid fun W k => by
        obtain ⟨_, _, e, g⟩ := (HT.out W k).get hlt
        cases e
        exact g.file
      have hil : i < vt.length := by rw [HL.out]; exact hlt
      have hfr := HF.out (nth vt i) (by rw [nth_eq _ hil]; exact List.getElem_mem _)
      have HNX : Hid ((vt.map fun t => F t.file).take (i + 1) = (vt.map fun t => F t.file).take i ++ [F (nth vt i).file]) := Lib.hid (by rw [List.take_succ_eq_append_getElem (by simpa using hil), List.getElem_map, nth_eq _ hil])
      obtain ⟨af, nf, cf, d1, d2⟩ := (HM.out w0 HB0.out).at_ _ hfr.1 hfr.2
      have HD1 := Lib.hid d1
      have HD2 := Lib.hid d2
      clear d1 d2
      have HFM := Lib.hid (HM.out wr HBW.out)
      generalize hfe : (nth vt i).file = f at *
      clear hfe
      go_upto_region 7 with (first | (refine look_fd rfl _ _ rfl rfl HFM.out hfr.1 hfr.2 rfl HD1.out ?_) | (at_builtin; refine app_row rfl _ _ rfl w0 w0.heap.size rfl (HA.out.below (below_alloc1 _ _)) rfl (by rw [cell_of_row _ _ _ _ _ _ (heap_alloc_new _ _)]; rfl) HD2.out (by omega) (le_alloc HB.out.size) ?_; intro a9 c9 w9 h9 hb9 _; have H9 := Lib.hid h9; have HB9 := Lib.hid ((HB.out.alloc HB.out.size _).trans hb9); clear h9 hb9))
      have HBW9 := Lib.hid (HB0.out.trans (HB9.out.mono HB0.out.size))
      clear v0 c0 HFM
      have v0 := HV.out w9 HB9.out
      have c0 := HC.out w9 HBW9.out
      have HFM := Lib.hid (HM.out w9 HBW9.out)
      have hnl : nf = (F f).length := HD2.out.1.symm
      have HSN : Hid (s + nf = Ent.sumL ((vt.map fun t => F t.file).take (i + 1))) := Lib.hid (by rw [HNX.out, hnl, HSS.out]; simp [Ent.sumL])
      have hsb : s + nf ≤ 30000 := by rw [HSN.out]; exact Nat.le_trans (sumL_takele _ _) HS.out
      go_wp2_with (refine look_fd rfl _ _ rfl rfl HFM.out hfr.1 hfr.2 rfl HD1.out ?_)
      go_roundw
      case rel => exact ⟨i + 1, s + nf, a9, c9, by omega, by go_num, by go_num, by go_num, HSN, Lib.hid (by rw [HNX.out]; exact H9.out), HB9⟩
      case measure => simp [intOf]; omega
    · obtain rfl : i = n := by omega
      have t1 : decide ((i : Int) < (i : Int)) = false := decide_eq_false (by omega)
      have t2 : decide (i < i) = false := decide_eq_false (by omega)
      have e0 : (vt.map fun t => F t.file).take i = vt.map fun t => F t.file := List.take_of_length_le (by rw [List.length_map, HL.out]; exact Nat.le_refl _)
      have HESS : Hid (Ess wr al i cl (vt.map fun t => F t.file)) := Lib.hid (by rw [← e0]; exact HA.out.ess (Kept.below HB.out))
      have HSS2 : Hid (s = Ent.sumL (vt.map fun t => F t.file)) := Lib.hid (by rw [HSS.out, e0])
      clear e0 HSS HA HF
      have HMR := Lib.hid (mergeL_right HR.out)
      have hsb : s ≤ 30000 := by rw [HSS2.out]; exact HS.out
      generalize hls : (vt.map fun t => F t.file) = ls at *
      have HLS := Lib.hid hls
      clear hls
      go_wp2_with fail
      refine (refmerge_any al i cl ls _ HESS.out (by have := HS.out; omega)).mono ?_
      rintro e w6 ⟨a6, n6, c6, rfl, h6, hb6⟩
      rw [(allR_yes HR.out).1] at h6
      have HB6 := Lib.hid (HBW.out.trans (hb6.mono HBW.out.size))
      have hn6 : n6 ≤ 30000 := by rw [← h6.1]; exact Nat.le_trans (merge_len ls) HS.out
      have H6 := Lib.hid h6
      have HN6 := Lib.hid h6.1
      clear h6 hb6
      go_wp2_with fail
      have hsn := refseen_e a6 n6 c6 (Ent.mergeL ls) up _ H6.out (by omega)
      unfold Ent.seenE Ent.erE at hsn
      rw [if_pos (Ent.rightB_iff.2 HMR.out), if_pos (Ent.rightB_iff.2 HMR.out)] at hsn
      refine hsn.mono ?_
      clear hsn
      rintro e w7 ⟨a7, n7, c7, rfl, h7, hb7⟩
      have HB7 := Lib.hid (HB6.out.trans (hb7.mono HB6.out.size))
      have H7 := Lib.hid h7.es
      clear h7 hb7
      have HBB : Hid ((((n6 : Int) == (s : Int)) = true) → (Ent.mergeL ls).length = Ent.sumL ls) := Lib.hid (fun hb => by have := of_decide_eq_true hb; rw [HN6.out, ← HSS2.out]; omega)
      generalize hbq : ((n6 : Int) == (s : Int)) = bq at *
      go_wp2
      go_ret2
      rw [HLS.out]
      exact ⟨a7, n7, c7, _, rfl, H7.out, HB7.out, HBB.out⟩
end Go.Proofs.Ytlipgaefflecaaa
end

section
set_option maxRecDepth 100000
set_option linter.unusedVariables false
set_option linter.unusedSimpArgs false
namespace Go.Proofs.Ytlipgaefflecaaa
open Go.RowKit
open Ca

/-- A block that holds neither strings nor bytes. -/
def Stiff (w : World) (b : Nat) : Prop := ∀ o v, w.cell? ⟨b, o, none⟩ = some v → (∀ s, v ≠ .string s) ∧ ∀ z, v ≠ .int .u8 z
/-- All blocks but one read as they did. -/
def But (b : Nat) (w w' : World) : Prop := ∀ k o v, k ≠ b → w.cell? ⟨k, o, none⟩ = some v → w'.cell? ⟨k, o, none⟩ = some v
theorem But.oth {b : Nat} {w w' : World} (h : Oth (some ⟨b, 0, none⟩) w w') : But b w w' := fun k o v hk hv =>
  (World.cell?_of_block (a := ⟨k, o, none⟩) (h.block k (World.block_lt_of_cell? _ _ hv) (fun x hx => by cases hx; exact Ne.symm hk))).trans hv
theorem Bs.but {w w' : World} {b n c : Nat} {a : Option Addr} {l : List UInt8} (h : Bs w a n c l) (s : Stiff w b) (k : But b w w') : Bs w' a n c l :=
  ⟨h.1, h.2.1, h.2.2.1, fun j v hv => by
    obtain ⟨b', off, rfl, hc⟩ := h.2.2.2 j v hv
    have hm : v ∈ vs l := List.mem_of_getElem? hv
    obtain ⟨x, _, rfl⟩ := List.mem_map.1 hm
    exact ⟨b', off, rfl, k _ _ _ (fun e => by subst e; exact (s _ _ hc).2 _ rfl) hc⟩⟩
theorem Es.but {w w' : World} {b n c : Nat} {a : Option Addr} {l : List Ent} (h : Es w a n c l) (s : Stiff w b) (k : But b w w') : Es w' a n c l :=
  ⟨h.1, h.2.1, h.2.2.1, fun i hi => by
    obtain ⟨b', off, ai, ci, h1, h2, h3⟩ := h.2.2.2 i hi
    have hne : b' ≠ b := fun e => by subst e; exact (s _ _ h2.key).1 _ rfl
    exact ⟨b', off, ai, ci, h1, ⟨k _ _ _ hne h2.key, k _ _ _ hne h2.seq, k _ _ _ hne h2.gone, k _ _ _ hne h2.val⟩, h3.but s k⟩⟩
theorem Ts.but {w w' : World} {b n c : Nat} {a : Option Addr} {l : List Tab} (h : Ts w a n c l) (s : Stiff w b) (k : But b w w') : Ts w' a n c l :=
  ⟨h.1, h.2.1, h.2.2.1, fun j v hv => by
    obtain ⟨b', off, rfl, hc⟩ := h.2.2.2 j v hv
    refine ⟨b', off, rfl, k _ _ _ (fun e => ?_) hc⟩
    subst e
    have hj := (List.getElem?_eq_some_iff.1 hv).1
    rw [tv_len] at hj
    obtain ⟨b2, off2, e2, g⟩ := h.get (i := 0) (by rw [← h.1]; omega)
    cases e2
    exact (s _ _ g.first).1 _ rfl⟩
theorem VBox.stiff {w : World} {b n c : Nat} {a : Option Addr} {sq nx wl : Int} (h : VBox w b a n c sq nx wl) : Stiff w b := fun o v hv => by
  rw [cell_of_row _ _ _ _ _ _ h.blk] at hv
  match o, hv with
  | 0, hv => cases hv; exact ⟨fun _ e => (by cases e), fun _ e => (by cases e)⟩
  | 1, hv => cases hv; exact ⟨fun _ e => (by cases e), fun _ e => (by cases e)⟩
  | 2, hv => cases hv; exact ⟨fun _ e => (by cases e), fun _ e => (by cases e)⟩
  | 3, hv => cases hv; exact ⟨fun _ e => (by cases e), fun _ e => (by cases e)⟩
  | o + 4, hv => simp at hv
theorem FM.ne {w : World} {b g n n' c' : Nat} {a' : Option Addr} {sq nx wl : Int} {D : DataW Value} {F : Int → List Ent} (h : FM w b n D F) (hv : VBox w g a' n' c' sq nx wl) : b ≠ g := fun e => by
  subst e
  obtain ⟨es, clock, h1, _⟩ := h.own
  rw [hv.blk] at h1
  cases h1
theorem FM.but {w w' : World} {b g n : Nat} {D : DataW Value} {F : Int → List Ent} (h : FM w b n D F) (s : Stiff w g) (k : But g w w') (hb : w'.heap[b]? = w.heap[b]?) : FM w' b n D F := by
  refine ⟨?_, fun f h0 h1 => ?_⟩
  · obtain ⟨es, clock, h1, G, hs, hD⟩ := h.own
    exact ⟨es, clock, hb.trans h1, G, hs, hD⟩
  · obtain ⟨a, m, c, g1, g2⟩ := h.at_ f h0 h1
    exact ⟨a, m, c, g1, g2.but s k⟩
theorem vset_oth (w : World) (b : Nat) (a : Option Addr) (n c : Nat) (sq nx wl : Int) : Oth (some ⟨b, 0, none⟩) w (vset w b a n c sq nx wl) :=
  ((((Oth.refl (some ⟨b, 0, none⟩) w).set rfl (p := ⟨b, 0, none⟩) rfl _).set rfl (p := ⟨b, 1, none⟩) rfl _).set rfl (p := ⟨b, 2, none⟩) rfl _).set rfl (p := ⟨b, 3, none⟩) rfl _
/-- A shape in its box. -/
def SB (w : World) (g : Nat) (z b t : Int) : Prop := w.cell? ⟨g, 0, none⟩ = some (.int .i64 z) ∧ w.cell? ⟨g, 1, none⟩ = some (.int .i64 b) ∧ w.cell? ⟨g, 2, none⟩ = some (.int .i64 t)
theorem SB.kept {w w' : World} {g : Nat} {z b t : Int} (h : SB w g z b t) (k : Kept w w') : SB w' g z b t := ⟨k _ _ _ h.1, k _ _ _ h.2.1, k _ _ _ h.2.2⟩
theorem SB.new (w : World) (z b t : Int) : SB (w.alloc (.cells #[.int .i64 z, .int .i64 b, .int .i64 t] 24)) w.heap.size z b t := by
  have h := heap_alloc_new w (.cells #[.int .i64 z, .int .i64 b, .int .i64 t] 24)
  exact ⟨(cell_of_row _ _ 0 _ _ _ h).trans rfl, (cell_of_row _ _ 1 _ _ _ h).trans rfl, (cell_of_row _ _ 2 _ _ _ h).trans rfl⟩
theorem Kept.refl (w : World) : Kept w w := fun _ _ _ h => h
theorem Kept.trans {w w1 w2 : World} (h : Kept w w1) (k : Kept w1 w2) : Kept w w2 := fun b o v hv => k b o v (h b o v hv)
theorem Kept.then {w w1 w2 : World} {N : Nat} (h : Kept w w1) (k : Below N w1 w2) (hN : w.heap.size ≤ N) : Kept w w2 := fun b o v hv =>
  (World.cell?_of_block (a := ⟨b, o, none⟩) (k.block b (Nat.lt_of_lt_of_le (World.block_lt_of_cell? _ _ hv) hN))).trans (h b o v hv)
theorem Ess.kept {w w' : World} {a : Option Addr} {n c : Nat} {ls : List (List Ent)} (h : Ess w a n c ls) (k : Kept w w') : Ess w' a n c ls :=
  ⟨h.1, h.2.1, h.2.2.1, fun i hi => by obtain ⟨b, off, ai, ni, ci, h1, h2, h3⟩ := h.2.2.2 i hi; exact ⟨b, off, ai, ni, ci, h1, k _ _ _ h2, h3.kept k⟩⟩
theorem Zs.kept {w w' : World} {a : Option Addr} {n c : Nat} {l : List Int} (h : Zs w a n c l) (k : Kept w w') : Zs w' a n c l := ⟨h.1, h.2.1, h.2.2.1, Row.kept h.2.2.2 k⟩
/-- Where the play stands: the version in its box, its tables, the files. -/
structure Ca.St (w : World) (g5 g9 bm : Nat) (z b t : Int) (W : World) (a : Option Addr) (n c nm : Nat) (F : Int → List Ent) (vt : List Tab) : Prop where
  below : Below w.heap.size w W
  sb : SB W g5 z b t
  vb : VBox W g9 a n c 0 0 0
  ts : Ts W a n c vt
  fm : ∃ D, FM W bm nm D F
  lo9 : w.heap.size ≤ g9
  lom : w.heap.size ≤ bm
  ne : g5 ≠ g9
section
variable {w W W' : World} {g5 g9 bm n c nm : Nat} {z b t : Int} {a : Option Addr} {F : Int → List Ent} {vt : List Tab}
theorem Ca.St.later (h : Ca.St w g5 g9 bm z b t W a n c nm F vt) (k : Below W.heap.size W W') : Ca.St w g5 g9 bm z b t W' a n c nm F vt where
  below := h.below.trans (k.mono h.below.size)
  sb := h.sb.kept (Kept.below k)
  vb := h.vb.below k h.vb.lt
  ts := h.ts.below k
  fm := by obtain ⟨D, hD⟩ := h.fm; exact ⟨D, hD.below k⟩
  lo9 := h.lo9
  lom := h.lom
  ne := h.ne
theorem Ca.St.vput (h : Ca.St w g5 g9 bm z b t W a n c nm F vt) {a' : Option Addr} {n' c' : Nat} {vt' : List Tab} (ht : Ts W a' n' c' vt') : Ca.St w g5 g9 bm z b t (vset W g9 a' n' c' 0 0 0) a' n' c' nm F vt' := by
  have ho := vset_oth W g9 a' n' c' 0 0 0
  have hbt := But.oth ho
  have hs := h.vb.stiff
  refine ⟨vset_below h.below h.lo9, ⟨hbt _ _ _ h.ne h.sb.1, hbt _ _ _ h.ne h.sb.2.1, hbt _ _ _ h.ne h.sb.2.2⟩, h.vb.put, ht.but hs hbt, ?_, h.lo9, h.lom, h.ne⟩
  obtain ⟨D, hD⟩ := h.fm
  have hne := hD.ne h.vb
  exact ⟨D, hD.but hs hbt (ho.block bm hD.own.lt (fun x hx e => hne (by cases hx; exact e.symm)))⟩
theorem Ca.St.put (h : Ca.St w g5 g9 bm z b t W a n c nm F vt) {D' : DataW Value} {F' : Int → List Ent} {nm' : Nat} (hf : FM W' bm nm' D' F') (hk : Kept W W') (hg : W.grownBy W' (some bm)) : Ca.St w g5 g9 bm z b t W' a n c nm' F' vt := by
  have hne : bm ≠ g9 := by obtain ⟨D, hD⟩ := h.fm; exact hD.ne h.vb
  have ho := Oth.grown hg
  refine ⟨h.below.trans (ho.below h.below.size (fun x hx => by cases hx; exact h.lom)), h.sb.kept hk, ⟨?_⟩, h.ts.kept hk, ⟨D', hf⟩, h.lo9, h.lom, h.ne⟩
  exact (ho.block g9 h.vb.lt (fun x hx e => hne (by cases hx; exact e))).trans h.vb.blk
end
theorem acct_grown {w w' : World} {B n c b : Nat} {a : Option Addr} {l : List Tab} (h : AccT w B a n c l) (hb : b < B) (hg : w.grownBy w' (some b)) : AccT w' B a n c l :=
  ⟨h.1, own_oth h.2 (Oth.grown hg) (fun x y hx hy e => by
    subst hy
    cases hx
    have := (World.ownsRow.lt h.2 y.block rfl).1
    have e' : b = y.block := e
    omega)⟩
end Go.Proofs.Ytlipgaefflecaaa
end

section
set_option maxRecDepth 100000
set_option linter.unusedVariables false
set_option linter.unusedSimpArgs false
namespace Go.Proofs.Ytlipgaefflecaaa
open Go.RowKit
open Ca

/-- An edit in a box of its own. -/
structure EBox (w : World) (b : Nat) (aA : Option Addr) (nA cA : Nat) (aD : Option Addr) (nD cD : Nat) : Prop where
  blk : w.heap[b]? = some (.cells #[.slice aA nA cA, .slice aD nD cD, .int .u64 0, .int .i64 0, .int .i64 0] 43 (0, 0))
section
variable {w w' : World} {b nA cA nD cD : Nat} {aA aD : Option Addr}
theorem EBox.lt (h : EBox w b aA nA cA aD nD cD) : b < w.heap.size := (Array.getElem?_eq_some_iff.1 h.blk).1
theorem EBox.new (w : World) (aA : Option Addr) (nA cA : Nat) (aD : Option Addr) (nD cD : Nat) : EBox (w.alloc (.cells #[.slice aA nA cA, .slice aD nD cD, .int .u64 0, .int .i64 0, .int .i64 0] 43)) w.heap.size aA nA cA aD nD cD := ⟨heap_alloc_new w _⟩
theorem EBox.low (h : EBox w b aA nA cA aD nD cD) {N : Nat} (hb : Below N w w') (hN : b < N) : EBox w' b aA nA cA aD nD cD := ⟨(hb.block b hN).trans h.blk⟩
theorem EBox.cells (h : EBox w b aA nA cA aD nD cD) : w.cell? ⟨b, 0, none⟩ = some (.slice aA nA cA) ∧ w.cell? ⟨b, 1, none⟩ = some (.slice aD nD cD) ∧ w.cell? ⟨b, 2, none⟩ = some (.int .u64 0) ∧ w.cell? ⟨b, 3, none⟩ = some (.int .i64 0) ∧ w.cell? ⟨b, 4, none⟩ = some (.int .i64 0) ∧ ∀ o, w.frozen? ⟨b, o, none⟩ = false :=
  ⟨(cell_of_row _ _ 0 _ _ _ h.blk).trans rfl, (cell_of_row _ _ 1 _ _ _ h.blk).trans rfl, (cell_of_row _ _ 2 _ _ _ h.blk).trans rfl, (cell_of_row _ _ 3 _ _ _ h.blk).trans rfl, (cell_of_row _ _ 4 _ _ _ h.blk).trans rfl, fun o => by simp [World.frozen?, h.blk]⟩
theorem EBox.set (h : EBox w b aA nA cA aD nD cD) (a' : Option Addr) (n' c' : Nat) : EBox (w.setCell ⟨b, 0, none⟩ (.slice a' n' c')) b a' n' c' aD nD cD := by
  refine ⟨?_⟩
  show (w.heap.modify b _)[b]? = _
  obtain ⟨hlt, hk⟩ := Array.getElem?_eq_some_iff.1 h.blk
  rw [Array.getElem?_eq_getElem (by rw [Array.size_modify]; exact hlt), Array.getElem_modify_self, hk]
  rfl
theorem EBox.grown (h : EBox w b aA nA cA aD nD cD) {g : Nat} (hne : g ≠ b) (hg : w.grownBy w' (some g)) : EBox w' b aA nA cA aD nD cD :=
  ⟨((Oth.grown hg).block b h.lt (fun x hx e => hne (by cases hx; exact e))).trans h.blk⟩
end
theorem cell_lo {w w' : World} {N k o : Nat} {v : Value} (h : w.cell? ⟨k, o, none⟩ = some v) (hb : Below N w w') (hN : k < N) : w'.cell? ⟨k, o, none⟩ = some v :=
  (World.cell?_of_block (a := ⟨k, o, none⟩) (hb.block k hN)).trans h
/-- The files, which were read in an elder world. -/
structure FMA (w0 w : World) (b n : Nat) (F : Int → List Ent) : Prop where
  all : ∃ D : DataW Value, w.ownsMap Try.prog 3 RF b n D ∧ ∀ f : Int, 0 ≤ f → f ≤ 1099511627776 → ∃ a m c, D.atKey (.int .i64 f) (.held (.slice none 0 0)) = .held (.slice a m c) ∧ Es w0 a m c (F f)
/-- What stays while parts are laid down: w10 is the world before. -/
structure Ca.Lo (w w10 : World) (g9 gm : Nat) (W : World) (a : Option Addr) (n c nm : Nat) (F : Int → List Ent) : Prop where
  below : Below w.heap.size w W
  vb : VBox W g9 a n c 0 0 0
  kept : Kept w10 W
  fm : FMA w10 W gm nm F
  size : w10.heap.size ≤ W.heap.size
  lo9 : w.heap.size ≤ g9
  lom : w.heap.size ≤ gm
  l10 : w.heap.size ≤ w10.heap.size
  g9 : g9 < w10.heap.size
  gm : gm < w10.heap.size
section
variable {w w10 W W' : World} {g5 g9 gm n c nm : Nat} {z b t : Int} {a : Option Addr} {F : Int → List Ent} {vt : List Tab}
theorem Ca.Lo.start (h : Ca.St w g5 g9 gm z b t W a n c nm F vt) : Ca.Lo w W g9 gm W a n c nm F := by
  obtain ⟨D, hD⟩ := h.fm
  exact ⟨h.below, h.vb, Kept.refl W, ⟨D, hD.own, hD.at_⟩, Nat.le_refl _, h.lo9, h.lom, h.below.size, h.vb.lt, hD.own.lt⟩
theorem Ca.Lo.low (h : Ca.Lo w w10 g9 gm W a n c nm F) {N : Nat} (k : Below N W W') (hN : w10.heap.size ≤ N) : Ca.Lo w w10 g9 gm W' a n c nm F := by
  have h10 := h.l10
  refine ⟨h.below.trans (k.mono (Nat.le_trans h10 hN)), h.vb.below k (Nat.lt_of_lt_of_le h.g9 hN), h.kept.then k hN, ?_, Nat.le_trans h.size k.size, h.lo9, h.lom, h10, h.g9, h.gm⟩
  obtain ⟨D, ⟨es, clock, h1, G, hs, hD⟩, hA⟩ := h.fm.all
  exact ⟨D, ⟨es, clock, (k.block gm (Nat.lt_of_lt_of_le h.gm hN)).trans h1, G, hs, hD⟩, hA⟩
theorem Ca.Lo.ne (h : Ca.Lo w w10 g9 gm W a n c nm F) : gm ≠ g9 := fun e => by
  obtain ⟨D, ⟨es, clock, h1, _⟩, _⟩ := h.fm.all
  rw [e, h.vb.blk] at h1
  cases h1
theorem Ca.Lo.st (h : Ca.Lo w w10 g9 gm W a n c nm F) (hs : SB w10 g5 z b t) (ht : Ts w10 a n c vt) (hne : g5 ≠ g9) : Ca.St w g5 g9 gm z b t W a n c nm F vt := by
  refine ⟨h.below, hs.kept h.kept, h.vb, ht.kept h.kept, ?_, h.lo9, h.lom, hne⟩
  obtain ⟨D, hD, hA⟩ := h.fm.all
  exact ⟨D, hD, fun f h0 h1 => by obtain ⟨a, m, c, g1, g2⟩ := hA f h0 h1; exact ⟨a, m, c, g1, g2.kept h.kept⟩⟩
end
section
variable {w : World} {ops : Array Oper} {rest : List Oper} {o : Oper} {a : Act} {Q : Exit → Act → World → Prop}
theorem FMA.put {w0 w w' : World} {b n : Nat} {F : Int → List Ent} {k : Int} {a : Option Addr} {m c : Nat} {l : List Ent} {D : DataW Value} (hD : w.ownsMap Try.prog 3 RF b n D) (hA : ∀ f : Int, 0 ≤ f → f ≤ 1099511627776 → ∃ a m c, D.atKey (.int .i64 f) (.held (.slice none 0 0)) = .held (.slice a m c) ∧ Es w0 a m c (F f))
    (h0 : 0 ≤ k) (h1 : k ≤ 1099511627776) (hl : Es w0 a m c l) (ho : w'.ownsMap Try.prog 3 RF b (n + 1) (D.put (.int .i64 k) (.held (.slice a m c)))) : FMA w0 w' b (n + 1) (setF F k l) := by
  refine ⟨_, ho, fun f hf0 hf1 => ?_⟩
  unfold setF
  by_cases e : f = k
  · subst e
    rw [if_pos rfl]
    exact ⟨a, m, c, Maps.atKey_put_same hD.isMap (isKeyI h0 h1) _ _, hl⟩
  · rw [if_neg e]
    obtain ⟨a', m', c', g1, g2⟩ := hA f hf0 hf1
    exact ⟨a', m', c', by rw [Maps.atKey_put_other (fun x => e (by cases x; rfl))]; exact g1, g2⟩
/-- 'files[k] = l' of a row that was read in the elder world. -/
theorem store_lo (hg : o.guard = none) (m x v : Operand) (hop : o.op = Op.mapUpdate 32 m x v) {w0 w10 : World} {g9 gm n c nm : Nat} {av : Option Addr} {F : Int → List Ent} (h : Ca.Lo w0 w10 g9 gm w av n c nm F) (hm : a.eval m = .map (some gm)) (hn : nm < maxLen)
    {k : Int} {af : Option Addr} {nf cf : Nat} {l : List Ent} (h0 : 0 ≤ k) (h1 : k ≤ 1099511627776) (hl : Es w10 af nf cf l) (hx : a.eval x = .int .i64 k) (hv : a.eval v = .slice af nf cf)
    (hK : ∀ w', Ca.Lo w0 w10 g9 gm w' av n c (nm + 1) (setF F k l) → w.grownBy w' (some gm) → wpList Try.prog ops Q rest (a.put o.dst undef) w') : wpList Try.prog ops Q (o :: rest) a w := by
  obtain ⟨D, hD, hA⟩ := h.fm.all
  refine wpList_mapUpdate_own _ hg m x v _ hop 3 33 keyI Try.underlying32 RF gm nm D hm hD hn _ _ _ hx hv (keyOf_i h0 h1) (.held (.slice af nf cf)) [] rfl ?_
  intro w' g1 g2
  have ho := Oth.grown g2
  have hne := h.ne
  have hkept : Kept w10 w' := fun kb ko v hv => by
    have h5 := h.kept kb ko v hv
    by_cases e : kb = gm
    · subst e
      obtain ⟨es, clock, h6, G, hs, hD'⟩ := hD
      simp [World.cell?, h6] at h5
    · exact But.oth ho kb ko v e h5
  refine hK _ ⟨h.below.trans (ho.below h.below.size (fun x hx => by cases hx; exact h.lom)), ⟨?_⟩, hkept, FMA.put hD hA h0 h1 hl g1, Nat.le_trans h.size ho.size, h.lo9, h.lom, h.l10, h.g9, h.gm⟩ g2
  exact (ho.block g9 h.vb.lt (fun x hx e => hne (by cases hx; exact e))).trans h.vb.blk
end
end Go.Proofs.Ytlipgaefflecaaa
end

section
set_option maxRecDepth 100000
set_option linter.unusedVariables false
set_option linter.unusedSimpArgs false
namespace Go.Proofs.Ytlipgaefflecaaa
namespace Ca
open Ent (klt klt_trans klt_total klt_asymm klt_irrefl)
variable {F : Int → List Ent} {next k : Nat} {vt l : List Tab}
theorem lens_count : ∀ {vt : List Tab}, (∀ t ∈ vt, F t.file ≠ []) → vt.length ≤ lens F vt
  | [], _ => Nat.zero_le _
  | t :: vt, h => by
    have h1 := lens_count (vt := vt) fun u hu => h u (by simp [hu])
    have h2 := List.length_pos_iff.2 (h t (by simp))
    unfold lens at *
    simp only [List.map_cons, List.sum_cons, List.length_cons]
    omega
theorem Inv.count (I : Inv F next vt) : vt.length ≤ lens F vt := lens_count fun t ht => (I.ok t ht).ne
theorem sizes_mem : ∀ {vt : List Tab} {t : Tab}, t ∈ vt → siz (F t.file) ≤ sizes F vt
  | u :: vt, t, h => by
    unfold sizes
    simp only [List.map_cons, List.sum_cons]
    rcases List.mem_cons.1 h with e | e
    · subst e; omega
    · have := sizes_mem e
      unfold sizes at this
      omega
theorem sumL_lens (F : Int → List Ent) (vt : List Tab) : Ent.sumL (vt.map fun t => F t.file) = lens F vt := by
  unfold Ent.sumL lens
  rw [List.map_map]
  rfl
theorem tab_size {t : Tab} (h : TOk F t) : t.size = ((siz (F t.file) : Nat) : Int) := congrArg Tab.size h.eq
theorem allR_rights {ls : List (List Ent)} (h : ∀ l ∈ ls, Ent.Right l) : Ent.allR ls = true := allR_at fun j hj => Ent.rightB_iff.2 (h _ (by rw [nth_eq _ hj]; exact List.getElem_mem _))
/-- The play between two jobs. -/
structure Play (F : Int → List Ent) (next : Nat) (vt : List Tab) : Prop where
  inv : Inv F next vt
  zero : ∀ f : Int, (next : Int) ≤ f → F f = []
  wt : ∀ t ∈ vt, ∀ e ∈ F t.file, Cp.wt e ≤ 1000000
theorem Play.right (P : Play F next vt) : ∀ x ∈ vt.map (fun t => F t.file), Ent.Right x := fun x hx => by
  obtain ⟨t, ht, rfl⟩ := List.mem_map.1 hx
  exact (P.inv.ok t ht).right
theorem Play.allR (P : Play F next vt) : Ent.allR (vt.map fun t => F t.file) = true := allR_rights P.right
theorem Play.sum (P : Play F next vt) : Ent.sumL (vt.map fun t => F t.file) ≤ 150 := by rw [sumL_lens]; exact P.inv.total
theorem Play.len (P : Play F next vt) : vt.length ≤ 150 := Nat.le_trans P.inv.count P.inv.total
theorem Play.size (P : Play F next vt) : ∀ t ∈ vt, 0 ≤ t.size ∧ t.size ≤ 1099511627776 := fun t ht => by
  rw [tab_size (P.inv.ok t ht)]
  have h1 := sizes_mem (F := F) ht
  have h2 := P.inv.bytes
  omega
theorem Play.file (P : Play F next vt) (hn : next ≤ 1099511627776) : ∀ t ∈ vt, 0 ≤ t.file ∧ t.file ≤ 1099511627776 := fun t ht => by
  have := P.inv.lt t ht
  omega
theorem Play.pot (P : Play F next vt) : pot F vt ≤ 900 := by
  have key : ∀ T : List Tab, (∀ t ∈ T, 0 ≤ t.level) → Ca.pot F T ≤ 6 * lens F T := by
    intro T
    induction T with
    | nil => exact fun _ => by simp [Ca.pot, lens]
    | cons t T ih =>
      intro h
      have h1 := ih fun u hu => h u (by simp [hu])
      have h2 := h t (by simp)
      have e1 : lens F (t :: T) = (F t.file).length + lens F T := by unfold lens; simp
      have e2 : Ca.pot F (t :: T) = (6 - t.level).toNat * (F t.file).length + Ca.pot F T := by unfold Ca.pot; simp
      have h4 : (6 - t.level).toNat * (F t.file).length ≤ 6 * (F t.file).length := Nat.mul_le_mul_right _ (by omega)
      rw [e1, e2, Nat.mul_add]
      omega
  have h1 := key vt fun t ht => (P.inv.ok t ht).lv.1
  have := P.inv.total
  omega
section
variable (P : Play F next vt) (h : Sel vt l k)
include P h
theorem Play.subs : ∀ t ∈ Tab.all k l vt, t ∈ vt := fun t ht => (h.perm P.inv).mem_iff.2 (List.mem_append.2 (.inl ht))
theorem Play.alls : ∀ x ∈ (Tab.all k l vt).map (fun t => F t.file), Ent.Right x := fun x hx => by
  obtain ⟨t, ht, rfl⟩ := List.mem_map.1 hx
  exact (P.inv.ok t (P.subs h t ht)).right
theorem Play.allsR : Ent.allR ((Tab.all k l vt).map fun t => F t.file) = true := allR_rights (P.alls h)
theorem Play.allsLen : (Tab.all k l vt).length ≤ 150 := by
  have h1 := (h.perm P.inv).length_eq
  rw [List.length_append] at h1
  have := P.len
  omega
theorem Play.allsSum : Ent.sumL ((Tab.all k l vt).map fun t => F t.file) ≤ 150 := by
  rw [sumL_lens]
  have h1 := lens_perm (F := F) (h.perm P.inv)
  rw [lens_app] at h1
  have := P.inv.total
  omega
theorem Play.allsWt : ∀ x ∈ (Tab.all k l vt).map (fun t => F t.file), ∀ e ∈ x, Cp.wt e ≤ 1000000 := fun x hx => by
  obtain ⟨t, ht, rfl⟩ := List.mem_map.1 hx
  exact P.wt t (P.subs h t ht)
theorem Play.files (hn : next ≤ 1099511627776) : ∀ f ∈ (Tab.all k l vt).map Tab.file, 0 ≤ f ∧ f ≤ 1099511627776 := fun f hf => by
  obtain ⟨t, ht, rfl⟩ := List.mem_map.1 hf
  exact P.file hn t (P.subs h t ht)
theorem Play.parts {keep size : Nat} {bottom : Bool} {ps : List (List Ent)} (hps : ps = Cp.cut size (Ent.prune (Ent.mergeL ((Tab.all k l vt).map fun t => F t.file)) keep bottom) [] 0) :
    ps.length ≤ 150 ∧ (∀ p ∈ ps, 0 < p.length ∧ p.length ≤ 150 ∧ ∀ e ∈ p, Cp.wt e ≤ 1000000) := by
  have hl : (Ent.prune (Ent.mergeL ((Tab.all k l vt).map fun t => F t.file)) keep bottom).length ≤ 150 := Nat.le_trans (List.length_filter_le _ _) (Nat.le_trans (merge_len _) (P.allsSum h))
  have hne : ∀ p ∈ ps, p ≠ [] := by rw [hps]; exact Cp.cut_ne _ _ _ _
  have hall : ps.flatten = Ent.prune (Ent.mergeL ((Tab.all k l vt).map fun t => F t.file)) keep bottom := by rw [hps, Cp.cut_all]
  refine ⟨by rw [hps]; exact Nat.le_trans (Cp.cut_len _ _ _ _) hl, fun p hp => ⟨List.length_pos_iff.2 (hne p hp), ?_, fun e he => ?_⟩⟩
  · have h1 := (List.sublist_flatten_of_mem hp).length_le
    rw [hall] at h1
    omega
  · have h1 : e ∈ ps.flatten := List.mem_flatten.2 ⟨p, hp, he⟩
    rw [hall] at h1
    obtain ⟨x, hx, hex⟩ := mergeL_mem (P.allsR h) (List.mem_filter.1 h1).1
    exact P.allsWt h x hx e hex
theorem Play.job {keep up size : Nat} {bottom : Bool} (hu : keep ≤ up) {ps : List (List Ent)} (hps : ps = Cp.cut size (Ent.prune (Ent.mergeL ((Tab.all k l vt).map fun t => F t.file)) keep bottom) [] 0)
    {vt' : List Tab} (hp : vt'.Perm (news next k ps ++ dropF vt ((Tab.all k l vt).map Tab.file))) :
    Play (putF F next ps) (next + ps.length) vt' ∧ Ca.pot (putF F next ps) vt' < Ca.pot F vt ∧ Ent.seen (Ent.mergeL (vt'.map fun t => putF F next ps t.file)) up = Ent.seen (Ent.mergeL (vt.map fun t => F t.file)) up := by
  have hj := job_done P.inv h hu hps hp
  refine ⟨⟨hj.1, fun f hf => ?_, fun t ht e he => ?_⟩, hj.2⟩
  · unfold putF
    rw [if_pos (by omega)]
    unfold nth
    rw [List.getD_eq_getElem?_getD, List.getElem?_eq_none (by omega)]
    rfl
  · rcases List.mem_append.1 (hp.mem_iff.1 ht) with h1 | h1
    · obtain ⟨i, hi, rfl⟩ := news_mem h1
      have e1 : putF F next ps (tabOf ((next + i : Nat) : Int) ((k : Int) + 1) (nth ps i)).file = nth ps i := putF_new F next ps i
      rw [e1] at he
      exact ((P.parts h hps).2 _ (by rw [nth_eq _ hi]; exact List.getElem_mem _)).2.2 e he
    · have h2 := (rest_mem (S := Tab.all k l vt)).1 h1
      have h3 := (P.inv.lt t h2.1).2
      rw [putF_old h3] at he
      exact P.wt t h2.1 e he
theorem Play.fits {keep size : Nat} {bottom : Bool} {ps : List (List Ent)} (hps : ps = Cp.cut size (Ent.prune (Ent.mergeL ((Tab.all k l vt).map fun t => F t.file)) keep bottom) [] 0) (hn : next + ps.length ≤ 1099511627776) :
    Ca.Fits vt (news next k ps) ((Tab.all k l vt).map Tab.file) := by
  have J := (P.job h (Nat.le_refl keep) hps (List.Perm.refl _)).1
  have hperm := h.perm P.inv
  have hnd := P.inv.nd
  have hA : ∀ t ∈ news next k ps, t ∈ news next k ps ++ dropF vt ((Tab.all k l vt).map Tab.file) := fun t ht => List.mem_append.2 (.inl ht)
  have jn := J.inv.nd
  rw [List.map_append, List.nodup_append] at jn
  refine ⟨?_, ?_, hnd, ?_, fun f hf => ?_, jn.1, fun t ht u hu => ?_, fun t ht => ?_, fun t ht => ?_, fun t ht => ?_, fun t ht => ?_, ?_⟩
  · have := P.len; omega
  · unfold news
    rw [List.length_map, List.length_range]
    have := (P.parts h hps).1
    omega
  · have h1 := (hperm.map Tab.file).nodup_iff.1 hnd
    rw [List.map_append, List.nodup_append] at h1
    exact h1.1
  · obtain ⟨t, ht, rfl⟩ := List.mem_map.1 hf
    exact List.mem_map.2 ⟨t, P.subs h t ht, rfl⟩
  · exact fun e => jn.2.2 _ (List.mem_map.2 ⟨t, ht, rfl⟩) _ (List.mem_map.2 ⟨u, hu, rfl⟩) e
  · exact J.file hn t (hA t ht)
  · exact (J.inv.ok t (hA t ht)).lv
  · exact (J.inv.ok t (hA t ht)).fl
  · exact J.size t (hA t ht)
  · rcases J.inv.phase with h0 | ⟨_, _, h3⟩
    · rw [List.pairwise_iff_getElem]
      intro i j hi hj hij h1 h2
      have := h0 _ (List.getElem_mem hi)
      omega
    · exact h3.imp fun {x y} hxy h1 h2 => hxy h2
end
theorem putF_nil (hz : ∀ f : Int, (next : Int) ≤ f → F f = []) : putF F next [] = F := by
  funext f
  unfold putF
  by_cases e : (next : Int) ≤ f
  · rw [if_pos e, hz f e]; rfl
  · rw [if_neg e]
theorem putF_snoc (F : Int → List Ent) (next : Nat) {ps : List (List Ent)} {i : Nat} (hi : i < ps.length) : setF (putF F next (ps.take i)) ((next + i : Nat) : Int) (nth ps i) = putF F next (ps.take (i + 1)) := by
  funext f
  unfold setF
  by_cases e : f = ((next + i : Nat) : Int)
  · rw [if_pos e, e, putF_new, nth_take _ (by omega) hi]
  · rw [if_neg e]
    unfold putF
    by_cases e2 : (next : Int) ≤ f
    · rw [if_pos e2, if_pos e2]
      obtain ⟨q, rfl⟩ : ∃ q : Nat, f = ((next + q : Nat) : Int) := ⟨f.toNat - next, by omega⟩
      rw [show ((next + q : Nat) : Int).toNat - next = q by omega]
      have hq : q ≠ i := fun e3 => e (by rw [e3])
      by_cases hq2 : q < i
      · rw [nth_take _ hq2 (by omega), nth_take _ (by omega) (by omega)]
      · unfold nth
        rw [List.getD_eq_getElem?_getD, List.getD_eq_getElem?_getD, List.getElem?_eq_none (by rw [List.length_take]; omega), List.getElem?_eq_none (by rw [List.length_take]; omega)]
    · rw [if_neg e2, if_neg e2]
theorem news_nil (next k : Nat) : news next k [] = [] := rfl
theorem news_snoc (next k : Nat) {ps : List (List Ent)} {i : Nat} (hi : i < ps.length) : news next k (ps.take (i + 1)) = news next k (ps.take i) ++ [tabOf ((next + i : Nat) : Int) ((k : Int) + 1) (nth ps i)] := by
  unfold news
  rw [List.length_take, List.length_take, Nat.min_eq_left (by omega), Nat.min_eq_left (by omega), List.range_succ, List.map_append]
  congr 1
  · apply List.map_congr_left
    intro j hj
    have hj := List.mem_range.1 hj
    rw [nth_take _ (by omega) (by omega), nth_take _ hj (by omega)]
  · simp only [List.map_cons, List.map_nil]
    rw [nth_take _ (by omega) hi]
/-- The tables of the rows. -/
structure Pre (F : Int → List Ent) (i : Nat) (vt : List Tab) : Prop where
  ok : ∀ t ∈ vt, TOk F t
  nd : (vt.map Tab.file).Nodup
  lt : ∀ t ∈ vt, 0 ≤ t.file ∧ t.file < (i : Int)
  lv : ∀ t ∈ vt, t.level = 0
  zero : ∀ f : Int, (i : Int) ≤ f → F f = []
  wt : ∀ t ∈ vt, ∀ e ∈ F t.file, Cp.wt e ≤ 1000000
  bytes : sizes F vt ≤ i * 131072 + 16 * lens F vt
theorem Pre.nil : Pre (fun _ => []) 0 [] := ⟨fun t ht => (by cases ht), List.nodup_nil, fun t ht => (by cases ht), fun t ht => (by cases ht), fun f _ => rfl, fun t ht => (by cases ht), (by unfold sizes; rw [List.map_nil, List.sum_nil]; exact Nat.zero_le _)⟩
theorem Pre.skip {i : Nat} (h : Pre F i vt) : Pre F (i + 1) vt := ⟨h.ok, h.nd, fun t ht => by have := h.lt t ht; omega, h.lv, fun f hf => h.zero f (by omega), h.wt, Nat.le_trans h.bytes (Nat.add_le_add_right (Nat.mul_le_mul_right _ (Nat.le_succ i)) _)⟩
theorem siz_tot : ∀ l : List Ent, siz l = Ent.tot l + 16 * l.length
  | [] => rfl
  | e :: l => by
    have := siz_tot l
    unfold siz Ent.tot Cp.wt at *
    simp only [List.map_cons, List.sum_cons, List.length_cons]
    omega
section
variable {i : Nat} {r : List Ent}
theorem Pre.fits (h : Pre F i vt) (hi : i ≤ 12) (hl : vt.length ≤ 1000) (hr : Ent.Right r) (hn : r ≠ []) (ht : Ent.tot r ≤ 131072) (hrn : r.length ≤ 60) : Ca.Fits vt [tabOf i 0 r] [] := by
  have hone : ∀ t ∈ [tabOf (i : Int) 0 r], t = tabOf i 0 r := fun t ht => List.mem_singleton.1 ht
  have hd : dropF vt [] = vt := dropF_nil vt
  refine ⟨hl, by simp, h.nd, List.nodup_nil, fun f hf => (by cases hf), by simp, fun t ht u hu => ?_, fun t ht => ?_, fun t ht => ?_, fun t ht => ?_, fun t ht => ?_, ?_⟩
  · rw [hone t ht]
    rw [hd] at hu
    have := h.lt u hu
    show (i : Int) ≠ u.file
    omega
  · rw [hone t ht]
    show 0 ≤ (i : Int) ∧ (i : Int) ≤ 1099511627776
    omega
  · rw [hone t ht]
    exact ⟨Int.le_refl _, (by show (0 : Int) ≤ 6; omega)⟩
  · rw [hone t ht]
    exact fst_lst hr.2 hn
  · rw [hone t ht]
    have h1 := siz_tot r
    show 0 ≤ ((siz r : Nat) : Int) ∧ ((siz r : Nat) : Int) ≤ 1099511627776
    omega
  · rw [hd]
    have key : ∀ t ∈ [tabOf (i : Int) 0 r] ++ vt, t.level = 0 := fun t ht => by
      rcases List.mem_append.1 ht with h1 | h1
      · rw [hone t h1]; rfl
      · exact h.lv t h1
    rw [List.pairwise_iff_getElem]
    intro a b ha hb hab h1 h2
    have := key _ (List.getElem_mem ha)
    omega
theorem Pre.put (h : Pre F i vt) (hr : Ent.Right r) (hn : r ≠ []) (ht : Ent.tot r ≤ 131072) {L : List Tab} (hp : L.Perm ([tabOf i 0 r] ++ dropF vt [])) : Pre (setF F i r) (i + 1) L ∧ lens (setF F i r) L = lens F vt + r.length := by
  rw [dropF_nil] at hp
  have hFR : ∀ t ∈ vt, setF F i r t.file = F t.file := fun t ht => by
    unfold setF
    rw [if_neg (by have := h.lt t ht; omega)]
  have hFn : setF F i r (tabOf (i : Int) 0 r).file = r := by unfold setF; exact if_pos rfl
  have hmem : ∀ t ∈ L, t = tabOf i 0 r ∨ t ∈ vt := fun t ht => by
    have := hp.mem_iff.1 ht
    simpa using this
  have hlens : lens (setF F i r) L = lens F vt + r.length := by
    rw [lens_perm hp]
    unfold lens
    rw [List.map_append, List.sum_append_nat, List.map_congr_left (fun t ht => by rw [hFR t ht] : ∀ t ∈ vt, (setF F i r t.file).length = (F t.file).length)]
    simp only [List.map_cons, List.map_nil, List.sum_cons, List.sum_nil, hFn]
    omega
  have hsizes : sizes (setF F i r) L = sizes F vt + siz r := by
    rw [sizes_perm hp]
    unfold sizes
    rw [List.map_append, List.sum_append_nat, List.map_congr_left (fun t ht => by rw [hFR t ht] : ∀ t ∈ vt, siz (setF F i r t.file) = siz (F t.file))]
    simp only [List.map_cons, List.map_nil, List.sum_cons, List.sum_nil, hFn]
    omega
  refine ⟨⟨fun t ht => ?_, ?_, fun t ht => ?_, fun t ht => ?_, fun f hf => ?_, fun t ht e he => ?_, ?_⟩, hlens⟩
  · rcases hmem t ht with e | h1
    · subst e
      exact ⟨by rw [hFn]; exact hn, by rw [hFn]; exact hr, by rw [hFn]; rfl, Int.le_refl _, (by show (0 : Int) ≤ 6; omega)⟩
    · have h2 := h.ok t h1
      exact ⟨by rw [hFR t h1]; exact h2.ne, by rw [hFR t h1]; exact h2.right, by rw [hFR t h1]; exact h2.eq, h2.lv⟩
  · rw [(hp.map _).nodup_iff, List.map_append, List.nodup_append]
    refine ⟨by simp, h.nd, fun a ha b hb e => ?_⟩
    have ha' : a = (i : Int) := by simpa [tabOf] using ha
    obtain ⟨t, ht, rfl⟩ := List.mem_map.1 hb
    have := (h.lt t ht).2
    omega
  · rcases hmem t ht with e | h1
    · subst e
      show 0 ≤ (i : Int) ∧ (i : Int) < ((i + 1 : Nat) : Int)
      omega
    · have := h.lt t h1; omega
  · rcases hmem t ht with e | h1
    · subst e; rfl
    · exact h.lv t h1
  · unfold setF
    rw [if_neg (by omega)]
    exact h.zero f (by omega)
  · rcases hmem t ht with e1 | h1
    · subst e1
      rw [hFn] at he
      have := tot_mem he
      unfold Cp.wt
      omega
    · rw [hFR t h1] at he
      exact h.wt t h1 e he
  · rw [hlens, hsizes, siz_tot]
    have := h.bytes
    rw [Nat.add_mul, Nat.one_mul]
    omega
theorem Pre.right (P : Pre F i vt) : ∀ x ∈ vt.map (fun t => F t.file), Ent.Right x := fun x hx => by
  obtain ⟨t, ht, rfl⟩ := List.mem_map.1 hx
  exact (P.ok t ht).right
theorem Pre.play (h : Pre F i vt) (hi : i ≤ 12) (ht : lens F vt ≤ 150) (hm : (Ent.mergeL (vt.map fun t => F t.file)).length = Ent.sumL (vt.map fun t => F t.file)) : Play F i vt := by
  have hs : Srt (vt.map fun t => F t.file) := fun x hx => (h.right x hx).2
  have hn := merge_full hs hm
  refine ⟨⟨h.ok, h.nd, h.lt, (List.pairwise_map (f := fun t : Tab => F t.file) (R := NoEq)).1 hn, .inl h.lv, ht, ?_⟩, h.zero, h.wt⟩
  have := h.bytes
  omega
theorem Pre.count (h : Pre F i vt) : vt.length ≤ lens F vt := lens_count fun t ht => (h.ok t ht).ne
end
end Ca
end Go.Proofs.Ytlipgaefflecaaa
end

section
set_option linter.unusedVariables false
set_option linter.unusedSimpArgs false
namespace Go.Proofs.Ytlipgaefflecaaa
open Go.RowKit

section
variable {P : Program} {md : Region.Mode} {Q : Exit → Act → World → Prop} {S S2 : World → Prop} {l : List Oper} {ts : List Nat}

/-- Each head but s is waited for by a later head; each of the rest waits for s, or for another one of the rest. -/
def sink3 (md : Region.Mode) (ops : Array Oper) (ts : List Nat) (s : Nat) : Bool :=
  ((List.range ops.size).all fun i => inTail ts i || decide (i = s) || (List.range ops.size).any fun j => decide (i < j) && !inTail ts j && Region.waitsFor md ops j i) &&
  !inTail ts s && ts.all fun t => Region.waitsFor md ops t s || ts.any fun u => decide (u < ops.size) && Region.waitsFor md ops t u
theorem tail_waits3 {ops : Array Oper} {l0 : Array Bool} {ts : List Nat} {s : Nat} {listed : Array Bool} (hs : sink3 md ops ts s = true) (inv : HInv md ops l0 ts listed) :
    ∀ (d i : Nat), ops.size - i = d → i < ops.size → inTail ts i = false → listed.getD i true = false → ∀ t, inTail ts t = true → t ∉ Region.ready md ops listed := by
  simp only [sink3, Bool.and_eq_true] at hs
  obtain ⟨⟨hs1, hs2⟩, hs3⟩ := hs
  intro d
  induction d using Nat.strongRecOn with
  | _ d ih =>
    intro i hd hi hnt hun t ht hr
    obtain ⟨_, ot, hot, hall⟩ := mem_ready.1 hr
    have h1 := List.all_eq_true.1 hs3 t (by unfold inTail at ht; simpa using ht)
    rw [Bool.or_eq_true] at h1
    rcases h1 with h1 | h1
    · obtain ⟨o', ho', e, he, hb, hon⟩ := Region.waitsFor_spec h1
      have : o' = ot := Option.some.inj (ho'.symm.trans hot)
      subst this
      have hsl := hall e he hb
      rw [hon] at hsl
      by_cases his : i = s
      · subst his
        rw [getD_both hun] at hsl
        cases hsl
      · have h2 := List.all_eq_true.1 hs1 i (List.mem_range.2 hi)
        rw [hnt, Bool.false_or, Bool.or_eq_true, decide_eq_true_eq] at h2
        rcases h2 with h2 | h2
        · exact his h2
        · obtain ⟨j, hj, hj2⟩ := List.any_eq_true.1 h2
          simp only [Bool.and_eq_true, decide_eq_true_eq, Bool.not_eq_true'] at hj2
          obtain ⟨⟨hij, hjt⟩, hw⟩ := hj2
          obtain ⟨oj, hoj, e2, he2, hb2, hon2⟩ := Region.waitsFor_spec hw
          have hjs : j < ops.size := List.mem_range.1 hj
          cases hl : listed.getD j false with
          | true =>
            have h3 := inv.closed j oj hoj hl e2 he2 hb2
            rw [hon2, getD_both hun] at h3
            cases h3
          | false => exact ih (ops.size - j) (by omega) j rfl hjs hjt (getD_in (by rw [inv.size]; exact hjs) hl) t ht hr
    · obtain ⟨u, hu, hu2⟩ := List.any_eq_true.1 h1
      simp only [Bool.and_eq_true, decide_eq_true_eq] at hu2
      obtain ⟨o', ho', e, he, hb, hon⟩ := Region.waitsFor_spec hu2.2
      have : o' = ot := Option.some.inj (ho'.symm.trans hot)
      subst this
      have h2 := hall e he hb
      rw [hon, getD_both (inv.tail u (by unfold inTail; simpa using hu) hu2.1)] at h2
      cases h2
theorem anyT_firstG {ops : Array Oper} {l0 : Array Bool} {ts : List Nat} {i : Nat} {oi : Oper} {v : Value} {L : Array Bool → Act → World → Prop} (hi : ops[i]? = some oi) (hsel : ∀ (j : Nat) (o : Oper) cs b, ops[j]? = some o → o.op ≠ .select cs b)
    (hQ : ∀ c a w, Q (.panic c) (a.put oi.dst v) w → Q (.panic c) a w)
    (hw : ∀ listed, HInv md ops l0 ts listed → listed.getD i true = false → ∀ t, inTail ts t = true → t ∉ Region.ready md ops listed) (hin : inTail ts i = false)
    (hdone : ∀ listed a w, L listed a w → ∀ j ∈ Region.ready md ops listed, inTail ts j = true) :
    ∀ (f : Nat) (listed : Array Bool) (a : Act) (w : World), HInv md ops l0 ts listed →
      (∀ j oj, ops[j]? = some oj → j ≠ i → listed.getD j true = false → (∀ e ∈ oj.after, Region.binds md e = true → e.on ≠ i) → oi.apart ops oj = true) →
      i ∈ Region.ready md ops listed → YieldsIf P ops S oi v a → S w →
      anyT P md ops Q S ts L f (listed.setIfInBounds i true) (a.put oi.dst v) w → anyT P md ops Q S ts L (f + 1) listed a w := by
  have hjn : ∀ (listed : Array Bool), HInv md ops l0 ts listed → i ∈ Region.ready md ops listed → ∀ j, j ∈ Region.ready md ops listed → inTail ts j = false := by
    intro listed inv hr j hj
    cases e : inTail ts j with
    | false => rfl
    | true => exact absurd hj (hw listed inv (mem_ready.1 hr).1 j e)
  intro f
  induction f with
  | zero =>
    intro listed a w inv _ hr hy hS H
    refine ⟨fun h => (by rw [h] at hr; cases hr), fun j hj => ⟨hjn listed inv hr j hj, ?_⟩⟩
    by_cases hji : j = i
    · subst hji; exact hy.wpOp hi hS ⟨hS, H⟩
    · have h1 := hdone _ _ _ H j (ready_mono hj hji)
      rw [hjn listed inv hr j hj] at h1
      cases h1
  | succ f ih =>
    intro listed a w inv hfree hr hy hS H
    have hun := (mem_ready.1 hr).1
    refine ⟨fun h => (by rw [h] at hr; cases hr), fun j hj => ⟨hjn listed inv hr j hj, ?_⟩⟩
    by_cases hji : j = i
    · subst hji; exact hy.wpOp hi hS ⟨hS, H⟩
    · have h1 := (H.2 j (ready_mono hj hji)).2
      obtain ⟨hjun, oj, hoj, hall⟩ := mem_ready.1 hj
      have hnot : ∀ e ∈ oj.after, Region.binds md e = true → e.on ≠ i := fun e he hb heq => by
        have h1 := hall e he hb
        rw [heq, getD_both hun] at h1
        cases h1
      have h2 := wpOp_putIf hoj (hfree j oj hoj hji hjun hnot) (fun cs b => hsel i oi cs b hi) (fun cs b => hsel j oj cs b hoj) hQ hy h1
      have hfree' : ∀ k ok, ops[k]? = some ok → k ≠ i → (listed.setIfInBounds j true).getD k true = false →
          (∀ e ∈ ok.after, Region.binds md e = true → e.on ≠ i) → oi.apart ops ok = true := fun k ok hk hki hun hno => by
        refine hfree k ok hk hki ?_ hno
        by_cases hjk : j = k
        · subst hjk; exact hjun
        · rw [getD_set_ne true hjk] at hun; exact hun
      refine wpOp_mono (fun a' w' h3 => ⟨h3.2.1, ih (listed.setIfInBounds j true) a' w' (inv.set hj (hjn listed inv hr j hj)) hfree' (ready_mono hr (Ne.symm hji)) h3.1 h3.2.1 ?_⟩) h2
      rw [Array.setIfInBounds_comm _ _ hji]
      exact h3.2.2
/-- Behind the heads: what is ready is of the rest; the rest in whatever order. -/
def restL (P : Program) (l : List Oper) (Q : Exit → Act → World → Prop) (S2 : World → Prop) (ts : List Nat) (m : Nat) (listed : Array Bool) (a : Act) (w : World) : Prop :=
  (Region.ready .any l.toArray listed).all (inTail ts) = true ∧ anyT P .any l.toArray Q S2 [] (tailL P l Q []) m listed a w
theorem wp_region_two {id : Nat} {a : Act} {w : World} (ts : List Nat) (n m : Nat) (hm : P.follows .mixedOrders = true) (hn : n + m = l.toArray.size)
    (S S2 : World → Prop) (h : anyT P .any l.toArray Q S ts (restL P l Q S2 ts m) n (Array.replicate l.toArray.size false) a w.drew) : (Code.region id l.toArray true).wp P Q a w := by
  have key := anyT_head (g := m) (L := restL P l Q S2 ts m) (fun listed a w hL => by
    have := anyT_head (g := 0) (L := tailL P l Q []) (fun listed a w hL => wpAny_seqL l [] listed a w hL.1 (fun k hk => by cases hk) hL.2) _ _ _ _ hL.2
    simpa using this) _ _ _ _ h
  rw [hn] at key
  exact wp_region_any hm key
def pull3B (ops : Array Oper) (ts : List Nat) (s : Nat) (rs : List Nat) (listed : Array Bool) : Bool :=
  Region.noSelect ops && sink3 .any ops ts s && hinvB ops ts listed && takeL .any ops rs listed && rs.all (fun k => decide (k < ops.size) && !inTail ts k)
/-- Heads that tell the same in every world of S are pulled ahead. -/
theorem anyT_pull3 (rs : List Nat) (s n m : Nat) {listed : Array Bool} {a : Act} {w : World} (hQ : ∀ c a d v w, Q (.panic c) (Act.put a d v) w → Q (.panic c) a w) (hB : pull3B l.toArray ts s rs listed = true) (hS : S w)
    (h : heldL P l.toArray S (fun a' => anyT P .any l.toArray Q S ts (restL P l Q S2 ts m) n (setL listed rs) a' w) (opsAt l rs) a) : anyT P .any l.toArray Q S ts (restL P l Q S2 ts m) (rs.length + n) listed a w := by
  simp only [pull3B, Bool.and_eq_true] at hB
  obtain ⟨⟨⟨⟨hsel, hs⟩, hi⟩, hT⟩, hk⟩ := hB
  have inv := hinv_of hi
  clear hi
  induction rs generalizing listed a with
  | nil => rw [List.length_nil, Nat.zero_add]; exact h
  | cons k rs ih =>
    simp only [takeL, Bool.and_eq_true] at hT
    obtain ⟨⟨hr, hf⟩, hT'⟩ := hT
    simp only [List.all_cons, Bool.and_eq_true, decide_eq_true_eq, Bool.not_eq_true'] at hk
    obtain ⟨⟨hk1, hk2⟩, hk3⟩ := hk
    have hkl : k < l.length := by simpa using hk1
    have h0 : l.toArray[k]? = some (l[k]'hkl) := by simp [hkl]
    have h' : heldL P l.toArray S (fun a' => anyT P .any l.toArray Q S ts (restL P l Q S2 ts m) n (setL (listed.setIfInBounds k true) rs) a' w) (l[k]'hkl :: opsAt l rs) a := by
      unfold opsAt at h
      rw [List.filterMap_cons, List.getElem?_eq_getElem hkl] at h
      exact h
    obtain ⟨v, hy, hK⟩ := h'
    rw [List.length_cons, show rs.length + 1 + n = (rs.length + n) + 1 by omega]
    exact anyT_firstG h0 (Region.noSelect_spec hsel) (fun c a w => hQ c a _ _ w) (fun listed' inv' hu => tail_waits3 hs inv' _ k rfl hk1 hk2 hu) hk2 (fun listed' a' w' hL j hj => List.all_eq_true.1 hL.1 j hj) (rs.length + n) listed a w inv (Region.free_spec h0 hf) (by simpa using hr) hy hS
      (ih hK (List.all_eq_true.2 (by simpa using hk3)) hT' (inv.set (by simpa using hr) hk2))
/-- The heads are done. -/
theorem anyT_done3 {m : Nat} {listed : Array Bool} {a : Act} {w : World} (hB : (Region.ready .any l.toArray listed).all (inTail ts) = true) (h : anyT P .any l.toArray Q S2 [] (tailL P l Q []) m listed a w) : anyT P .any l.toArray Q S ts (restL P l Q S2 ts m) 0 listed a w := ⟨hB, h⟩
def pull0B (ops : Array Oper) (rs : List Nat) (listed : Array Bool) : Bool :=
  Region.noSelect ops && hinvB ops [] listed && takeL .any ops rs listed && rs.all (fun k => decide (k < ops.size))
/-- Of the rest, what tells the same in every world of S is pulled ahead. -/
theorem anyT_pull0 (rs : List Nat) (n : Nat) {listed : Array Bool} {a : Act} {w : World} (hQ : ∀ c a d v w, Q (.panic c) (Act.put a d v) w → Q (.panic c) a w) (hB : pull0B l.toArray rs listed = true) (hS : S w)
    (h : heldL P l.toArray S (fun a' => anyT P .any l.toArray Q S [] (tailL P l Q []) n (setL listed rs) a' w) (opsAt l rs) a) : anyT P .any l.toArray Q S [] (tailL P l Q []) (rs.length + n) listed a w := by
  simp only [pull0B, Bool.and_eq_true] at hB
  obtain ⟨⟨⟨hsel, hi⟩, hT⟩, hk⟩ := hB
  have inv := hinv_of hi
  clear hi
  induction rs generalizing listed a with
  | nil => rw [List.length_nil, Nat.zero_add]; exact h
  | cons k rs ih =>
    simp only [takeL, Bool.and_eq_true] at hT
    obtain ⟨⟨hr, hf⟩, hT'⟩ := hT
    simp only [List.all_cons, Bool.and_eq_true, decide_eq_true_eq] at hk
    obtain ⟨hk1, hk3⟩ := hk
    have hkl : k < l.length := by simpa using hk1
    have h0 : l.toArray[k]? = some (l[k]'hkl) := by simp [hkl]
    have h' : heldL P l.toArray S (fun a' => anyT P .any l.toArray Q S [] (tailL P l Q []) n (setL (listed.setIfInBounds k true) rs) a' w) (l[k]'hkl :: opsAt l rs) a := by
      unfold opsAt at h
      rw [List.filterMap_cons, List.getElem?_eq_getElem hkl] at h
      exact h
    obtain ⟨v, hy, hK⟩ := h'
    rw [List.length_cons, show rs.length + 1 + n = (rs.length + n) + 1 by omega]
    exact anyT_firstG h0 (Region.noSelect_spec hsel) (fun c a w => hQ c a _ _ w) (fun listed' inv' hu t ht => by simp [inTail] at ht) rfl (fun listed' a' w' hL j hj => by
        have h5 := hL.1
        simp only [seqL] at h5
        rw [List.isEmpty_iff.1 h5] at hj
        cases hj) (rs.length + n) listed a w inv (Region.free_spec h0 hf) (by simpa using hr) hy hS
      (ih hK (List.all_eq_true.2 (by simpa using hk3)) hT' (inv.set (by simpa using hr) rfl))
end
end Go.Proofs.Ytlipgaefflecaaa
end
