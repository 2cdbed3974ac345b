/- slices.Delete of one int. -/
import Derived.Test.YtincllchoflpmaaMsE
namespace Go.Proofs.Ytincllchoflpmaa
open Go.RowKit
set_option linter.unusedVariables false

theorem zv_len (l : List Int) : (zv l).length = l.length * 1 := by simp [zv]
theorem zv_erase (l : List Int) (i : Nat) : zv (l.eraseIdx i) = (zv l).take (i * 1) ++ (zv l).drop ((i + 1) * 1) := by
  unfold zv
  rw [List.eraseIdx_eq_take_drop_succ, List.map_append, List.map_take, List.map_drop, Nat.mul_one, Nat.mul_one]
theorem run_clear_i {t : TypeId} (w : World) (ty : TypeId) (ht : Try.prog.underlying t = some (.slice 3)) (b o c : Nat) (hc : (w.cell? ⟨b, o, none⟩).isSome = true) (hf : w.frozen? ⟨b, o, none⟩ = false) :
    (Builtin.clear_ #[t] ty #[.slice (some ⟨b, o, none⟩) 1 c]).run Try.prog w = .ok (.tuple #[]) (w.setCell ⟨b, o, none⟩ (.int .i64 0)) := by
  have hv : ∀ w, (zeroValue 3).run Try.prog w = .ok (.int .i64 0) w := fun w => by
    obtain ⟨i0, hi0, hz0, hz1, hz2⟩ := info_parts infoI
    simp [zeroValue, typeInfo, hi0, hz0]
  have h9 := Lib.run_clear_slice (P := Try.prog) w t 3 ty (.int .i64 0) ht hv rfl rfl b o 1 c (by omega) (fun j hj => by rw [show j = 0 from (by omega)]; exact hc) (fun j hj => by rw [show j = 0 from (by omega)]; exact hf)
  exact h9
set_option maxHeartbeats 2000000 in
theorem deli_any (B g n c i j : Nat) (l : List Int) (w : World) (h : AccI w B (some ⟨g, 0, none⟩) n c l) (hB : B ≤ w.heap.size) (hi : i < n) (hj : j = i + 1) (hn : n ≤ 1000000000) :
    Calls Try.prog 62 #[.slice (some ⟨g, 0, none⟩) n c, .int .i64 i, .int .i64 j] w fun e w' => e = .returned (.slice (some ⟨g, 0, none⟩) (n - 1) c) ∧ AccI w' B (some ⟨g, 0, none⟩) (n - 1) c (l.eraseIdx i) ∧ Oth (some ⟨g, 0, none⟩) w w' := by
  obtain ⟨hl, hown, h64⟩ := h
  have H64 := Lib.hid h64
  clear h64
  have hcap := (own_cap hown).2
  obtain ⟨i0, hi0, hz0, hz1, hz2⟩ := info_parts infoI
  have hcl : n ≤ 9223372036854775807 ∧ c ≤ 9223372036854775807 := by have := hcap.1; have := hcap.2; simp only [maxLen] at *; omega
  have hjn : j ≤ n := by omega
  have hij : i < j := by omega
  obtain ⟨z1, hz1'⟩ : ∃ z, z = subAn (some (⟨g, 0, none⟩ : Addr)) n i 1 := ⟨_, rfl⟩
  obtain ⟨z2, hz2'⟩ : ∃ z, z = subAn (some (⟨g, 0, none⟩ : Addr)) c j 1 := ⟨_, rfl⟩
  obtain ⟨k1, hk1⟩ : ∃ k, k = j - i := ⟨_, rfl⟩
  obtain ⟨k2, hk2⟩ : ∃ k, k = n - i := ⟨_, rfl⟩
  obtain ⟨k3, hk3⟩ : ∃ k, k = n - j := ⟨_, rfl⟩
  obtain ⟨k4, hk4⟩ : ∃ k, k = c - j := ⟨_, rfl⟩
  have s1 : ∀ W, (Instr.slice 39 (.slice (some ⟨g, 0, none⟩) n c) (some (.int .i64 (i : Int))) (some (.int .i64 (j : Int))) (some (.int .i64 (n : Int)))).run Try.prog W = .ok (.slice z1 k1 k2) W := fun W => by
    rw [hz1', hk1, hk2]
    exact run_slice_lhm Try.underlying39 hi0 hz1 _ n c rfl rfl rfl (by omega) hjn hcap.1 W
  have s2 : ∀ W, (Instr.slice 39 (.slice (some ⟨g, 0, none⟩) n c) none (some (.int .i64 (i : Int))) none).run Try.prog W = .ok (.slice (some ⟨g, 0, none⟩) i c) W := fun W => run_slice_h Try.underlying39 hi0 hz1 _ n c rfl (by omega) W
  have s3 : ∀ W, (Instr.slice 39 (.slice (some ⟨g, 0, none⟩) n c) (some (.int .i64 (j : Int))) none none).run Try.prog W = .ok (.slice z2 k3 k4) W := fun W => by
    rw [hz2', hk3, hk4]
    exact run_slice_l Try.underlying39 hi0 hz1 _ n c rfl hjn W
  have t1 : ((i : Int) == (j : Int)) = false := by simp; omega
  have HI := Lib.hid (And.intro hi0 (And.intro hz0 (And.intro hz1 hz2)))
  have HZ := Lib.hid (And.intro hz2' (And.intro hk3 hk4))
  have HJ := Lib.hid hj
  have HL := Lib.hid hl
  have HO := Lib.hid hown
  have HCP := Lib.hid hcap
  clear hi0 hz0 hz1 hz2 hz1' hz2' hk1 hk2 hk3 hk4 hj hl hown hcap
  go_enter Try.func62, Try.ntmps62
  go_upto_region 5 with fail
  have hsrc : ∃ ad : Addr, z2 = some ad ∧ ∀ t u, ((zv l).drop (j * 1))[t]? = some u → w.drew.cell? (ad.add t) = some u := by
    have hr := (Row.of_own HO.out).below (Below.refl _ w).drew
    have hr2 : ∀ t u, ((zv l).drop (j * 1))[t]? = some u → w.drew.cell? ⟨g, j * 1 + t, none⟩ = some u := fun t u hu => by
      rw [List.getElem?_drop] at hu
      obtain ⟨b, off, e, hc⟩ := hr _ _ hu
      cases e
      rw [Nat.zero_add] at hc
      exact hc
    rw [HZ.out.1]
    unfold subAn
    by_cases hcj : c = j
    · rw [if_pos hcj]
      refine ⟨_, rfl, fun t u hu => ?_⟩
      have h9 := (List.getElem?_eq_some_iff.1 hu).1
      rw [List.length_drop, zv_len, HL.out] at h9
      have := HCP.out.1
      omega
    · rw [if_neg hcj]
      refine ⟨_, rfl, fun t u hu => ?_⟩
      have h9 := hr2 t u hu
      simpa [Addr.add_lit] using h9
  obtain ⟨ad, hade, had⟩ := hsrc
  subst hade
  have HAD := Lib.hid had
  have hfo := own_below (own_front HO.out (k := i) (by omega)) (Below.refl _ w).drew
  have HFO := Lib.hid hfo
  have HLN : Hid (((zv l).drop (j * 1)).length = k3 * 1) := Lib.hid (by rw [List.length_drop, zv_len, HL.out, HZ.out.2.1]; omega)
  have HON : Hid (∀ u ∈ (zv l).drop (j * 1), u.oneCell' = true) := Lib.hid fun u hu => zv_one l u (List.mem_of_mem_drop hu)
  have HRM : Hid (i + k3 ≤ c) := Lib.hid (by have := HZ.out.2.1; have := HCP.out.1; omega)
  have HN1 : Hid (i + k3 = n - 1 ∧ i + k3 + 1 = n) := Lib.hid (by have := HZ.out.2.1; have := HJ.out; omega)
  clear had hfo
  refine wp_region_steps [6, 7] 6 6 (by kernel_rfl) (by kernel_rfl) rfl (fun W' => ∃ V : BW w, W' = V.w) ?_
  have HBC := (Below.refl w.heap.size w).drew
  refine anyT_pull [0, 1, 2, 3, 4, 5] 6 0 (by intro c a d v w h; cases d <;> exact h) (by kernel_rfl) ⟨⟨_, HBC⟩, rfl⟩ ?_
  simp only [opsAt, List.filterMap_cons, List.filterMap_nil, List.getElem?_cons_zero, List.getElem?_cons_succ]
  iterate 6
    apply held_step
    · rfl
    · rintro _ ⟨V, rfl⟩
      go_simp
      rfl
  refine held_nil ?_
  refine anyT_done (by kernel_rfl) ?_
  simp only [opsAt, List.filterMap_cons, List.filterMap_nil, List.getElem?_cons_zero, List.getElem?_cons_succ]
  obtain ⟨wd, hwd⟩ : ∃ wd, wd = w.drew := ⟨_, rfl⟩
  rw [← hwd] at HAD HFO ⊢
  have HBD : Hid (Below w.heap.size w wd) := Lib.hid (by rw [hwd]; exact HBC)
  clear hwd HBC s1 s2 s3
  refine wpList_append_own_spare wd rfl _ _ 39 rfl B 3 i0 1 Try.underlying39 HI.out.1 HI.out.2.2.1 g i c ((zv l).take (i * 1)) rfl HFO.out ad k3 k4 ((zv l).drop (j * 1)) rfl HLN.out HAD.out HON.out HRM.out ?_
  intro w5 h5 hg5
  obtain ⟨n1, hn1⟩ : ∃ n1, n1 = i + k3 := ⟨_, rfl⟩
  rw [← hn1] at h5 ⊢
  have hn2 : n1 = n - 1 ∧ n1 + 1 = n := by rw [hn1]; exact HN1.out
  have hcc := HCP.out.1
  have s4 : ∀ W, (Instr.slice 39 (.slice (some ⟨g, 0, none⟩) n1 c) (some (.int .i64 (n1 : Int))) (some (.int .i64 (n : Int))) none).run Try.prog W = .ok (.slice (some ⟨g, n1, none⟩) 1 (c - n1)) W := fun W => by
    have h9 := run_slice_lh (P := Try.prog) Try.underlying39 HI.out.1 HI.out.2.2.1 (some ⟨g, 0, none⟩) n1 c (lo' := n1) (hi' := n) rfl rfl (by omega) hcc W
    rw [show n - n1 = 1 by omega] at h9
    unfold subAn at h9
    rw [if_neg (by omega)] at h9
    simpa [Addr.add_lit] using h9
  have hsp := own_spare h5
  have hcl6 : ∀ ty, (Builtin.clear_ #[39] ty #[.slice (some ⟨g, n1, none⟩) 1 (c - n1)]).run Try.prog w5 = .ok (.tuple #[]) (w5.setCell ⟨g, n1, none⟩ (.int .i64 0)) := fun ty =>
    run_clear_i w5 ty Try.underlying39 g n1 (c - n1) (hsp.1 _ (by omega)) (hsp.2 _)
  have h6 := own_setHigh h5 (k := n1) (by omega) (.int .i64 0)
  have hot2 := ((Oth.of_below (a := some ⟨g, 0, none⟩) HBD.out).trans (Oth.grown hg5)).set (p := ⟨g, n1, none⟩) rfl rfl (.int .i64 0)
  have HEND : Hid (AccI (w5.setCell ⟨g, n1, none⟩ (.int .i64 0)) B (some ⟨g, 0, none⟩) n1 c (l.eraseIdx i) ∧ Oth (some ⟨g, 0, none⟩) w (w5.setCell ⟨g, n1, none⟩ (.int .i64 0))) := Lib.hid ⟨⟨by rw [List.length_eraseIdx, HL.out, if_pos hi]; omega, by rw [zv_erase, ← HJ.out]; exact h6, fun z hz => H64.out z (List.mem_of_mem_eraseIdx hz)⟩, hot2⟩
  have HNE := Lib.hid hn2.1
  have hnn : n1 ≤ 9223372036854775807 := by omega
  clear h5 hg5 hsp h6 hot2 hn1 hn2 HAD HFO HLN HON HRM HN1
  go_wp2
  go_ret
  exact ⟨by rw [HNE.out]; rfl, by rw [← HNE.out]; exact HEND.out.1, HEND.out.2⟩
end Go.Proofs.Ytincllchoflpmaa
