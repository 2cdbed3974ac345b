/- slices.Insert of one int: at the end, and where there is no room. -/
import Derived.Test.YtincllchoflpmaaMsG
namespace Go.Proofs.Ytincllchoflpmaa
open Go.RowKit
set_option linter.unusedVariables false

set_option maxRecDepth 8000 in
set_option maxHeartbeats 4000000 in
theorem insi_end (B n c gv : Nat) (a : Option Addr) (l : List Int) (x : Int) (w : World) (h : AccI w B a n c l) (hB : B ≤ w.heap.size) (hn : n ≤ 1000000000) (hv : w.heap[gv]? = some (.cells #[.int .i64 x] 3)) (hx : I64 x) :
    Calls Try.prog 61 #[.slice a n c, .int .i64 n, .slice (some ⟨gv, 0, none⟩) 1 1] w fun e w' => ∃ a' c', e = .returned (.slice a' (n + 1) c') ∧ AccI w' B a' (n + 1) c' (l ++ [x]) ∧ Oth a w w' := by
  obtain ⟨hl, hown, h64⟩ := h
  have hcap := own_cap hown
  obtain ⟨i0, hi0, hz0, hz1, hz2⟩ := info_parts infoI
  have u := Try.underlying39
  have hcl : c ≤ 9223372036854775807 := by have := hcap.2.2; simp only [maxLen] at this; omega
  obtain ⟨z0, hz0'⟩ : ∃ z, z = subAn a c n 1 := ⟨_, rfl⟩
  obtain ⟨k0, hk0⟩ : ∃ k, k = n - n := ⟨_, rfl⟩
  obtain ⟨C2, hC2⟩ : ∃ k, k = c - n := ⟨_, rfl⟩
  have s0 : ∀ W, (Instr.slice 39 (.slice a n c) (some (.int .i64 (n : Int))) none none).run Try.prog W = .ok (.slice z0 k0 C2) W := fun W => by
    rw [hz0', hk0, hC2]
    exact run_slice_l u hi0 hz1 _ n c rfl (Nat.le_refl _) W
  have hrow : Row w (some ⟨gv, 0, none⟩) [.int .i64 x] := fun j v hj => ⟨gv, 0, rfl, by
    rw [cell_of_row _ _ _ _ _ _ hv, Nat.zero_add]
    simpa using hj⟩
  have t2 : ((n : Int) == (n : Int)) = true := by simp
  have HI := Lib.hid (And.intro hi0 (And.intro hz0 (And.intro hz1 hz2)))
  have HROW := Lib.hid hrow
  have HOWN := Lib.hid hown
  have HB := Lib.hid hB
  have HFI : Hid (∀ a' c' w', w'.ownsRow B 3 1 (.slice a' (n + 1) c') (n + 1) (zv l ++ [.int .i64 x]) → Evol w a w' a' → AccI w' B a' (n + 1) c' (l ++ [x]) ∧ Oth a w w') := Lib.hid fun a' c' w' h1 h2 => ⟨⟨by simp [hl], by rw [zv_app]; exact h1, fun z hz => by
    rcases List.mem_append.1 hz with h1 | h1
    · exact h64 z h1
    · rw [List.mem_singleton.1 h1]; exact hx⟩, Oth.evol h2⟩
  have HN8 : Hid ((n + 1) * 8 ≤ 140737488355328 ∧ n + 1 ≤ maxLen) := Lib.hid ⟨by omega, by simp only [maxLen]; omega⟩
  clear hrow hown hcap hi0 hz0 hz1 hz2 hl h64 hz0' hk0 hC2 hv hB
  go_enter Try.func61, Try.ntmps61
  go_wp2_with (at_builtin; refine wpList_app_own rfl _ _ 39 rfl B 3 i0 (.int .i64 0) 1 8 u HI.out.1 HI.out.2.1 HI.out.2.2.1 HI.out.2.2.2 rfl (by decide) a n c (zv l) rfl HOWN.out (some ⟨gv, 0, none⟩) 1 1 [.int .i64 x] rfl HROW.out (by simp) (by simp; rfl) HN8.out.1 HN8.out.2 HB.out ?_; intro a5 c5 w5 h5 hev5)
  have HF := Lib.hid (HFI.out a5 c5 w5 h5 hev5)
  clear h5 hev5
  try go_wp2
  go_ret
  exact ⟨a5, c5, rfl, HF.out.1, HF.out.2⟩
theorem ins_list2 {L0 zt d R : List Value} {x : Value} {i n : Nat} (hi : i < n) (hn : n + 1 ≤ L0.length) (ht : L0.take i = zt) (hz : zt.length = i) (hd : d.length = n - i) :
    ((L0.take i ++ ([x] ++ L0.drop (i + 1))).take (i + 1) ++ (d ++ R)).take (n + 1) = zt ++ x :: d := by
  rw [ht]
  have h1 : (zt ++ ([x] ++ L0.drop (i + 1))).take (i + 1) = zt ++ [x] := by
    rw [← List.append_assoc, List.take_append_of_le_length (by simp; omega), List.take_of_length_le (by simp; omega)]
  rw [h1, ← List.append_assoc, List.take_append_of_le_length (by simp; omega), List.take_of_length_le (by simp; omega), List.append_assoc]
  rfl
theorem below_setNew {w0 w : World} {n g : Nat} (h : Below n w0 w) (hg : n ≤ g) (cs : Array Value) : Below n w0 (w.setRow g cs) := below_setRow h hg cs
set_option maxRecDepth 8000 in
set_option maxHeartbeats 6000000 in
theorem insi_grow (B g n i gv : Nat) (l : List Int) (x : Int) (w : World) (h : AccI w B (some ⟨g, 0, none⟩) n n l) (hB : B ≤ w.heap.size) (hi : i < n) (hn : n ≤ 1000000000) (hv : w.heap[gv]? = some (.cells #[.int .i64 x] 3)) (hx : I64 x) :
    Calls Try.prog 61 #[.slice (some ⟨g, 0, none⟩) n n, .int .i64 i, .slice (some ⟨gv, 0, none⟩) 1 1] w fun e w' => ∃ a' c', e = .returned (.slice a' (n + 1) c') ∧ AccI w' B a' (n + 1) c' (l.take i ++ x :: l.drop i) ∧ Oth (some ⟨g, 0, none⟩) w w' := by
  obtain ⟨hl, hown, h64⟩ := h
  obtain ⟨cur, hg, hcs, hct, hBg, hnc, hcm⟩ := own_cur hown
  obtain ⟨i0, hi0, hz0, hz1, hz2⟩ := info_parts infoI
  have u := Try.underlying39
  have hgl : g < w.heap.size := (Array.getElem?_eq_some_iff.1 hg).1
  have hgvl : gv < w.heap.size := (Array.getElem?_eq_some_iff.1 hv).1
  obtain ⟨k, hk⟩ : ∃ k, k = n + 1 - i := ⟨_, rfl⟩
  obtain ⟨CP, hCP⟩ : ∃ CP, CP = grownCap w (i + k) n 3 := ⟨_, rfl⟩
  have hcge : n + 1 ≤ CP := by
    have := grownCap_ge w (i + k) n 3
    omega
  have hcmx : CP ≤ maxLen := by rw [hCP]; exact grownCap_le_maxLen w (i + k) n _ (by simp only [maxLen]; omega)
  have hc9 : CP ≤ 9223372036854775807 := by simp only [maxLen] at hcmx; omega
  have hsrc0 : ∀ j v, (zv l)[j]? = some v → ∀ W : World, W.heap[g]? = w.heap[g]? → W.cell? ⟨g, j, none⟩ = some v := fun j v hj W hW => by
    rw [cell_of_row _ _ _ _ _ _ (hW.trans hg), ← Array.getElem?_toList]
    rw [← hct] at hj
    have h9 := (List.getElem?_eq_some_iff.1 hj).1
    rw [List.length_take] at h9
    rwa [List.getElem?_take_of_lt (by omega)] at hj
  have hold : (Builtin.firstCells i0.size i (.slice (some ⟨g, 0, none⟩) i n)).run Try.prog w.drew = .ok (zv (l.take i)).toArray w.drew := by
    rw [hz1]
    refine run_firstCells_some w.drew 1 i ⟨g, 0, none⟩ i n (zv (l.take i)) (by rw [zv_len, List.length_take, hl]; omega) (fun j v hj => ?_)
    rw [Addr.add_lit, Nat.zero_add]
    refine hsrc0 j v ?_ w.drew rfl
    have h9 := (List.getElem?_eq_some_iff.1 hj).1
    rw [← zv_take, List.length_take] at h9
    rw [← zv_take, List.getElem?_take_of_lt (by omega)] at hj
    exact hj
  obtain ⟨ar0, har0⟩ : ∃ ar0, ar0 = (zv (l.take i)).toArray ++ Builtin.zeroCells (Value.int .i64 0).cells k ++ Builtin.zeroCells (Value.int .i64 0).cells (CP - (i + k)) := ⟨_, rfl⟩
  have hsz0 : ar0.size = CP := by
    rw [har0]
    simp [size_zeroCells, Value.cells, zv_len, hl]
    omega
  have htk0 : ar0.toList.take i = zv (l.take i) := by
    rw [har0]
    simp only [Array.toList_append, List.append_assoc]
    rw [List.take_append_of_le_length (by rw [zv_len, List.length_take]; omega), List.take_of_length_le (by rw [zv_len, List.length_take]; omega)]
  obtain ⟨W1, hW1⟩ : ∃ W1, W1 = w.drew.alloc (.cells ar0 3) := ⟨_, rfl⟩
  have hap : ∀ ty, (Builtin.append_ #[39, 3] ty #[.slice (some ⟨g, 0, none⟩) i n, .int .i64 ((n : Int) + 1 - (i : Int))]).run Try.prog w = .ok (.slice (some ⟨w.heap.size, 0, none⟩) (i + k) CP) W1 := fun ty => by
    rw [show (n : Int) + 1 - (i : Int) = ((k : Nat) : Int) by omega, hW1, har0, hCP]
    have h9 := Lib.run_append_grow_zeros (P := Try.prog) w 39 3 ty 3 i0 (.int .i64 0) .i64 .i64 u Try.underlying3 hi0 hz0 (some ⟨g, 0, none⟩) i n (zv (l.take i)) hold k (by omega) (by omega) (by omega) (by omega) (by rw [hz2]; omega) (growslice_fits (by omega) (by rw [hz2]; omega))
    exact h9
  obtain ⟨g2, hg2⟩ : ∃ g2, g2 = w.heap.size := ⟨_, rfl⟩
  rw [← hg2] at hap
  have hbW1 : Below w.heap.size w W1 := by rw [hW1]; exact (Below.refl _ _).drew.alloc (Nat.le_refl _) _
  have hg1 : W1.heap[g2]? = some (.cells ar0 3 (0, 0)) := by rw [hW1, hg2]; exact heap_alloc_new w.drew _
  have hgv1 : W1.heap[gv]? = some (.cells #[.int .i64 x] 3) := (hbW1.block gv hgvl).trans hv
  have hgg1 : W1.heap[g]? = w.heap[g]? := hbW1.block g hgl
  obtain ⟨N1, hN1⟩ : ∃ k, k = n + 1 := ⟨_, rfl⟩
  obtain ⟨i1, hi1⟩ : ∃ k, k = i + 1 := ⟨_, rfl⟩
  obtain ⟨L1, hL1⟩ : ∃ k, k = N1 - i1 := ⟨_, rfl⟩
  obtain ⟨C1, hC1⟩ : ∃ k, k = CP - i1 := ⟨_, rfl⟩
  obtain ⟨L2, hL2⟩ : ∃ k, k = N1 - i := ⟨_, rfl⟩
  obtain ⟨C2, hC2⟩ : ∃ k, k = CP - i := ⟨_, rfl⟩
  obtain ⟨k0, hk0⟩ : ∃ k, k = n - i := ⟨_, rfl⟩
  rw [show i + k = N1 by omega] at hap
  have s0 : ∀ W, (Instr.slice 39 (.slice (some ⟨g, 0, none⟩) n n) (some (.int .i64 (i : Int))) none none).run Try.prog W = .ok (.slice (some ⟨g, i, none⟩) k0 k0) W := fun W => by
    have h9 := run_slice_l (P := Try.prog) u hi0 hz1 (some ⟨g, 0, none⟩) n n (lo := (i : Int)) (lo' := i) rfl (by omega) W
    unfold subAn at h9
    rw [if_neg (by omega), ← hk0] at h9
    simpa [Addr.add_lit] using h9
  have s1 : ∀ W, (Instr.slice 39 (.slice (some ⟨g, 0, none⟩) n n) none (some (.int .i64 (i : Int))) none).run Try.prog W = .ok (.slice (some ⟨g, 0, none⟩) i n) W := fun W => run_slice_h u hi0 hz1 _ n n rfl (by omega) W
  have s2 : ∀ W, (Instr.slice 39 (.slice (some ⟨g2, 0, none⟩) N1 CP) (some (.int .i64 ((i : Int) + 1))) none none).run Try.prog W = .ok (.slice (some ⟨g2, i1, none⟩) L1 C1) W := fun W => by
    have h9 := run_slice_l (P := Try.prog) u hi0 hz1 (some ⟨g2, 0, none⟩) N1 CP (lo := (i : Int) + 1) (lo' := i1) (by rw [hi1]; simp) (by omega) W
    unfold subAn at h9
    rw [if_neg (by omega), ← hL1, ← hC1] at h9
    simpa [Addr.add_lit] using h9
  have s3 : ∀ W, (Instr.slice 39 (.slice (some ⟨g2, 0, none⟩) N1 CP) (some (.int .i64 (i : Int))) none none).run Try.prog W = .ok (.slice (some ⟨g2, i, none⟩) L2 C2) W := fun W => by
    have h9 := run_slice_l (P := Try.prog) u hi0 hz1 (some ⟨g2, 0, none⟩) N1 CP (lo := (i : Int)) (lo' := i) rfl (by omega) W
    unfold subAn at h9
    rw [if_neg (by omega), ← hL2, ← hC2] at h9
    simpa [Addr.add_lit] using h9
  obtain ⟨ar1, har1⟩ : ∃ ar1, ar1 = (ar0.toList.take i ++ ([Value.int .i64 x] ++ ar0.toList.drop (i + ([Value.int .i64 x]).length))).toArray := ⟨_, rfl⟩
  obtain ⟨W2, hW2⟩ : ∃ W2, W2 = W1.setRow g2 ar1 := ⟨_, rfl⟩
  have hcp : ∀ ty, (Builtin.copy_ #[39, 39] ty #[.slice (some ⟨g2, i, none⟩) L2 C2, .slice (some ⟨gv, 0, none⟩) 1 1]).run Try.prog W1 = .ok (goInt ([Value.int .i64 x]).length) W2 := fun ty => by
    rw [hW2, har1]
    have h9 := run_copy_row (P := Try.prog) W1 39 39 ty 3 g2 i L2 C2 ⟨gv, 0, none⟩ 1 1 ar0 3 [.int .i64 x] u sizeI hg1 (by show 1 = min 1 L2; omega) (fun j v hj => by
      rw [Addr.add_lit, Nat.zero_add, cell_of_row _ _ _ _ _ _ hgv1]
      simpa using hj) (by simp; omega) (by simp; rfl)
    rw [List.append_assoc] at h9
    exact h9
  have hg3 : W2.heap[g2]? = some (.cells ar1 3 (0, 0)) := by rw [hW2]; exact setRow_heap W1 g2 ar0 ar1 _ _ hg1
  have hgg2 : W2.heap[g]? = w.heap[g]? := by rw [hW2]; exact (setRow_other W1 g2 g ar1 (by omega)).trans hgg1
  have hbW2 : Below w.heap.size w W2 := by rw [hW2]; exact below_setNew hbW1 (by omega) ar1
  have hsz1 : ar1.size = CP := by rw [har1]; simp; omega
  have hcz : (zv (l.drop i)).length = n - i := by rw [zv_len, List.length_drop, hl]; omega
  have HFIN : Hid (∀ R, (ar1.toList.take (i + 1) ++ (zv (l.drop i) ++ R)).take (n + 1) = zv (l.take i ++ x :: l.drop i)) := Lib.hid fun R => by
    have h9 := ins_list2 (L0 := ar0.toList) (zt := zv (l.take i)) (d := zv (l.drop i)) (R := R) (x := .int .i64 x) hi (by rw [Array.length_toList]; omega) htk0 (by rw [zv_len, List.length_take, hl]; omega) hcz
    rw [har1]
    show List.take (n + 1) (List.take (i + 1) (ar0.toList.take i ++ ([Value.int .i64 x] ++ ar0.toList.drop (i + 1))) ++ (zv (l.drop i) ++ R)) = _
    rw [h9, zv_app]
    rfl
  have HS1 : Hid (∀ j v, (zv (l.drop i))[j]? = some v → W2.drew.cell? ((⟨g, i, none⟩ : Addr).add j) = some v) := Lib.hid fun j v hj => by
    rw [Addr.add_lit]
    refine hsrc0 (i + j) v ?_ W2.drew hgg2
    unfold zv at hj ⊢
    rw [List.map_drop, List.getElem?_drop] at hj
    exact hj
  have HONE : Hid (∀ v ∈ zv (l.drop i), v.oneCell' = true) := Lib.hid (zv_one _)
  have HLEN : Hid ((zv (l.drop i)).length = Nat.min k0 L1) := Lib.hid (by rw [hcz]; show _ = min k0 L1; omega)
  have HFIT : Hid (i1 + (zv (l.drop i)).length ≤ ar1.size) := Lib.hid (by rw [hcz, hsz1]; omega)
  have HG3 : Hid (W2.drew.heap[g2]? = some (.cells ar1 3 (0, 0))) := Lib.hid hg3
  have HSZ : Hid (ar1.size = CP) := Lib.hid hsz1
  have HBW : Hid (Below w.heap.size w W2.drew) := Lib.hid hbW2.drew
  have HN : Hid (N1 = n + 1 ∧ i1 = i + 1 ∧ (zv (l.drop i)).length = n - i ∧ B ≤ g2 ∧ w.heap.size ≤ g2) := Lib.hid ⟨hN1, hi1, hcz, by omega, by omega⟩
  have HLL : Hid ((l.take i ++ x :: l.drop i).length = n + 1) := Lib.hid (by simp; omega)
  have HMX : Hid (n + 1 ≤ CP ∧ CP ≤ maxLen) := Lib.hid ⟨hcge, hcmx⟩
  have H64 := Lib.hid h64
  have t2 : ((i : Int) == (n : Int)) = false := by simp; omega
  have hw : IntKind.i64.wrap ((i : Int) + 1) = (i : Int) + 1 := by rw [IntKind.wrap_i64]; omega
  have hw2 : IntKind.i64.wrap ((n : Int) + 1) = (n : Int) + 1 := by rw [IntKind.wrap_i64]; omega
  have hw3 : IntKind.i64.wrap ((n : Int) + 1 - (i : Int)) = (n : Int) + 1 - (i : Int) := by rw [IntKind.wrap_i64]; omega
  have HAP := Lib.hid hap
  clear hap
  have hi2 : i < N1 := by omega
  have hi3 : i1 ≤ N1 := by omega
  obtain ⟨cs1, hcs1⟩ : ∃ cs1, cs1 = zv (l.drop i) := ⟨_, rfl⟩
  rw [← hcs1] at HS1 HONE HLEN HFIT HFIN HN
  clear hcs1 hl hown h64 hg hcs hct hnc hcm hi0 hz0 hz1 hz2 hk hCP hsrc0 hold har0 hsz0 htk0 hW1 hg2 hbW1 hg1 hgv1 hgg1 hN1 hi1 hL1 hC1 hL2 hC2 hk0 har1 hW2 hg3 hgg2 hbW2 hsz1 hcz hv hcmx hcge hgvl hgl hBg
  go_enter Try.func61, Try.ntmps61
  go_upto_region 11 with (at_builtin; go_loud (refine Lib.wpList_append_run _ rfl _ _ _ _ rfl _ _ rfl rfl _ _ (HAP.out _) ?_))
  refine wp_region_steps [8] 8 8 (by kernel_rfl) (by kernel_rfl) rfl (fun W' => ∃ V : BW W2, W' = V.w) ?_
  have HBC := (Below.refl W2.heap.size W2).drew
  refine anyT_pull [0, 1, 2, 3, 4, 5, 6, 7] 8 0 (by intro c a d v w h; cases d <;> exact h) (by kernel_rfl) ⟨⟨_, HBC⟩, rfl⟩ ?_
  simp only [opsAt, List.filterMap_cons, List.filterMap_nil, List.getElem?_cons_zero, List.getElem?_cons_succ]
  iterate 8
    apply held_step
    · rfl
    · rintro _ ⟨V, rfl⟩
      go_simp
      rfl
  refine held_nil ?_
  refine anyT_done (by kernel_rfl) ?_
  simp only [opsAt, List.filterMap_cons, List.filterMap_nil, List.getElem?_cons_zero, List.getElem?_cons_succ]
  obtain ⟨wd, hwd⟩ : ∃ wd, wd = W2.drew := ⟨_, rfl⟩
  rw [← hwd] at HS1 HG3 HBW ⊢
  clear hwd HBC hcp
  refine wpList_copy_own (w := wd) rfl _ _ 39 39 rfl 3 u sizeI g2 i1 L1 C1 ⟨g, i, none⟩ k0 k0 (by simp [Act.eval, Act.put]) (by simp [Act.eval, Act.put]) ar1 3 HG3.out cs1 HLEN.out HS1.out HFIT.out HONE.out ?_
  obtain ⟨ar2, har2⟩ : ∃ ar2, ar2 = (ar1.toList.take i1 ++ (cs1 ++ ar1.toList.drop (i1 + cs1.length))).toArray := ⟨_, rfl⟩
  rw [← har2]
  have HEND : Hid (AccI (wd.setRow g2 ar2) B (some ⟨g2, 0, none⟩) (n + 1) CP (l.take i ++ x :: l.drop i) ∧ Oth (some ⟨g, 0, none⟩) w (wd.setRow g2 ar2)) := Lib.hid (by
    have hsz := HSZ.out
    have hft := HFIT.out
    refine ⟨⟨HLL.out, own_of_cur (setRow_heap wd g2 ar1 ar2 _ _ HG3.out) (by rw [har2]; simp; omega) (by rw [har2, HN.out.2.1]; exact HFIN.out _) HN.out.2.2.2.1 HMX.out.1 HMX.out.2, fun z hz => ?_⟩, Oth.of_below (below_setNew HBW.out HN.out.2.2.2.2 ar2)⟩
    rcases List.mem_append.1 hz with h1 | h1
    · exact H64.out z (List.mem_of_mem_take h1)
    · rcases List.mem_cons.1 h1 with h2 | h2
      · rw [h2]; exact hx
      · exact H64.out z (List.mem_of_mem_drop h2))
  clear har2
  go_wp2
  go_ret
  exact ⟨some ⟨g2, 0, none⟩, CP, by rw [HN.out.1]; rfl, HEND.out.1, HEND.out.2⟩
/-- slices.Insert of one int, wherever it belongs. -/
theorem insi_any (B n c i gv : Nat) (a : Option Addr) (l : List Int) (x : Int) (w : World) (h : AccI w B a n c l) (hB : B ≤ w.heap.size) (hi : i ≤ n) (hn : n ≤ 1000000000) (hv : w.heap[gv]? = some (.cells #[.int .i64 x] 3)) (hne : ∀ y, a = some y → y.block ≠ gv) (hx : I64 x) :
    Calls Try.prog 61 #[.slice a n c, .int .i64 i, .slice (some ⟨gv, 0, none⟩) 1 1] w fun e w' => ∃ a' c', e = .returned (.slice a' (n + 1) c') ∧ AccI w' B a' (n + 1) c' (l.take i ++ x :: l.drop i) ∧ Oth a w w' := by
  rcases Nat.eq_or_lt_of_le hi with e | hlt
  · subst e
    have h9 := insi_end B i c gv a l x w h hB hn hv hx
    have h1 := h.1
    rw [List.take_of_length_le (by omega), List.drop_eq_nil_of_le (by omega)]
    exact h9
  · obtain ⟨g, rfl, _, _⟩ := own_form h.2.1 (by omega)
    by_cases hr : n + 1 ≤ c
    · exact (insi_room B g n c i gv l x w h hlt hr hn hv (fun e => hne _ rfl e.symm) hx).mono fun e w' ⟨h1, h2, h3⟩ => ⟨_, _, h1, h2, h3⟩
    · have := (own_cap h.2.1).2.1
      obtain rfl : c = n := by omega
      exact insi_grow B g c i gv l x w h hB hlt hn hv hx
end Go.Proofs.Ytincllchoflpmaa
