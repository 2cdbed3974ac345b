/- slices.Insert of one int. -/
import Derived.Test.YtincllchoflpmaaMsF
import Derived.Laws.CopyOwn
import Derived.Lib.Overlaps
import Derived.Lib.AppendZerosOnto
namespace Go.Proofs.Ytincllchoflpmaa
open Go.RowKit
set_option linter.unusedVariables false

theorem zv_app (a b : List Int) : zv (a ++ b) = zv a ++ zv b := by simp [zv]
theorem zv_take (a : List Int) (k : Nat) : (zv a).take k = zv (a.take k) := by simp [zv, List.map_take]
theorem ins_list {cur : List Value} {l : List Int} {i n : Nat} (hl : l.length = n) (hi : i < n) (hn : n + 1 ≤ cur.length) (ht : cur.take n = zv l) (x : Int) :
    ((cur.take (i + 1) ++ (zv (l.drop i) ++ cur.drop (i + 1 + (zv (l.drop i)).length))).take i ++ ([Value.int .i64 x] ++ (cur.take (i + 1) ++ (zv (l.drop i) ++ cur.drop (i + 1 + (zv (l.drop i)).length))).drop (i + 1))) = zv (l.take i ++ x :: l.drop i) ++ cur.drop (n + 1) := by
  have hz : (zv (l.drop i)).length = n - i := by rw [zv_len, List.length_drop, hl]; omega
  have h1 : (cur.take (i + 1)).length = i + 1 := by rw [List.length_take]; omega
  have h2 : cur.take i = zv (l.take i) := by
    rw [← zv_take, ← ht, List.take_take, Nat.min_eq_left (by omega)]
  rw [List.take_append_of_le_length (by omega), List.take_take, Nat.min_eq_left (by omega), List.drop_append, h1, List.drop_eq_nil_of_le (by omega), Nat.sub_self, List.drop_zero, List.nil_append, h2, zv_app, hz, show i + 1 + (n - i) = n + 1 by omega, List.append_assoc]
  rfl
theorem own_cur {w : World} {B e n c g : Nat} {cs : List Value} (h : w.ownsRow B e 1 (.slice (some ⟨g, 0, none⟩) n c) n cs) : ∃ cur : Array Value, w.heap[g]? = some (.cells cur e (0, 0)) ∧ cur.size = c ∧ cur.toList.take n = cs ∧ B ≤ g ∧ n ≤ c ∧ c ≤ maxLen := by
  rcases h.2 with ⟨h1, _⟩ | ⟨g', cap, cur, h1, h2, h3, h4, h5, h6, h7⟩
  · cases h1
  · cases h1
    exact ⟨cur, h3, by omega, by simpa using h7, h2, h4, h5⟩
theorem own_of_cur {w : World} {B e n c g : Nat} {cs : List Value} {cur : Array Value} (h3 : w.heap[g]? = some (.cells cur e (0, 0))) (h6 : cur.size = c) (h7 : cur.toList.take n = cs) (h2 : B ≤ g) (h4 : n ≤ c) (h5 : c ≤ maxLen) : w.ownsRow B e 1 (.slice (some ⟨g, 0, none⟩) n c) n cs := by
  refine ⟨by rw [← h7, List.length_take, Array.length_toList]; omega, .inr ⟨g, c, cur, rfl, h2, h3, h4, h5, by omega, by simpa using h7⟩⟩
theorem oth_setRow {w : World} {g : Nat} (cs : Array Value) : Oth (some ⟨g, 0, none⟩) w (w.setRow g cs) :=
  ⟨rfl, rfl, rfl, by simp [World.setRow], fun b hb hn => setRow_other w g b cs (fun e => hn _ rfl e.symm)⟩
theorem sizeI : (Try.prog.info? 3).map (·.size) = some 1 := by
  obtain ⟨i0, hi0, h0, h1, h2⟩ := info_parts infoI
  rw [hi0]; simp [h1]
set_option maxRecDepth 8000 in
set_option maxHeartbeats 4000000 in
theorem insi_room (B g n c i gv : Nat) (l : List Int) (x : Int) (w : World) (h : AccI w B (some ⟨g, 0, none⟩) n c l) (hi : i < n) (hr : n + 1 ≤ c) (hn : n ≤ 1000000000) (hv : w.heap[gv]? = some (.cells #[.int .i64 x] 3)) (hne : gv ≠ g) (hx : I64 x) :
    Calls Try.prog 61 #[.slice (some ⟨g, 0, none⟩) n c, .int .i64 i, .slice (some ⟨gv, 0, none⟩) 1 1] w fun e w' => e = .returned (.slice (some ⟨g, 0, none⟩) (n + 1) c) ∧ AccI w' B (some ⟨g, 0, none⟩) (n + 1) c (l.take i ++ x :: l.drop i) ∧ Oth (some ⟨g, 0, none⟩) w w' := by
  obtain ⟨hl, hown, h64⟩ := h
  obtain ⟨cur, hg, hcs, hct, hBg, hnc, hcm⟩ := own_cur hown
  obtain ⟨i0, hi0, hz0, hz1, hz2⟩ := info_parts infoI
  have hcl : c ≤ 9223372036854775807 := by simp only [maxLen] at hcm; omega
  obtain ⟨N1, hN1⟩ : ∃ k, k = n + 1 := ⟨_, rfl⟩
  obtain ⟨i1, hi1⟩ : ∃ k, k = i + 1 := ⟨_, rfl⟩
  obtain ⟨L1, hL1⟩ : ∃ k, k = N1 - i1 := ⟨_, rfl⟩
  obtain ⟨C1, hC1⟩ : ∃ k, k = c - i1 := ⟨_, rfl⟩
  obtain ⟨L2, hL2⟩ : ∃ k, k = N1 - i := ⟨_, rfl⟩
  obtain ⟨C2, hC2⟩ : ∃ k, k = c - i := ⟨_, rfl⟩
  obtain ⟨z0, hz0'⟩ : ∃ z, z = subAn (some (⟨g, 0, none⟩ : Addr)) c i 1 := ⟨_, rfl⟩
  obtain ⟨k0, hk0⟩ : ∃ k, k = n - i := ⟨_, rfl⟩
  have u := Try.underlying39
  have s0 : ∀ W, (Instr.slice 39 (.slice (some ⟨g, 0, none⟩) n c) (some (.int .i64 (i : Int))) none none).run Try.prog W = .ok (.slice z0 k0 C2) W := fun W => by
    rw [hz0', hk0, hC2]
    exact run_slice_l u hi0 hz1 _ n c rfl (by omega) W
  have s1 : ∀ W, (Instr.slice 39 (.slice (some ⟨g, 0, none⟩) n c) none (some (.int .i64 ((n : Int) + 1))) none).run Try.prog W = .ok (.slice (some ⟨g, 0, none⟩) N1 c) W := fun W => by
    rw [hN1]
    exact run_slice_h u hi0 hz1 _ n c (hi' := n + 1) (by simp) hr W
  have s2 : ∀ W, (Instr.slice 39 (.slice (some ⟨g, 0, none⟩) N1 c) (some (.int .i64 ((i : Int) + 1))) none none).run Try.prog W = .ok (.slice (some ⟨g, i1, none⟩) L1 C1) W := fun W => by
    have h9 := run_slice_l (P := Try.prog) u hi0 hz1 (some ⟨g, 0, none⟩) N1 c (lo := (i : Int) + 1) (lo' := i1) (by rw [hi1]; simp) (by omega) W
    unfold subAn at h9
    rw [if_neg (by omega), ← hL1, ← hC1] at h9
    simpa [Addr.add_lit] using h9
  have s3 : ∀ W, (Instr.slice 39 (.slice (some ⟨g, 0, none⟩) N1 c) (some (.int .i64 (i : Int))) none none).run Try.prog W = .ok (.slice (some ⟨g, i, none⟩) L2 C2) W := fun W => by
    have h9 := run_slice_l (P := Try.prog) u hi0 hz1 (some ⟨g, 0, none⟩) N1 c (lo := (i : Int)) (lo' := i) rfl (by omega) W
    unfold subAn at h9
    rw [if_neg (by omega), ← hL2, ← hC2] at h9
    simpa [Addr.add_lit] using h9
  have hov : (callFunc 90 #[.slice (some ⟨gv, 0, none⟩) 1 1, .slice (some ⟨g, i1, none⟩) L1 C1]).run Try.prog w = .ok (.value (.bool false)) w := by
    rw [run_callFunc_extern Try.func90 (by kernel_rfl) (by kernel_rfl) (by kernel_rfl) (e := Extern.SlicesOverlaps.overlaps #[39, 39] #[4]) (by kernel_rfl),
      Lib.run_overlaps_apart w 39 4 3 u 1 (fun W => by simp [sizeOf, typeInfo, hi0, hz1]) ⟨gv, 0, none⟩ ⟨g, i1, none⟩ 1 1 L1 C1 hne 3 3 1 cur.size (by simp [World.shape?, hv]) (by simp [World.shape?, hg]) (by omega) (by simp [World.frozen?, hv]) (by simp [World.frozen?, hv])]
    rfl
  have hw : IntKind.i64.wrap ((i : Int) + 1) = (i : Int) + 1 := by rw [IntKind.wrap_i64]; omega
  have t2 : ((i : Int) == (n : Int)) = false := by simp; omega
  have t3 : decide (c < n + 1) = false := decide_eq_false (by omega)
  have t3' : decide ((c : Int) < (n : Int) + 1) = false := decide_eq_false (by omega)
  have HEQ := Lib.hid (show N1 = n + 1 ∧ i1 = i + 1 ∧ L1 = N1 - i1 ∧ L2 = N1 - i ∧ cur.size = c ∧ cur.toList.take n = zv l ∧ l.length = n from ⟨hN1, hi1, hL1, hL2, hcs, hct, hl⟩)
  have HG0 := Lib.hid (And.intro hg hv)
  have H64 := Lib.hid h64
  clear hN1 hi1 hL1 hL2 hC1 hC2 hz0' hk0 hcs hct hl hg hv hi0 hz0 hz1 hz2 h64 hown
  go_enter Try.func61, Try.ntmps61
  go_upto_region 15 with fail
  have HCZ : Hid ((zv (l.drop i)).length = n - i) := Lib.hid (by rw [zv_len, List.length_drop, HEQ.out.2.2.2.2.2.2]; omega)
  have HS1 : Hid (∀ j v, (zv (l.drop i))[j]? = some v → w.drew.cell? ((⟨g, i, none⟩ : Addr).add j) = some v) := Lib.hid fun j v hj => by
    obtain ⟨hN1, hi1, hL1, hL2, hcs, hct, hl⟩ := HEQ.out
    have hcz := HCZ.out
    have hj2 : cur.toList[i + j]? = some v := by
      have h9 := (List.getElem?_eq_some_iff.1 hj).1
      rw [← List.getElem?_take_of_lt (show i + j < n by omega), hct]
      unfold zv at hj ⊢
      rw [List.map_drop, List.getElem?_drop] at hj
      exact hj
    rw [Addr.add_lit, cell_of_row _ _ _ _ _ _ (show w.drew.heap[g]? = _ from HG0.out.1), ← Array.getElem?_toList]
    exact hj2
  have HONE : Hid (∀ v ∈ zv (l.drop i), v.oneCell' = true) := Lib.hid (zv_one _)
  have HLEN : Hid ((zv (l.drop i)).length = Nat.min L2 L1) := Lib.hid (by
    obtain ⟨hN1, hi1, hL1, hL2, hcs, hct, hl⟩ := HEQ.out
    rw [HCZ.out]
    show _ = min L2 L1
    omega)
  have HFIT : Hid (i1 + (zv (l.drop i)).length ≤ cur.size) := Lib.hid (by
    obtain ⟨hN1, hi1, hL1, hL2, hcs, hct, hl⟩ := HEQ.out
    rw [HCZ.out]
    omega)
  have HG : Hid (w.drew.heap[g]? = some (.cells cur 3 (0, 0))) := Lib.hid HG0.out.1
  have HGV : Hid (w.drew.heap[gv]? = some (.cells #[.int .i64 x] 3)) := Lib.hid HG0.out.2
  have HL2 : Hid (1 = Nat.min 1 L2) := Lib.hid (by
    obtain ⟨hN1, hi1, hL1, hL2, hcs, hct, hl⟩ := HEQ.out
    show 1 = min 1 L2
    omega)
  have HIC : Hid (i + 1 ≤ cur.size) := Lib.hid (by
    obtain ⟨hN1, hi1, hL1, hL2, hcs, hct, hl⟩ := HEQ.out
    omega)
  have HBD : Hid (Below w.heap.size w w.drew) := Lib.hid (Below.refl _ _).drew
  obtain ⟨cs1, hcs1⟩ : ∃ cs1, cs1 = zv (l.drop i) := ⟨_, rfl⟩
  rw [← hcs1] at HS1 HONE HLEN HFIT HCZ
  have HCS := Lib.hid hcs1
  clear hcs1 hov
  refine wp_region_steps [8] 8 8 (by kernel_rfl) (by kernel_rfl) rfl (fun W' => ∃ V : BW w, W' = V.w) ?_
  have HBC := (Below.refl w.heap.size w).drew
  refine anyT_pull [0, 1, 2, 3, 4, 5, 6, 7] 8 0 (by intro c a d v w h; cases d <;> exact h) (by kernel_rfl) ⟨⟨_, HBC⟩, rfl⟩ ?_
  simp only [opsAt, List.filterMap_cons, List.filterMap_nil, List.getElem?_cons_zero, List.getElem?_cons_succ]
  iterate 8
    apply held_step
    · rfl
    · rintro _ ⟨V, rfl⟩
      go_simp
      rfl
  refine held_nil ?_
  refine anyT_done (by kernel_rfl) ?_
  simp only [opsAt, List.filterMap_cons, List.filterMap_nil, List.getElem?_cons_zero, List.getElem?_cons_succ]
  obtain ⟨wd, hwd⟩ : ∃ wd, wd = w.drew := ⟨_, rfl⟩
  rw [← hwd] at HS1 HG HGV HBD ⊢
  clear hwd HBC
  refine wpList_copy_own (w := wd) rfl _ _ 39 39 rfl 3 u sizeI g i1 L1 C1 ⟨g, i, none⟩ L2 C2 (by simp [Act.eval, Act.put]) (by simp [Act.eval, Act.put]) cur 3 HG.out cs1 HLEN.out HS1.out HFIT.out HONE.out ?_
  obtain ⟨ar1, har1⟩ : ∃ ar1, ar1 = (cur.toList.take i1 ++ (cs1 ++ cur.toList.drop (i1 + cs1.length))).toArray := ⟨_, rfl⟩
  rw [← har1]
  have HA1 := Lib.hid har1
  clear har1
  have HG1 : Hid ((wd.setRow g ar1).heap[g]? = some (.cells ar1 3 (0, 0))) := Lib.hid (setRow_heap wd g cur ar1 _ _ HG.out)
  have HGV1 : Hid ((wd.setRow g ar1).heap[gv]? = some (.cells #[.int .i64 x] 3)) := Lib.hid ((setRow_other wd g gv ar1 hne).trans HGV.out)
  have HO1 : Hid (Oth (some ⟨g, 0, none⟩) w (wd.setRow g ar1)) := Lib.hid ((Oth.of_below HBD.out).trans (oth_setRow ar1))
  have HSZ : Hid (ar1.size = cur.size) := Lib.hid (by rw [HA1.out]; have := HFIT.out; simp; omega)
  have HSX : Hid (∀ j v, ([Value.int .i64 x])[j]? = some v → (wd.setRow g ar1).cell? ((⟨gv, 0, none⟩ : Addr).add j) = some v) := Lib.hid fun j v hj => by
    rw [Addr.add_lit, Nat.zero_add, cell_of_row _ _ _ _ _ _ HGV1.out]
    simpa using hj
  have HF1 : Hid (i + ([Value.int .i64 x]).length ≤ ar1.size) := Lib.hid (by rw [HSZ.out]; exact HIC.out)
  have HOX : Hid (∀ v ∈ [Value.int .i64 x], v.oneCell' = true) := Lib.hid (by simp; rfl)
  obtain ⟨W1, hW1⟩ : ∃ W1, W1 = wd.setRow g ar1 := ⟨_, rfl⟩
  rw [← hW1] at HG1 HSX HO1 ⊢
  clear hW1 HGV1 HS1 HG HGV HBD
  obtain ⟨W2, hW2⟩ : ∃ W2, W2 = W1.setRow g (ar1.toList.take i ++ ([Value.int .i64 x] ++ ar1.toList.drop (i + ([Value.int .i64 x]).length))).toArray := ⟨_, rfl⟩
  have hcp : ∀ ty, (Builtin.copy_ #[39, 39] ty #[.slice (some ⟨g, i, none⟩) L2 C2, .slice (some ⟨gv, 0, none⟩) 1 1]).run Try.prog W1 = .ok (goInt ([Value.int .i64 x]).length) W2 := fun ty => by
    rw [hW2]
    have h9 := run_copy_row (P := Try.prog) W1 39 39 ty 3 g i L2 C2 ⟨gv, 0, none⟩ 1 1 ar1 3 [.int .i64 x] u sizeI HG1.out HL2.out HSX.out HF1.out HOX.out
    rw [List.append_assoc] at h9
    exact h9
  have HW2 := Lib.hid hW2
  clear hW2
  go_wp2
  go_ret
  have hfin := ins_list (cur := cur.toList) (l := l) (i := i) (n := n) HEQ.out.2.2.2.2.2.2 hi (by rw [Array.length_toList, HEQ.out.2.2.2.2.1]; exact hr) HEQ.out.2.2.2.2.2.1 x
  have har : (ar1.toList.take i ++ ([Value.int .i64 x] ++ ar1.toList.drop (i + 1))) = zv (l.take i ++ x :: l.drop i) ++ cur.toList.drop (n + 1) := by
    rw [HA1.out, HCS.out, HEQ.out.2.1]
    exact hfin
  have hll : (l.take i ++ x :: l.drop i).length = n + 1 := by
    have := HEQ.out.2.2.2.2.2.2
    simp
    omega
  rw [HW2.out]
  refine ⟨by rw [HEQ.out.1]; rfl, ⟨hll, ?_, fun z hz => ?_⟩, HO1.out.trans (oth_setRow _)⟩
  · refine own_of_cur (cur := (ar1.toList.take i ++ ([Value.int .i64 x] ++ ar1.toList.drop (i + 1))).toArray) (setRow_heap W1 g ar1 _ _ _ HG1.out) ?_ ?_ hBg hr hcm
    · have h1 := HSZ.out
      have h2 := HEQ.out.2.2.2.2.1
      have h3 := HF1.out
      simp at h3 ⊢
      omega
    · rw [har]
      show List.take (n + 1) (zv (l.take i ++ x :: l.drop i) ++ cur.toList.drop (n + 1)) = _
      rw [List.take_append_of_le_length (by rw [zv_len, hll]; omega), List.take_of_length_le (by rw [zv_len, hll]; omega)]
  · rcases List.mem_append.1 hz with h1 | h1
    · exact H64.out z (List.mem_of_mem_take h1)
    · rcases List.mem_cons.1 h1 with h2 | h2
      · rw [h2]; exact hx
      · exact H64.out z (List.mem_of_mem_drop h2)
end Go.Proofs.Ytincllchoflpmaa
