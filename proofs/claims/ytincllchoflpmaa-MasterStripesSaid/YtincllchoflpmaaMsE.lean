/- slices.Delete of one element. -/
import Derived.Test.YtincllchoflpmaaMsD
import Derived.Deep.DeepAppendRoom
import Derived.Lib.SliceRun
namespace Go.Proofs.Ytincllchoflpmaa
open Go.RowKit
set_option linter.unusedVariables false

/-- Only the row at a may be another one. -/
structure Oth (a : Option Addr) (w w' : World) : Prop where
  os : w'.os = w.os
  tape : w'.tape = w.tape
  output : w'.output = w.output
  size : w.heap.size ≤ w'.heap.size
  block : ∀ b, b < w.heap.size → (∀ x, a = some x → x.block ≠ b) → w'.heap[b]? = w.heap[b]?
theorem Oth.refl (a : Option Addr) (w : World) : Oth a w w := ⟨rfl, rfl, rfl, Nat.le_refl _, fun _ _ _ => rfl⟩
theorem Oth.of_below {a : Option Addr} {w w' : World} (h : Below w.heap.size w w') : Oth a w w' := ⟨h.os, h.tape, h.output, h.size, fun b hb _ => h.block b hb⟩
theorem Oth.trans {a : Option Addr} {w w1 w2 : World} (h : Oth a w w1) (k : Oth a w1 w2) : Oth a w w2 :=
  ⟨k.os.trans h.os, k.tape.trans h.tape, k.output.trans h.output, Nat.le_trans h.size k.size, fun b hb hn => (k.block b (Nat.lt_of_lt_of_le hb h.size) hn).trans (h.block b hb hn)⟩
theorem Oth.set {a : Option Addr} {w w1 : World} (h : Oth a w w1) {p x : Addr} (ha : a = some x) (hp : p.block = x.block) (v : Value) : Oth a w (w1.setCell p v) :=
  ⟨h.os, h.tape, h.output, by rw [World.size_setCell]; exact h.size, fun b hb hn => (Below.heap_setCell _ _ _ _ (by rw [hp]; exact fun e => hn x ha e.symm)).trans (h.block b hb hn)⟩
theorem Oth.below {a : Option Addr} {w w' : World} {n : Nat} (h : Oth a w w') (hn : n ≤ w.heap.size) (ha : ∀ x, a = some x → n ≤ x.block) : Below n w w' :=
  ⟨h.os, h.tape, h.output, h.size, fun b hb => h.block b (by omega) (fun x hx e => by have := ha x hx; omega)⟩
theorem Oth.evol {w w' : World} {a a' : Option Addr} (h : Evol w a w' a') : Oth a w w' :=
  ⟨h.1.os, h.1.tape, h.1.output, h.1.size, fun b hb hn => h.1.block b hb (fun e => by
    cases a with
    | none => cases e
    | some x => exact hn x rfl (by cases e; rfl))⟩
theorem Oth.grown {w w' : World} {g : Nat} (h : w.grownBy w' (some g)) : Oth (some ⟨g, 0, none⟩) w w' :=
  ⟨h.os, h.tape, h.output, h.size, fun b hb hn => h.block b hb (fun e => by cases e; exact hn _ rfl rfl)⟩
theorem own_oth {w w' : World} {a a' : Option Addr} {B e s n c : Nat} {cs : List Value} (h : w.ownsRow B e s (.slice a' n c) n cs) (k : Oth a w w') (hne : ∀ x y, a = some x → a' = some y → x.block ≠ y.block) : w'.ownsRow B e s (.slice a' n c) n cs := by
  refine ⟨h.1, ?_⟩
  rcases h.2 with g | ⟨g, cap, cur, g1, g2, g3, g4⟩
  · exact .inl g
  · refine .inr ⟨g, cap, cur, g1, g2, ?_, g4⟩
    cases g1
    rw [k.block g (Array.getElem?_eq_some_iff.1 g3).1 (fun x hx => hne x _ hx rfl)]
    exact g3
theorem own_form {w : World} {B e s n c : Nat} {a : Option Addr} {cs : List Value} (h : w.ownsRow B e s (.slice a n c) n cs) (hn : 0 < n) : ∃ g, a = some ⟨g, 0, none⟩ ∧ B ≤ g ∧ g < w.heap.size := by
  rcases h.2 with ⟨h1, h2⟩ | ⟨g, cap, cur, h1, h2, h3, _⟩
  · omega
  · cases h1
    exact ⟨g, rfl, h2, (Array.getElem?_eq_some_iff.1 h3).1⟩
theorem own_front {w : World} {B e s n c g : Nat} {cs : List Value} (h : w.ownsRow B e s (.slice (some ⟨g, 0, none⟩) n c) n cs) {k : Nat} (hk : k ≤ n) : w.ownsRow B e s (.slice (some ⟨g, 0, none⟩) k c) k (cs.take (k * s)) := by
  have hl := h.1
  have hks : k * s ≤ n * s := Nat.mul_le_mul_right _ hk
  refine ⟨by rw [List.length_take]; omega, ?_⟩
  rcases h.2 with ⟨h1, _⟩ | ⟨g', cap, cur, h1, h2, h3, h4, h5, h6, h7⟩
  · cases h1
  · cases h1
    refine .inr ⟨g, c, cur, rfl, h2, h3, by omega, h5, h6, ?_⟩
    have h8 : cs.take (k * s) = cur.toList.take (k * s) := by
      conv => lhs; rw [← h7]
      rw [List.take_take, Nat.min_eq_left hks]
    exact h8.symm
theorem own_setHigh {w : World} {B e s n c g k : Nat} {cs : List Value} (h : w.ownsRow B e s (.slice (some ⟨g, 0, none⟩) n c) n cs) (hk : n * s ≤ k) (u : Value) : (w.setCell ⟨g, k, none⟩ u).ownsRow B e s (.slice (some ⟨g, 0, none⟩) n c) n cs := by
  have hl := h.1
  refine ⟨hl, ?_⟩
  rcases h.2 with ⟨h1, _⟩ | ⟨g', cap, cur, h1, h2, h3, h4, h5, h6, h7⟩
  · cases h1
  · cases h1
    refine .inr ⟨g, c, cur.setIfInBounds k u, rfl, h2, ?_, h4, h5, by rw [Array.size_setIfInBounds]; exact h6, ?_⟩
    · simp only [World.setCell, Array.getElem?_modify]
      rw [if_pos trivial, h3]
      rfl
    · rw [Array.toList_setIfInBounds, List.take_set_of_le (by omega)]
      exact h7
theorem own_spare {w : World} {B e s n c g : Nat} {cs : List Value} (h : w.ownsRow B e s (.slice (some ⟨g, 0, none⟩) n c) n cs) : (∀ j, j < c * s → (w.cell? ⟨g, j, none⟩).isSome = true) ∧ ∀ j, w.frozen? ⟨g, j, none⟩ = false := by
  rcases h.2 with ⟨h1, _⟩ | ⟨g', cap, cur, h1, h2, h3, h4, h5, h6, h7⟩
  · cases h1
  · cases h1
    refine ⟨fun j hj => ?_, fun j => by simp [World.frozen?, h3]⟩
    rw [cell_of_row _ _ _ _ _ _ h3, Array.getElem?_eq_getElem (by omega)]
    rfl
theorem run_clear_mb {t : TypeId} (w : World) (ty : TypeId) (ht : Try.prog.underlying t = some (.slice 48)) (b o c : Nat) (hc : ∀ j, j < 3 → (w.cell? ⟨b, o + j, none⟩).isSome = true) (hf : ∀ j, j < 3 → w.frozen? ⟨b, o + j, none⟩ = false) :
    (Builtin.clear_ #[t] ty #[.slice (some ⟨b, o, none⟩) 1 c]).run Try.prog w = .ok (.tuple #[]) (((w.setCell ⟨b, o, none⟩ (.int .i64 0)).setCell ⟨b, o + 1, none⟩ (.int .i64 0)).setCell ⟨b, o + 2, none⟩ (.bool false)) := by
  have hv : ∀ w, (zeroValue 48).run Try.prog w = .ok (.agg #[.int .i64 0, .int .i64 0, .bool false]) w := fun w => by
    obtain ⟨i0, hi0, hz0, hz1, hz2⟩ := info_parts infoMb
    simp [zeroValue, typeInfo, hi0, hz0]
  have hzc : (Builtin.zeroCells (Value.agg #[.int .i64 0, .int .i64 0, .bool false]).cells 1).toList = [.int .i64 0, .int .i64 0, .bool false] := by simp [Builtin.zeroCells, Value.cells]; rfl
  have hst := Go.run_storeCells_cells (P := Try.prog) b o [.int .i64 0, .int .i64 0, .bool false] 0 w (by simpa using hc) (by simpa using hf) (by simp; decide)
  simp only [Nat.add_zero] at hst
  simp [Builtin.clear_, run_underlying ht, hv, hzc, hst]
  rfl
theorem mv_erase (l : List Mb) (i : Nat) : mv (l.eraseIdx i) = (mv l).take (i * 3) ++ (mv l).drop ((i + 1) * 3) := by
  have ht : ∀ (l : List Mb) (k : Nat), (mv l).take (k * 3) = mv (l.take k) := by
    intro l
    induction l with
    | nil => intro k; simp [mv]
    | cons m l ih =>
      intro k
      cases k with
      | zero => simp [mv]
      | succ k =>
        rw [List.take_succ_cons]
        have e1 : mv (m :: l) = mcells m ++ mv l := rfl
        have e2 : mv (m :: l.take k) = mcells m ++ mv (l.take k) := rfl
        rw [e1, e2, List.take_append, List.take_of_length_le (by simp [mcells]; omega), ← ih k]
        congr 2
        simp [mcells]
        omega
  have hd : ∀ (l : List Mb) (k : Nat), (mv l).drop (k * 3) = mv (l.drop k) := by
    intro l
    induction l with
    | nil => intro k; simp [mv]
    | cons m l ih =>
      intro k
      cases k with
      | zero => simp
      | succ k =>
        rw [List.drop_succ_cons]
        have e1 : mv (m :: l) = mcells m ++ mv l := rfl
        rw [e1, List.drop_append, List.drop_eq_nil_of_le (by simp [mcells]; omega), List.nil_append, ← ih k]
        congr 1
        simp [mcells]
        omega
  rw [ht, hd, ← mv_app, List.eraseIdx_eq_take_drop_succ]
set_option maxHeartbeats 2000000 in
theorem delm_any (B g n c i j : Nat) (l : List Mb) (w : World) (h : AccM w B (some ⟨g, 0, none⟩) n c l) (hB : B ≤ w.heap.size) (hi : i < n) (hj : j = i + 1) (hn : n ≤ 1000000000) :
    Calls Try.prog 59 #[.slice (some ⟨g, 0, none⟩) n c, .int .i64 i, .int .i64 j] w fun e w' => e = .returned (.slice (some ⟨g, 0, none⟩) (n - 1) c) ∧ AccM w' B (some ⟨g, 0, none⟩) (n - 1) c (l.eraseIdx i) ∧ Oth (some ⟨g, 0, none⟩) w w' := by
  obtain ⟨hl, hown⟩ := h
  have hcap := (own_cap hown).2
  obtain ⟨i0, hi0, hz0, hz1, hz2⟩ := info_parts infoMb
  have hcl : n ≤ 9223372036854775807 ∧ c ≤ 9223372036854775807 := by have := hcap.1; have := hcap.2; simp only [maxLen] at *; omega
  have hjn : j ≤ n := by omega
  have hij : i < j := by omega
  obtain ⟨z1, hz1'⟩ : ∃ z, z = subAn (some (⟨g, 0, none⟩ : Addr)) n i 3 := ⟨_, rfl⟩
  obtain ⟨z2, hz2'⟩ : ∃ z, z = subAn (some (⟨g, 0, none⟩ : Addr)) c j 3 := ⟨_, rfl⟩
  obtain ⟨k1, hk1⟩ : ∃ k, k = j - i := ⟨_, rfl⟩
  obtain ⟨k2, hk2⟩ : ∃ k, k = n - i := ⟨_, rfl⟩
  obtain ⟨k3, hk3⟩ : ∃ k, k = n - j := ⟨_, rfl⟩
  obtain ⟨k4, hk4⟩ : ∃ k, k = c - j := ⟨_, rfl⟩
  have s1 : ∀ W, (Instr.slice 38 (.slice (some ⟨g, 0, none⟩) n c) (some (.int .i64 (i : Int))) (some (.int .i64 (j : Int))) (some (.int .i64 (n : Int)))).run Try.prog W = .ok (.slice z1 k1 k2) W := fun W => by
    rw [hz1', hk1, hk2]
    exact run_slice_lhm Try.underlying38 hi0 hz1 _ n c rfl rfl rfl (by omega) hjn hcap.1 W
  have s2 : ∀ W, (Instr.slice 38 (.slice (some ⟨g, 0, none⟩) n c) none (some (.int .i64 (i : Int))) none).run Try.prog W = .ok (.slice (some ⟨g, 0, none⟩) i c) W := fun W => run_slice_h Try.underlying38 hi0 hz1 _ n c rfl (by omega) W
  have s3 : ∀ W, (Instr.slice 38 (.slice (some ⟨g, 0, none⟩) n c) (some (.int .i64 (j : Int))) none none).run Try.prog W = .ok (.slice z2 k3 k4) W := fun W => by
    rw [hz2', hk3, hk4]
    exact run_slice_l Try.underlying38 hi0 hz1 _ n c rfl hjn W
  have t1 : ((i : Int) == (j : Int)) = false := by simp; omega
  have HI := Lib.hid (And.intro hi0 (And.intro hz0 (And.intro hz1 hz2)))
  have HZ := Lib.hid (And.intro hz2' (And.intro hk3 hk4))
  have HJ := Lib.hid hj
  have HL := Lib.hid hl
  have HO := Lib.hid hown
  have HCP := Lib.hid hcap
  clear hi0 hz0 hz1 hz2 hz1' hz2' hk1 hk2 hk3 hk4 hj hl hown hcap
  go_enter Try.func59, Try.ntmps59
  go_upto_region 5 with fail
  have hsrc : ∃ ad : Addr, z2 = some ad ∧ ∀ t u, ((mv l).drop (j * 3))[t]? = some u → w.drew.cell? (ad.add t) = some u := by
    have hr := (Row.of_own HO.out).below (Below.refl _ w).drew
    have hr2 : ∀ t u, ((mv l).drop (j * 3))[t]? = some u → w.drew.cell? ⟨g, j * 3 + t, none⟩ = some u := fun t u hu => by
      rw [List.getElem?_drop] at hu
      obtain ⟨b, off, e, hc⟩ := hr _ _ hu
      cases e
      rw [Nat.zero_add] at hc
      exact hc
    rw [HZ.out.1]
    unfold subAn
    by_cases hcj : c = j
    · rw [if_pos hcj]
      refine ⟨_, rfl, fun t u hu => ?_⟩
      have h9 := (List.getElem?_eq_some_iff.1 hu).1
      rw [List.length_drop, mv_len, HL.out] at h9
      have := HCP.out.1
      omega
    · rw [if_neg hcj]
      refine ⟨_, rfl, fun t u hu => ?_⟩
      have h9 := hr2 t u hu
      simpa [Addr.add_lit] using h9
  obtain ⟨ad, hade, had⟩ := hsrc
  subst hade
  have HAD := Lib.hid had
  have hfo := own_below (own_front HO.out (k := i) (by omega)) (Below.refl _ w).drew
  have HFO := Lib.hid hfo
  have HLN : Hid (((mv l).drop (j * 3)).length = k3 * 3) := Lib.hid (by rw [List.length_drop, mv_len, HL.out, HZ.out.2.1]; omega)
  have HON : Hid (∀ u ∈ (mv l).drop (j * 3), u.oneCell' = true) := Lib.hid fun u hu => mv_one l u (List.mem_of_mem_drop hu)
  have HRM : Hid (i + k3 ≤ c) := Lib.hid (by have := HZ.out.2.1; have := HCP.out.1; omega)
  have HN1 : Hid (i + k3 = n - 1 ∧ i + k3 + 1 = n) := Lib.hid (by have := HZ.out.2.1; have := HJ.out; omega)
  clear had hfo
  refine wp_region_steps [6, 7] 6 6 (by kernel_rfl) (by kernel_rfl) rfl (fun W' => ∃ V : BW w, W' = V.w) ?_
  have HBC := (Below.refl w.heap.size w).drew
  refine anyT_pull [0, 1, 2, 3, 4, 5] 6 0 (by intro c a d v w h; cases d <;> exact h) (by kernel_rfl) ⟨⟨_, HBC⟩, rfl⟩ ?_
  simp only [opsAt, List.filterMap_cons, List.filterMap_nil, List.getElem?_cons_zero, List.getElem?_cons_succ]
  iterate 6
    apply held_step
    · rfl
    · rintro _ ⟨V, rfl⟩
      go_simp
      rfl
  refine held_nil ?_
  refine anyT_done (by kernel_rfl) ?_
  simp only [opsAt, List.filterMap_cons, List.filterMap_nil, List.getElem?_cons_zero, List.getElem?_cons_succ]
  obtain ⟨wd, hwd⟩ : ∃ wd, wd = w.drew := ⟨_, rfl⟩
  rw [← hwd] at HAD HFO ⊢
  have HBD : Hid (Below w.heap.size w wd) := Lib.hid (by rw [hwd]; exact HBC)
  clear hwd HBC s1 s2 s3
  refine wpList_append_own_spare wd rfl _ _ 38 rfl B 48 i0 3 Try.underlying38 HI.out.1 HI.out.2.2.1 g i c ((mv l).take (i * 3)) rfl HFO.out ad k3 k4 ((mv l).drop (j * 3)) rfl HLN.out HAD.out HON.out HRM.out ?_
  intro w5 h5 hg5
  obtain ⟨n1, hn1⟩ : ∃ n1, n1 = i + k3 := ⟨_, rfl⟩
  rw [← hn1] at h5 ⊢
  have hn2 : n1 = n - 1 ∧ n1 + 1 = n := by rw [hn1]; exact HN1.out
  have hcc := HCP.out.1
  have s4 : ∀ W, (Instr.slice 38 (.slice (some ⟨g, 0, none⟩) n1 c) (some (.int .i64 (n1 : Int))) (some (.int .i64 (n : Int))) none).run Try.prog W = .ok (.slice (some ⟨g, n1 * 3, none⟩) 1 (c - n1)) W := fun W => by
    have h9 := run_slice_lh (P := Try.prog) Try.underlying38 HI.out.1 HI.out.2.2.1 (some ⟨g, 0, none⟩) n1 c (lo' := n1) (hi' := n) rfl rfl (by omega) hcc W
    rw [show n - n1 = 1 by omega] at h9
    unfold subAn at h9
    rw [if_neg (by omega)] at h9
    simpa [Addr.add_lit] using h9
  have hsp := own_spare h5
  have hcl6 : ∀ ty, (Builtin.clear_ #[38] ty #[.slice (some ⟨g, n1 * 3, none⟩) 1 (c - n1)]).run Try.prog w5 = .ok (.tuple #[]) (((w5.setCell ⟨g, n1 * 3, none⟩ (.int .i64 0)).setCell ⟨g, n1 * 3 + 1, none⟩ (.int .i64 0)).setCell ⟨g, n1 * 3 + 2, none⟩ (.bool false)) := fun ty =>
    run_clear_mb w5 ty Try.underlying38 g (n1 * 3) (c - n1) (fun t ht => hsp.1 _ (by omega)) (fun t ht => hsp.2 _)
  have h6 := own_setHigh (own_setHigh (own_setHigh h5 (k := n1 * 3) (Nat.le_refl _) (.int .i64 0)) (k := n1 * 3 + 1) (by omega) (.int .i64 0)) (k := n1 * 3 + 2) (by omega) (.bool false)
  have hot := (((Oth.of_below (a := some ⟨g, 0, none⟩) HBD.out).trans (Oth.grown hg5)).set (p := ⟨g, n1 * 3, none⟩) rfl rfl (.int .i64 0)).set (p := ⟨g, n1 * 3 + 1, none⟩) rfl rfl (.int .i64 0)
  have hot2 := hot.set (p := ⟨g, n1 * 3 + 2, none⟩) rfl rfl (.bool false)
  have HEND : Hid (AccM (((w5.setCell ⟨g, n1 * 3, none⟩ (.int .i64 0)).setCell ⟨g, n1 * 3 + 1, none⟩ (.int .i64 0)).setCell ⟨g, n1 * 3 + 2, none⟩ (.bool false)) B (some ⟨g, 0, none⟩) n1 c (l.eraseIdx i) ∧ Oth (some ⟨g, 0, none⟩) w (((w5.setCell ⟨g, n1 * 3, none⟩ (.int .i64 0)).setCell ⟨g, n1 * 3 + 1, none⟩ (.int .i64 0)).setCell ⟨g, n1 * 3 + 2, none⟩ (.bool false))) := Lib.hid ⟨⟨by rw [List.length_eraseIdx, HL.out, if_pos hi]; omega, by rw [mv_erase, ← HJ.out]; exact h6⟩, hot2⟩
  have HNE := Lib.hid hn2.1
  have hnn : n1 ≤ 9223372036854775807 := by omega
  clear h5 hg5 hsp h6 hot hot2 hn1 hn2 HAD HFO HLN HON HRM HN1
  go_wp2
  go_ret
  exact ⟨by rw [HNE.out]; rfl, by rw [← HNE.out]; exact HEND.out.1, HEND.out.2⟩
end Go.Proofs.Ytincllchoflpmaa
