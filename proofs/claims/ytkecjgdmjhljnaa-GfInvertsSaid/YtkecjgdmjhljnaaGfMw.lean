/- The walks of GfMatrices and GfSolves. -/
import Derived.Test.YtkecjgdmjhljnaaGfX
import Derived.Test.YtkecjgdmjhljnaaGfRi
import Derived.Test.YtkecjgdmjhljnaaGfK
namespace Go.Proofs.Ytkecjgdmjhljnaa
open Go.RowKit Go.Deep

theorem few_yes (a : Option Addr) (n c : Nat) (ls : List (List UInt8)) (w : World) (h : Bss w a n c ls) (hf : tot ls + n ≤ 1000000000) (hy : tot ls + n ≤ 2000) :
    Calls Try.prog 21 #[.slice a n c] w fun e w' => e = .returned (.bool true) ∧ w = w' := by
  have := few_any a n c ls w h hf
  rw [decide_eq_true hy] at this
  exact this
theorem few_no (a : Option Addr) (n c : Nat) (ls : List (List UInt8)) (w : World) (h : Bss w a n c ls) (hf : tot ls + n ≤ 1000000000) (hy : ¬ tot ls + n ≤ 2000) :
    Calls Try.prog 21 #[.slice a n c] w fun e w' => e = .returned (.bool false) ∧ w = w' := by
  have := few_any a n c ls w h hf
  rw [decide_eq_false hy] at this
  exact this
set_option maxRecDepth 100000 in
set_option maxHeartbeats 8000000 in
theorem gfMatrices_walk (am ao av an : Option Addr) (nm cm no co nv cv nn cn : Nat) (lm lo : List (List UInt8)) (lv : List UInt8) (ln : List Int) (w : World)
    (hm : Bss w am nm cm lm) (ho : Bss w ao no co lo) (hv : Bs w av nv cv lv) (hn : Is w an nn cn ln) (hfm : tot lm + nm ≤ 1000000000) (hfo : tot lo + no ≤ 1000000000) :
    Calls Try.prog 10 #[.slice am nm cm, .slice ao no co, .slice av nv cv, .slice an nn cn] w fun e w' => e = .returned (.bool true) ∧ Below w.heap.size w w' := by
  have hne : ∀ k : Int, (k != k) = false := fun k => by simp
  have heq : ∀ k : Int, (k == k) = true := fun k => by simp
  have HE := Lib.hid (And.intro hne heq)
  have hlv := hv.le.1
  have hln := hn.le.1
  have HBm : Hid (∀ W, Below w.heap.size w W → Bss W am nm cm lm) := Lib.hid fun W h => hm.below h
  have HBo : Hid (∀ W, Below w.heap.size w W → Bss W ao no co lo) := Lib.hid fun W h => ho.below h
  have HBv : Hid (∀ W, Below w.heap.size w W → Bs W av nv cv lv) := Lib.hid fun W h => hv.below h
  have HBn : Hid (∀ W, Below w.heap.size w W → Is W an nn cn ln) := Lib.hid fun W h => hn.below h
  clear hm ho hv hn hne heq
  go_enter Try.func10, Try.ntmps10
  go_wp2_with fail
  refine (known_any _).mono ?_
  rintro e w1 ⟨rfl, hb1⟩
  have HB := Lib.hid hb1
  clear hb1
  by_cases f1 : tot lm + nm ≤ 2000
  case neg =>
    go_wp2_with (go_at_call 21; refine (few_no _ _ _ lm _ (HBm.out _ HB.out) hfm f1).mono ?_; rintro e w2 ⟨rfl, rfl⟩)
    go_ret
    exact ⟨rfl, HB.out⟩
  by_cases f2 : tot lo + no ≤ 2000
  case neg =>
    go_wp2_with (go_at_call 21; first | ((with_reducible refine (few_yes _ _ _ lm _ (HBm.out _ HB.out) hfm f1).mono ?_); rintro e w2 ⟨rfl, rfl⟩) | (refine (few_no _ _ _ lo _ (HBo.out _ HB.out) hfo f2).mono ?_; rintro e w2 ⟨rfl, rfl⟩))
    go_ret
    exact ⟨rfl, HB.out⟩
  have H1 := Lib.hid (And.intro (And.intro hfm f1) (And.intro hfo f2))
  clear hfm hfo f1 f2
  by_cases f3 : 2000 < nv
  · have t1 : decide ((2000 : Int) < (nv : Int)) = true := decide_eq_true (by omega)
    clear f3
    go_wp2_with (go_at_call 21; first | ((with_reducible refine (few_yes _ _ _ lm _ (HBm.out _ HB.out) H1.out.1.1 H1.out.1.2).mono ?_); rintro e w2 ⟨rfl, rfl⟩) | (refine (few_yes _ _ _ lo _ (HBo.out _ HB.out) H1.out.2.1 H1.out.2.2).mono ?_; rintro e w2 ⟨rfl, rfl⟩))
    go_ret
    exact ⟨rfl, HB.out⟩
  have t1 : decide ((2000 : Int) < (nv : Int)) = false := decide_eq_false (by omega)
  by_cases f4 : 300 < nn
  · have t2 : decide ((300 : Int) < (nn : Int)) = true := decide_eq_true (by omega)
    clear f4 f3
    go_wp2_with (go_at_call 21; first | ((with_reducible refine (few_yes _ _ _ lm _ (HBm.out _ HB.out) H1.out.1.1 H1.out.1.2).mono ?_); rintro e w2 ⟨rfl, rfl⟩) | (refine (few_yes _ _ _ lo _ (HBo.out _ HB.out) H1.out.2.1 H1.out.2.2).mono ?_; rintro e w2 ⟨rfl, rfl⟩))
    go_ret
    exact ⟨rfl, HB.out⟩
  have t2 : decide ((300 : Int) < (nn : Int)) = false := decide_eq_false (by omega)
  have hnn : nn ≤ 300 := by omega
  clear f3 f4
  go_wp2_with (go_at_call 21; first | ((with_reducible refine (few_yes _ _ _ lm _ (HBm.out _ HB.out) H1.out.1.1 H1.out.1.2).mono ?_); rintro e w2 ⟨rfl, rfl⟩) | (refine (few_yes _ _ _ lo _ (HBo.out _ HB.out) H1.out.2.1 H1.out.2.2).mono ?_; rintro e w2 ⟨rfl, rfl⟩))
  clear t1 t2
  -- products
  refine (times_any _ _ _ _ _ _ lm lo w1 (HBm.out _ HB.out) (HBo.out _ HB.out)).mono ?_
  rintro e w2 hr
  obtain ⟨⟨a2, n2, c2, rfl, h2⟩, hb2⟩ := hr.res
  have HA := Lib.hid h2
  have HB2 := Lib.hid (HB.out.trans (hb2.mono HB.out.size))
  clear hr h2 hb2
  go_wp2_with fail
  refine (reftimes_any _ _ _ _ _ _ lm lo w2 (HBm.out _ HB2.out) (HBo.out _ HB2.out)).mono ?_
  rintro e w3 hr
  obtain ⟨⟨a3, n3, c3, rfl, h3⟩, hb3⟩ := hr.res
  have HA3 := Lib.hid (HA.out.below hb3)
  have HC3 := Lib.hid h3
  have HB3 := Lib.hid (HB2.out.trans (hb3.mono HB2.out.size))
  clear hr h3 hb3 HA HB2 HB
  go_wp2_with fail
  refine (same_yes _ _ _ _ _ _ _ _ HA3.out HC3.out).mono ?_
  rintro e w4 ⟨rfl, hb4⟩
  have HB4 := Lib.hid (HB3.out.trans (hb4.mono HB3.out.size))
  have s1 := HE.out.1 (Gf.timesE lm lo)
  clear hb4 HB3 HA3 HC3
  go_wp2_with fail
  clear s1
  -- a vector
  refine (apply_any _ _ _ _ _ _ lm lv w4 (HBm.out _ HB4.out) (HBv.out _ HB4.out)).mono ?_
  rintro e w5 ⟨⟨a5, n5, c5, rfl, h5⟩, hb5⟩
  have HA := Lib.hid h5
  have HB5 := Lib.hid (HB4.out.trans (hb5.mono HB4.out.size))
  clear h5 hb5 HB4
  go_wp2_with fail
  refine (refapply_any _ _ _ _ _ _ lm lv w5 (HBm.out _ HB5.out) (HBv.out _ HB5.out)).mono ?_
  rintro e w6 ⟨⟨a6, n6, c6, rfl, h6⟩, hb6⟩
  have hv1 := conv_bytes (HA.out.below hb6)
  have hv2 := conv_bytes h6
  have HB6 := Lib.hid (HB5.out.trans (hb6.mono HB5.out.size))
  have s1 := HE.out.1 (Gf.applyE lm lv)
  clear h6 hb6 HB5 HA
  go_wp2_with fail
  clear s1 hv1 hv2
  -- the inverse
  refine (minv_any _ _ _ lm w6 (HBm.out _ HB6.out)).mono ?_
  rintro e w2 hr
  obtain ⟨⟨a2, n2, c2, rfl, h2⟩, hb2⟩ := hr.res
  have HA := Lib.hid h2
  have HB2 := Lib.hid (HB6.out.trans (hb2.mono HB6.out.size))
  clear hr h2 hb2
  go_wp2_with fail
  refine (refinv_any _ _ _ lm w2 (HBm.out _ HB2.out)).mono ?_
  rintro e w3 hr
  obtain ⟨⟨a3, n3, c3, rfl, h3⟩, hb3⟩ := hr.res
  have HA3 := Lib.hid (HA.out.below hb3)
  have HC3 := Lib.hid h3
  have HB3 := Lib.hid (HB2.out.trans (hb3.mono HB2.out.size))
  clear hr h3 hb3 HA HB2 HB6
  go_wp2_with fail
  refine (same_yes _ _ _ _ _ _ _ _ HA3.out HC3.out).mono ?_
  rintro e w7 ⟨rfl, hb7⟩
  have HB7 := Lib.hid (HB3.out.trans (hb7.mono HB3.out.size))
  have s1 := HE.out.1 (Gf.invE lm)
  clear hb7 HB3 HA3 HC3
  go_wp2_with fail
  clear s1
  -- rows
  refine (rows_any _ _ _ _ _ _ lm ln w7 (HBm.out _ HB7.out) (HBn.out _ HB7.out) (by omega)).mono ?_
  rintro e w2 hr
  obtain ⟨⟨a2, n2, c2, rfl, h2⟩, hb2⟩ := hr.res
  have HA := Lib.hid h2
  have HB2 := Lib.hid (HB7.out.trans (hb2.mono HB7.out.size))
  clear hr h2 hb2
  go_wp2_with fail
  refine (refrows_any _ _ _ _ _ _ lm ln w2 (HBm.out _ HB2.out) (HBn.out _ HB2.out)).mono ?_
  rintro e w3 hr
  obtain ⟨⟨a3, n3, c3, rfl, h3⟩, hb3⟩ := hr.res
  have HA3 := Lib.hid (HA.out.below hb3)
  have HC3 := Lib.hid h3
  have HB3 := Lib.hid (HB2.out.trans (hb3.mono HB2.out.size))
  clear hr h3 hb3 HA HB2 HB7
  go_wp2_with fail
  refine (same_yes _ _ _ _ _ _ _ _ HA3.out HC3.out).mono ?_
  rintro e w8 ⟨rfl, hb8⟩
  have HB8 := Lib.hid (HB3.out.trans (hb8.mono HB3.out.size))
  have s1 := HE.out.2 (Gf.rowsE lm ln)
  clear hb8 HB3 HA3 HC3
  go_wp2
  go_ret
  exact ⟨rfl, HB8.out⟩

theorem nth_map_range {α : Type} [Inhabited α] {n i : Nat} (F : Nat → α) (h : i < n) : nth ((List.range n).map F) i = F i := by
  rw [nth_eq _ (by simpa using h)]; simp
/-- An inverse undoes. -/
theorem solves {lm : List (List UInt8)} {lv : List UInt8} (h0 : Gf.invE lm = 0) (hl : lv.length = lm.length) :
    Gf.applyE lm lv = 0 ∧ Gf.applyE (Gf.invL lm) (Gf.applyL lm lv) = 0 ∧ Gf.applyL (Gf.invL lm) (Gf.applyL lm lv) = lv := by
  have hsq : Gf.sq lm = true := by
    cases h : Gf.sq lm with
    | true => rfl
    | false => rw [(inv_bad h).2] at h0; cases h0
  have hq := hsq
  unfold Gf.sq at hq
  rw [Bool.and_eq_true, decide_eq_true_eq] at hq
  obtain ⟨r1, r2, r3, r4, r5⟩ := right_spec hq.1
  obtain ⟨s, hs⟩ : ∃ s, Gf.gauss lm.length (at2 lm) lm.length = some s := by
    cases h : Gf.gauss lm.length (at2 lm) lm.length with
    | some s => exact ⟨s, rfl⟩
    | none => rw [(inv_none hsq rfl h).2] at h0; cases h0
  have hok : Gf.applyOk lm lv = true := by unfold Gf.applyOk; rw [hq.1, decide_eq_true (by omega)]; rfl
  obtain ⟨a1, a2⟩ := apply_good hok
  rw [(inv_some hsq rfl hs).1, a1, a2, hl]
  have hok2 : Gf.applyOk (mat lm.length lm.length s.2) ((List.range lm.length).map (fun i => Gf.sm lm.length (fun k => Gf.mul (at2 lm i k) (nth lv k)))) = true := by
    unfold Gf.applyOk
    rw [right_mat r1 r2 r1 r2, mat_row (by omega)]
    simp
  obtain ⟨b1, b2⟩ := apply_good hok2
  refine ⟨rfl, b2, ?_⟩
  rw [b1, mat_len]
  apply List.ext_getElem (by simp [hl])
  intro i h1 h2
  simp only [List.length_map, List.length_range, List.getElem_map, List.getElem_range]
  have hi : i < lm.length := by simpa using h1
  have := Gf.gauss_left hs (nth lv) hi
  rw [nth_eq lv h2] at this
  rw [← this]
  refine Gf.sm_congr fun j hj => ?_
  rw [at2_mat hi hj, nth_map_range _ hj]
  rfl
set_option maxHeartbeats 4000000 in
theorem gfSolves_walk (am av : Option Addr) (nm cm nv cv : Nat) (lm : List (List UInt8)) (lv : List UInt8) (w : World) (hm : Bss w am nm cm lm) (hv : Bs w av nv cv lv) (hfm : tot lm + nm ≤ 1000000000) :
    Calls Try.prog 9 #[.slice am nm cm, .slice av nv cv] w fun e w' => e = .returned (.bool true) ∧ Below w.heap.size w w' := by
  have hlm := hm.le.1
  have hlv := hv.le.1
  have HL := Lib.hid (And.intro hm.1 hv.1)
  have HBm : Hid (∀ W, Below w.heap.size w W → Bss W am nm cm lm) := Lib.hid fun W h => hm.below h
  have HBv : Hid (∀ W, Below w.heap.size w W → Bs W av nv cv lv) := Lib.hid fun W h => hv.below h
  clear hm hv
  go_enter Try.func9, Try.ntmps9
  go_wp2_with fail
  refine (known_any _).mono ?_
  rintro e w1 ⟨rfl, hb1⟩
  have HB := Lib.hid hb1
  clear hb1
  by_cases f1 : tot lm + nm ≤ 2000
  case neg =>
    go_wp2_with (go_at_call 21; refine (few_no _ _ _ lm _ (HBm.out _ HB.out) hfm f1).mono ?_; rintro e w2 ⟨rfl, rfl⟩)
    go_ret
    exact ⟨rfl, HB.out⟩
  have H1 := Lib.hid (And.intro hfm f1)
  by_cases f3 : 20 < nm
  · have t1 : decide ((20 : Int) < (nm : Int)) = true := decide_eq_true (by omega)
    clear f3 f1 hfm
    go_wp2_with (go_at_call 21; refine (few_yes _ _ _ lm _ (HBm.out _ HB.out) H1.out.1 H1.out.2).mono ?_; rintro e w2 ⟨rfl, rfl⟩)
    go_ret
    exact ⟨rfl, HB.out⟩
  have t1 : decide ((20 : Int) < (nm : Int)) = false := decide_eq_false (by omega)
  clear f3 f1 hfm
  go_wp2_with (go_at_call 21; refine (few_yes _ _ _ lm _ (HBm.out _ HB.out) H1.out.1 H1.out.2).mono ?_; rintro e w2 ⟨rfl, rfl⟩)
  clear t1
  refine (minv_any _ _ _ lm w1 (HBm.out _ HB.out)).mono ?_
  rintro e w2 hr
  obtain ⟨⟨a2, n2, c2, rfl, h2⟩, hb2⟩ := hr.res
  have HA := Lib.hid h2
  have HB2 := Lib.hid (HB.out.trans (hb2.mono HB.out.size))
  clear hr h2 hb2
  by_cases g1 : Gf.invE lm = 0
  case neg =>
    have s1 : (Gf.invE lm != 0) = true := by simpa using g1
    clear g1
    go_wp2
    go_ret
    exact ⟨rfl, HB2.out⟩
  by_cases g2 : nv = nm
  case neg =>
    have s1 : (Gf.invE lm != 0) = false := by simpa using g1
    have s2 : ((nv : Int) != (nm : Int)) = true := by simp; omega
    clear g1 g2
    go_wp2
    go_ret
    exact ⟨rfl, HB2.out⟩
  have hs := solves g1 (show lv.length = lm.length by rw [HL.out.1, HL.out.2, g2])
  have HS := Lib.hid hs
  have s2 : ((nv : Int) != (nm : Int)) = false := by simp; omega
  rw [g1]
  clear hs g1 g2
  go_wp2_with fail
  clear s2
  refine (apply_any _ _ _ _ _ _ lm lv w2 (HBm.out _ HB2.out) (HBv.out _ HB2.out)).mono ?_
  rintro e w5 ⟨⟨a5, n5, c5, rfl, h5⟩, hb5⟩
  rw [HS.out.1]
  have HA5 := Lib.hid (HA.out.below hb5)
  have HC5 := Lib.hid h5
  have HB5 := Lib.hid (HB2.out.trans (hb5.mono HB2.out.size))
  clear h5 hb5 HB2 HA
  go_wp2_with fail
  refine (apply_any _ _ _ _ _ _ _ _ w5 HA5.out HC5.out).mono ?_
  rintro e w6 ⟨⟨a6, n6, c6, rfl, h6⟩, hb6⟩
  rw [HS.out.2.1]
  rw [HS.out.2.2] at h6
  have HB6 := Lib.hid (HB5.out.trans (hb6.mono HB5.out.size))
  have hv1 := conv_bytes h6
  have hv2 := conv_bytes (HBv.out _ HB6.out)
  clear h6 hb6 HB5 HA5 HC5
  go_wp2
  go_ret
  exact ⟨rfl, HB6.out⟩
end Go.Proofs.Ytkecjgdmjhljnaa
