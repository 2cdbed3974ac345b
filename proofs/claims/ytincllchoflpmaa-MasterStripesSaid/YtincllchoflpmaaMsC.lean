/- master.apart. -/
import Derived.Test.YtincllchoflpmaaMsB
namespace Go.Proofs.Ytincllchoflpmaa
open Go.RowKit
set_option linter.unusedVariables false

theorem infoI : (Try.prog.info? 3).map (fun i => (i.zero, i.size, i.bytes)) = some (some (.int .i64 0), 1, 8) := by kernel_rfl
theorem zv_one (l : List Int) : ∀ u ∈ zv l, u.oneCell' = true := fun u hu => by
  obtain ⟨z, _, rfl⟩ := List.mem_map.1 hu
  rfl
set_option maxHeartbeats 1000000 in
theorem clonei_any (a : Option Addr) (n c : Nat) (l : List Int) (w : World) (h : Is w a n c l) (hn : n ≤ 1000000000) :
    Calls Try.prog 86 #[.slice a n c] w fun e w' => ∃ a' c', e = .returned (.slice a' n c') ∧ AccI w' w.heap.size a' n c' l ∧ Below w.heap.size w w' := by
  have hq := fun (w : World) => Lib.run_eql_slice_nil (P := Try.prog) w 39 3 a n c 0 0 Try.underlying39
  have hle := h.le
  cases a with
  | none =>
    go_enter Try.func86, Try.ntmps86
    go_wp2
    go_ret
    have hn0 : n = 0 := by
      rcases Nat.eq_zero_or_pos n with h' | h'
      · exact h'
      · obtain ⟨_, _, h1, _⟩ := h.get h'; cases h1
    subst hn0
    have hl : l = [] := List.eq_nil_of_length_eq_zero h.1
    subst hl
    exact ⟨none, 0, rfl, AccI.nil _ _, Below.refl _ _⟩
  | some ad =>
    obtain ⟨i0, hi0, hz0, hz1, hz2⟩ := info_parts infoI
    have hrow : Row (w.alloc (.cells #[] 3)) (some ad) (zv l) := h.2.2.2.1.below (below_alloc1 w _)
    have hlit : (w.alloc (.cells #[] 3)).ownsRow w.heap.size 3 1 (.slice (some ⟨w.heap.size, 0, none⟩) 0 0) 0 [] :=
      ⟨rfl, .inr ⟨w.heap.size, 0, #[], rfl, Nat.le_refl _, heap_alloc_new w _, Nat.le_refl _, by simp [maxLen], rfl, rfl⟩⟩
    have HROW := Lib.hid hrow
    have HLIT := Lib.hid hlit
    have HCL : Hid ((zv l).length = n) := Lib.hid (by simp [zv, h.1])
    have HI := Lib.hid (And.intro hi0 (And.intro hz0 (And.intro hz1 hz2)))
    clear hrow hlit hi0 hz0 hz1 hz2
    go_enter Try.func86, Try.ntmps86
    go_wp2_with (at_builtin; refine wpList_app_own rfl _ _ 39 rfl w.heap.size 3 i0 (.int .i64 0) 1 8 Try.underlying39 HI.out.1 HI.out.2.1 HI.out.2.2.1 HI.out.2.2.2 rfl (by decide) (some ⟨w.heap.size, 0, none⟩) 0 0 [] rfl HLIT.out (some ad) n c (zv l) rfl HROW.out (by rw [HCL.out]; simp) (zv_one l) (by omega) (by simp only [maxLen]; omega) (le_alloc (Nat.le_refl _)) ?_; intro a5 c5 w5 h5 hev5)
    go_ret
    simp only [Nat.zero_add, List.nil_append] at h5
    exact ⟨a5, c5, by simp, ⟨h.1, h5, h.2.2.2.2⟩, (below_alloc1 w _).trans ((hev5.below (B := w.heap.size) (le_alloc (Nat.le_refl _)) (fun x hx => by cases hx; exact Nat.le_refl _)))⟩
set_option maxHeartbeats 1000000 in
theorem clonem_any (a : Option Addr) (n c : Nat) (l : List Mb) (w : World) (h : Ms w a n c l) (hn : n ≤ 1000000000) :
    Calls Try.prog 85 #[.slice a n c] w fun e w' => ∃ a' c', e = .returned (.slice a' n c') ∧ AccM w' w.heap.size a' n c' l ∧ Below w.heap.size w w' := by
  have hq := fun (w : World) => Lib.run_eql_slice_nil (P := Try.prog) w 38 48 a n c 0 0 Try.underlying38
  have hle := h.le
  cases a with
  | none =>
    go_enter Try.func85, Try.ntmps85
    go_wp2
    go_ret
    have hn0 : n = 0 := by
      rcases Nat.eq_zero_or_pos n with h' | h'
      · exact h'
      · obtain ⟨_, _, h1, _⟩ := h.get h'; cases h1
    subst hn0
    have hl : l = [] := List.eq_nil_of_length_eq_zero h.1
    subst hl
    exact ⟨none, 0, rfl, AccM.nil _ _, Below.refl _ _⟩
  | some ad =>
    obtain ⟨i0, hi0, hz0, hz1, hz2⟩ := info_parts infoMb
    have hrow : Row (w.alloc (.cells #[] 48)) (some ad) (mv l) := h.2.2.2.below (below_alloc1 w _)
    have hlit : (w.alloc (.cells #[] 48)).ownsRow w.heap.size 48 3 (.slice (some ⟨w.heap.size, 0, none⟩) 0 0) 0 [] :=
      ⟨rfl, .inr ⟨w.heap.size, 0, #[], rfl, Nat.le_refl _, heap_alloc_new w _, Nat.le_refl _, by simp [maxLen], rfl, rfl⟩⟩
    have HROW := Lib.hid hrow
    have HLIT := Lib.hid hlit
    have HCL : Hid ((mv l).length = n * 3) := Lib.hid (by rw [mv_len, h.1])
    have HI := Lib.hid (And.intro hi0 (And.intro hz0 (And.intro hz1 hz2)))
    clear hrow hlit hi0 hz0 hz1 hz2
    go_enter Try.func85, Try.ntmps85
    go_wp2_with (at_builtin; refine wpList_app_own rfl _ _ 38 rfl w.heap.size 48 i0 (.agg #[.int .i64 0, .int .i64 0, .bool false]) 3 24 Try.underlying38 HI.out.1 HI.out.2.1 HI.out.2.2.1 HI.out.2.2.2 rfl (by decide) (some ⟨w.heap.size, 0, none⟩) 0 0 [] rfl HLIT.out (some ad) n c (mv l) rfl HROW.out HCL.out (mv_one l) (by omega) (by simp only [maxLen]; omega) (le_alloc (Nat.le_refl _)) ?_; intro a5 c5 w5 h5 hev5)
    go_ret
    simp only [Nat.zero_add, List.nil_append] at h5
    exact ⟨a5, c5, by simp, ⟨h.1, h5⟩, (below_alloc1 w _).trans ((hev5.below (B := w.heap.size) (le_alloc (Nat.le_refl _)) (fun x hx => by cases hx; exact Nat.le_refl _)))⟩
/-- A configuration of the call's own. -/
structure CfO (w : World) (B : Nat) (c : Cf) (ac : Option Addr) (cc : Nat) (ast : Option Addr) (cs : Nat) : Prop where
  chain : AccM w B ac c.chain.length cc c.chain
  stores : AccI w B ast c.stores.length cs c.stores
theorem CfO.r {w : World} {B : Nat} {c : Cf} {ac ast : Option Addr} {cc cs : Nat} (h : CfO w B c ac cc ast cs) : CfR w c ac cc ast cs := ⟨h.chain.ms, h.stores.is⟩
theorem CfO.below {w w' : World} {B : Nat} {c : Cf} {ac ast : Option Addr} {cc cs : Nat} (h : CfO w B c ac cc ast cs) (hb : Below w.heap.size w w') : CfO w' B c ac cc ast cs := ⟨h.chain.below hb, h.stores.below hb⟩
theorem CfO.mono {w : World} {B B' : Nat} {c : Cf} {ac ast : Option Addr} {cc cs : Nat} (h : CfO w B c ac cc ast cs) (hB : B' ≤ B) : CfO w B' c ac cc ast cs := ⟨h.chain.mono hB, h.stores.mono hB⟩
theorem own_setLow {w : World} {B e s n c : Nat} {a : Option Addr} {cs : List Value} (h : w.ownsRow B e s (.slice a n c) n cs) {p : Addr} (hp : p.block < B) (v : Value) : (w.setCell p v).ownsRow B e s (.slice a n c) n cs := by
  refine ⟨h.1, ?_⟩
  rcases h.2 with g | ⟨g, cap, cur, g1, g2, g3, g4⟩
  · exact .inl g
  · exact .inr ⟨g, cap, cur, g1, g2, (Below.heap_setCell _ _ _ _ (by omega)).trans g3, g4⟩
theorem CfO.setLow {w : World} {B : Nat} {c : Cf} {ac ast : Option Addr} {cc cs : Nat} (h : CfO w B c ac cc ast cs) {p : Addr} (hp : p.block < B) (v : Value) : CfO (w.setCell p v) B c ac cc ast cs :=
  ⟨⟨h.chain.1, own_setLow h.chain.2 hp v⟩, ⟨h.stores.1, own_setLow h.stores.2.1 hp v, h.stores.2.2⟩⟩
/-- The three cells of a configuration set. -/
def cset (w : World) (b : Nat) (c : Cf) (ac : Option Addr) (cc : Nat) (ast : Option Addr) (cs : Nat) : World :=
  ((w.setCell ⟨b, 0, none⟩ (.int .i64 c.epoch)).setCell ⟨b, 1, none⟩ (.slice ac c.chain.length cc)).setCell ⟨b, 2, none⟩ (.slice ast c.stores.length cs)
theorem caddr_ne {b j k : Nat} (h : j ≠ k) : (⟨b, j, none⟩ : Addr) ≠ ⟨b, k, none⟩ := fun e => h (by cases e; rfl)
theorem cset_at {w : World} {b : Nat} {c c' : Cf} {ac ast ac' ast' : Option Addr} {cc cs cc' cs' : Nat} (h : CfAt w b c' ac' cc' ast' cs') : CfAt (cset w b c ac cc ast cs) b c ac cc ast cs := by
  have h0 := h.epoch
  have h1 := h.chain
  have h2 := h.stores
  unfold cset
  refine ⟨?_, ?_, ?_⟩
  · rw [World.cell?_setCell_other _ _ _ _ (caddr_ne (by decide)), World.cell?_setCell_other _ _ _ _ (caddr_ne (by decide))]
    exact World.cell?_setCell_same' _ _ _ (by rw [h0]; rfl)
  · rw [World.cell?_setCell_other _ _ _ _ (caddr_ne (by decide))]
    exact World.cell?_setCell_same' _ _ _ (by rw [World.cell?_setCell_other _ _ _ _ (caddr_ne (by decide)), h1]; rfl)
  · exact World.cell?_setCell_same' _ _ _ (by rw [World.cell?_setCell_other _ _ _ _ (caddr_ne (by decide)), World.cell?_setCell_other _ _ _ _ (caddr_ne (by decide)), h2]; rfl)
theorem cset_low {w : World} {B b : Nat} {c c' : Cf} {ac ast ac' ast' : Option Addr} {cc cs cc' cs' : Nat} (h : CfO w B c' ac' cc' ast' cs') (hb : b < B) : CfO (cset w b c ac cc ast cs) B c' ac' cc' ast' cs' :=
  ((h.setLow (p := ⟨b, 0, none⟩) hb _).setLow (p := ⟨b, 1, none⟩) hb _).setLow (p := ⟨b, 2, none⟩) hb _
theorem cset_below {w w' : World} {n b : Nat} {c : Cf} {ac ast : Option Addr} {cc cs : Nat} (h : Below n w w') (hb : n ≤ b) : Below n w (cset w' b c ac cc ast cs) :=
  ((h.setCell (p := ⟨b, 0, none⟩) hb _).setCell (p := ⟨b, 1, none⟩) hb _).setCell (p := ⟨b, 2, none⟩) hb _
/-- What tells a configuration of the call's own. -/
def RetCf (w : World) (c : Cf) (e : Ending) (w' : World) : Prop := ∃ ac cc ast cs, e = .returned (cval c ac cc ast cs) ∧ CfO w' w.heap.size c ac cc ast cs ∧ Below w.heap.size w w'
set_option maxHeartbeats 2000000 in
theorem apart_any (c : Cf) (ac ast : Option Addr) (cc cs : Nat) (w : World) (h : CfR w c ac cc ast cs) (hn : c.chain.length ≤ 1000000000 ∧ c.stores.length ≤ 1000000000) :
    Calls Try.prog 57 #[cval c ac cc ast cs] w (RetCf w c) := by
  have hc := cf_box w c ac cc ast cs
  have hb0 := below_alloc1 w (.cells #[.int .i64 c.epoch, .slice ac c.chain.length cc, .slice ast c.stores.length cs] 41)
  have hz := World.size_alloc w (.cells #[.int .i64 c.epoch, .slice ac c.chain.length cc, .slice ast c.stores.length cs] 41)
  have hfr : ∀ j, (w.alloc (.cells #[.int .i64 c.epoch, .slice ac c.chain.length cc, .slice ast c.stores.length cs] 41)).frozen? ⟨w.heap.size, j, none⟩ = false := fun j => (frozen?_alloc_cells _ _ _ _).trans (by simp [World.frozen?])
  have hb1 := below_alloc1 (w.alloc (.cells #[.int .i64 c.epoch, .slice ac c.chain.length cc, .slice ast c.stores.length cs] 41)) (.cells #[.int .i64 0, .slice none 0 0, .slice none 0 0] 41)
  have hc2 := cf_box (w.alloc (.cells #[.int .i64 c.epoch, .slice ac c.chain.length cc, .slice ast c.stores.length cs] 41)) Ms.zero none 0 none 0
  have hfr2 : ∀ j, ((w.alloc (.cells #[.int .i64 c.epoch, .slice ac c.chain.length cc, .slice ast c.stores.length cs] 41)).alloc (.cells #[.int .i64 0, .slice none 0 0, .slice none 0 0] 41)).frozen? ⟨w.heap.size + 1, j, none⟩ = false := fun j => by
    rw [← hz]
    exact (frozen?_alloc_cells _ _ _ _).trans (by simp [World.frozen?])
  unfold cval
  go_enter Try.func57, Try.ntmps57
  go_upto_region 1 with fail
  obtain ⟨w1, hw1⟩ : ∃ w1, w.alloc (.cells #[.int .i64 c.epoch, .slice ac c.chain.length cc, .slice ast c.stores.length cs] 41) = w1 := ⟨_, rfl⟩
  rw [hw1] at hc hb0 hz hfr hb1 hc2 hfr2 ⊢
  have hz2 := World.size_alloc w1 (.cells #[.int .i64 0, .slice none 0 0, .slice none 0 0] 41)
  have hf1 := fun j => ((below_alloc1 w1 (.cells #[.int .i64 0, .slice none 0 0, .slice none 0 0] 41)).frozen (p := ⟨w.heap.size, j, none⟩) (by show w.heap.size < _; omega)).trans (hfr j)
  replace hc := hc.below hb1
  obtain ⟨W, hW⟩ : ∃ W, w1.alloc (.cells #[.int .i64 0, .slice none 0 0, .slice none 0 0] 41) = W := ⟨_, rfl⟩
  have hc2' : CfAt W w1.heap.size Ms.zero none 0 none 0 := by rw [← hW]; exact hc2
  rw [hW] at hb1 hfr2 hz2 hf1 hc ⊢
  obtain ⟨g, hg⟩ : ∃ g, g = w.heap.size := ⟨_, rfl⟩
  obtain ⟨g2, hg2⟩ : ∃ g2, g2 = w.heap.size + 1 := ⟨_, rfl⟩
  rw [hz, ← hg2] at hc2'
  rw [← hg] at hf1 hc ⊢
  rw [← hg2] at hfr2
  try rw [← hg2]
  try rw [hg, ← hg2, ← hg]
  have hbW : Below w.heap.size w W := hb0.trans ((show Below w1.heap.size w1 W from hb1).mono hb0.size)
  have HRW := Lib.hid (h.below hbW)
  have HBW := Lib.hid hbW
  have HZ := Lib.hid (show w.heap.size ≤ g ∧ w.heap.size ≤ g2 ∧ g < W.heap.size ∧ g2 < W.heap.size ∧ g ≠ g2 by omega)
  have HC := Lib.hid hc
  have HC2 := Lib.hid hc2'
  have HF := Lib.hid (And.intro hf1 hfr2)
  have HHN := Lib.hid hn
  have p1 := hc.chain
  have p2 := hc.stores
  have HCM : Hid (∀ V : BW W, Calls Try.prog 85 #[.slice ac c.chain.length cc] V.w fun e w' => ∃ a' c', e = .returned (.slice a' c.chain.length c') ∧ AccM w' W.heap.size a' c.chain.length c' c.chain ∧ Below V.w.heap.size V.w w') := Lib.hid fun V => (clonem_any ac _ cc c.chain V.w (HRW.out.chain.below V.b) HHN.out.1).mono fun e w' ⟨a', c', h1, h2, h3⟩ => ⟨a', c', h1, h2.mono V.b.size, h3⟩
  have HCI : Hid (∀ V : BW W, Calls Try.prog 86 #[.slice ast c.stores.length cs] V.w fun e w' => ∃ a' c', e = .returned (.slice a' c.stores.length c') ∧ AccI w' W.heap.size a' c.stores.length c' c.stores ∧ Below V.w.heap.size V.w w') := Lib.hid fun V => (clonei_any ast _ cs c.stores V.w (HRW.out.stores.below V.b) HHN.out.2).mono fun e w' ⟨a', c', h1, h2, h3⟩ => ⟨a', c', h1, h2.mono V.b.size, h3⟩
  obtain ⟨n, hn1⟩ : ∃ n, n = c.chain.length := ⟨_, rfl⟩
  obtain ⟨m, hm1⟩ : ∃ m, m = c.stores.length := ⟨_, rfl⟩
  rw [← hn1] at p1 HCM
  rw [← hm1] at p2 HCI
  try rw [← hn1, ← hm1]
  have HNM := Lib.hid (And.intro hn1 hm1)
  clear hn hn1 hm1 hc hb0 hz hfr hb1 hc2 hfr2 hw1 hz2 hf1 hW hc2' hg hg2 hbW h
  refine wp_region_steps [7, 8, 9] 7 7 (by kernel_rfl) (by kernel_rfl) rfl (fun W' => ∃ V : BW W, W' = V.w) ?_
  have HBC := (Below.refl W.heap.size W).drew
  refine anyT_pull [0, 1, 3, 4] 7 3 (by intro c a d v w h; cases d <;> exact h) (by kernel_rfl) ⟨⟨_, HBC⟩, rfl⟩ ?_
  simp only [opsAt, List.filterMap_cons, List.filterMap_nil, List.getElem?_cons_zero, List.getElem?_cons_succ]
  iterate 4
    apply held_step
    · rfl
    · rintro _ ⟨V, rfl⟩
      have m1 := BW.cell p1 V
      have m2 := BW.cell p2 V
      go_simp
      rfl
  refine held_nil ?_
  refine anyT_one 2 rfl (by kernel_rfl) rfl (fun K hK => ?_)
  go_simp
  refine (HCM.out ⟨_, HBC⟩).mono ?_
  rintro en wn ⟨a5, c5, rfl, hm5, hbn⟩
  replace HBC := HBC.trans (hbn.mono HBC.size)
  refine hK _ _ ⟨⟨_, HBC⟩, rfl⟩ ?_
  clear hK hbn
  refine anyT_pull [6] 7 1 (by intro c a d v w h; cases d <;> exact h) (by kernel_rfl) ⟨⟨_, HBC⟩, rfl⟩ ?_
  simp only [opsAt, List.filterMap_cons, List.filterMap_nil, List.getElem?_cons_zero, List.getElem?_cons_succ]
  iterate 1
    apply held_step
    · rfl
    · rintro _ ⟨V, rfl⟩
      go_simp
      rfl
  refine held_nil ?_
  refine anyT_one 5 rfl (by kernel_rfl) rfl (fun K hK => ?_)
  go_simp
  refine (HCI.out ⟨_, HBC⟩).mono ?_
  rintro en wf ⟨a6, c6, rfl, hi6, hbn⟩
  replace hm5 := hm5.below hbn
  replace HBC := HBC.trans (hbn.mono HBC.size)
  refine hK _ _ ⟨⟨_, HBC⟩, rfl⟩ ?_
  clear hK hbn
  refine anyT_done (by kernel_rfl) ?_
  simp only [opsAt, List.filterMap_cons, List.filterMap_nil, List.getElem?_cons_zero, List.getElem?_cons_succ]
  have hcf := HC.out.below HBC
  have hcf2 := HC2.out.below HBC
  have f1 : ∀ j, wf.frozen? ⟨g, j, none⟩ = false := fun j => (HBC.frozen (p := ⟨g, j, none⟩) HZ.out.2.2.1).trans (HF.out.1 j)
  have f2 : ∀ j, wf.frozen? ⟨g2, j, none⟩ = false := fun j => (HBC.frozen (p := ⟨g2, j, none⟩) HZ.out.2.2.2.1).trans (HF.out.2 j)
  have x0 := hcf.epoch
  have x1 := hcf.chain
  have x2 := hcf.stores
  have z0 := hcf2.epoch
  have z1 := hcf2.chain
  have z2 := hcf2.stores
  have hng : g ≠ g2 := HZ.out.2.2.2.2
  have ha : ∀ {j k : Nat}, (⟨g, j, none⟩ : Addr) ≠ ⟨g2, k, none⟩ := fun e => hng (by cases e; rfl)
  have r0 : ((wf.setCell ⟨g, 1, none⟩ (.slice a5 n c5)).setCell ⟨g, 2, none⟩ (.slice a6 m c6)).cell? ⟨g, 0, none⟩ = some (.int .i64 c.epoch) := by
    rw [World.cell?_setCell_other _ _ _ _ (caddr_ne (by decide)), World.cell?_setCell_other _ _ _ _ (caddr_ne (by decide))]
    exact x0
  have r1 : ((wf.setCell ⟨g, 1, none⟩ (.slice a5 n c5)).setCell ⟨g, 2, none⟩ (.slice a6 m c6)).cell? ⟨g, 1, none⟩ = some (.slice a5 n c5) := by
    rw [World.cell?_setCell_other _ _ _ _ (caddr_ne (by decide))]
    exact World.cell?_setCell_same' _ _ _ (by rw [x1]; rfl)
  have r2 : ((wf.setCell ⟨g, 1, none⟩ (.slice a5 n c5)).setCell ⟨g, 2, none⟩ (.slice a6 m c6)).cell? ⟨g, 2, none⟩ = some (.slice a6 m c6) :=
    World.cell?_setCell_same' _ _ _ (by rw [World.cell?_setCell_other _ _ _ _ (caddr_ne (by decide)), x2]; rfl)
  have hO : CfO wf W.heap.size c a5 c5 a6 c6 := ⟨by rw [← HNM.out.1]; exact hm5, by rw [← HNM.out.2]; exact hi6⟩
  obtain ⟨W7, hW7⟩ : ∃ W7, (wf.setCell ⟨g, 1, none⟩ (.slice a5 n c5)).setCell ⟨g, 2, none⟩ (.slice a6 m c6) = W7 := ⟨_, rfl⟩
  have hat2 : CfAt W7 g2 Ms.zero none 0 none 0 := by
    rw [← hW7]
    refine ⟨?_, ?_, ?_⟩
    · rw [World.cell?_setCell_other _ _ _ _ ha, World.cell?_setCell_other _ _ _ _ ha]; exact z0
    · rw [World.cell?_setCell_other _ _ _ _ ha, World.cell?_setCell_other _ _ _ _ ha]; exact z1
    · rw [World.cell?_setCell_other _ _ _ _ ha, World.cell?_setCell_other _ _ _ _ ha]; exact z2
  have hf7 : ∀ j, W7.frozen? ⟨g2, j, none⟩ = false := fun j => by rw [← hW7]; simp [f2]
  have hO7 : CfO W7 W.heap.size c a5 c5 a6 c6 := by
    rw [← hW7]
    exact (hO.setLow (p := ⟨g, 1, none⟩) HZ.out.2.2.1 _).setLow (p := ⟨g, 2, none⟩) HZ.out.2.2.1 _
  have hB7 : Below w.heap.size w W7 := by
    rw [← hW7]
    exact ((HBW.out.trans (HBC.mono HBW.out.size)).setCell (p := ⟨g, 1, none⟩) HZ.out.1 _).setCell (p := ⟨g, 2, none⟩) HZ.out.1 _
  have hfin := cset_at (c := c) (ac := a5) (cc := c5) (ast := a6) (cs := c6) hat2
  have y0 := hfin.epoch
  have y1 := hfin.chain
  have y2 := hfin.stores
  unfold cset at y0 y1 y2
  have HEND : Hid (CfO (cset W7 g2 c a5 c5 a6 c6) w.heap.size c a5 c5 a6 c6 ∧ Below w.heap.size w (cset W7 g2 c a5 c5 a6 c6)) := Lib.hid ⟨(cset_low hO7 HZ.out.2.2.2.1).mono HBW.out.size, cset_below hB7 HZ.out.2.1⟩
  unfold cset at HEND
  have w0 := hat2.epoch
  have w1' := hat2.chain
  have w2' := hat2.stores
  rw [← HNM.out.1, ← HNM.out.2] at y0 y1 y2 HEND
  clear hO hO7 hB7 hfin hat2 hcf hcf2 HBC hm5 hi6 z0 z1 z2 HCM HCI hng ha
  go_upto_region 2 with fail
  rw [hW7] at r0 r1 r2
  try rw [hW7]
  clear hW7 x0 x1 x2 f1 f2
  go_wp2
  refine bodyPost_ret (v := .agg #[.int .i64 c.epoch, .slice a5 n c5, .slice a6 m c6]) (by simp [results, Try.results57, go_sem, y0, y1, y2]) rfl ⟨a5, c5, a6, c6, ?_, HEND.out.1, HEND.out.2⟩
  unfold cval
  rw [← HNM.out.1, ← HNM.out.2]
end Go.Proofs.Ytincllchoflpmaa
