/- master.Stripe. -/
import Derived.Test.YtincllchoflpmaaMsV
import Derived.Test.YtincllchoflpmaaMsT
namespace Go.Proofs.Ytincllchoflpmaa
open Go.RowKit
set_option linter.unusedVariables false
set_option linter.unusedSimpArgs false

section
variable {P : Program}
/-- 's[:hi:max]'. -/
theorem run_slice_hm {t e : TypeId} {i : TypeInfo} {s : Nat} (ht : P.underlying t = some (.slice e)) (hi : P.info? e = some i) (hs : i.size = s) (a : Option Addr) (n c : Nat) {hi mx : Int} {hi' mx' : Nat} (hhi : hi = hi') (hmx : mx = mx') (h2 : hi' ≤ mx') (h3 : mx' ≤ c) (w : World) :
    (Instr.slice t (.slice a n c) none (some (.int .i64 hi)) (some (.int .i64 mx))).run P w = .ok (.slice a hi' mx') w := by
  subst hhi hmx hs
  simp [Instr.slice, run_underlying ht, sizeOf, typeInfo, hi, Instr.sliceBounds, run_sliceBound, h2, h3]
  intro _; cases a <;> simp [Addr.add_zero']
end
theorem Is.drop {w : World} {a : Option Addr} {n c : Nat} {l : List Int} (h : Is w a n c l) {k : Nat} (hk : k ≤ n) : Is w (subA a c k) (n - k) (c - k) (l.drop k) := by
  refine ⟨by rw [List.length_drop, h.1], by have := h.2.1; omega, by have := h.2.2.1; omega, ?_, fun z hz => h.2.2.2.2 z (List.mem_of_mem_drop hz)⟩
  rw [show zv (l.drop k) = (zv l).drop k by simp [zv]]
  exact h.2.2.2.1.dropIf k c (by simp [zv, h.1]; exact h.2.1)
theorem Is.take {w : World} {a : Option Addr} {n c c' : Nat} {l : List Int} (h : Is w a n c l) {k : Nat} (hk : k ≤ n) (hc : k ≤ c') (hc2 : c' ≤ c) : Is w a k c' (l.take k) := by
  refine ⟨by rw [List.length_take, h.1]; omega, hc, by have := h.2.2.1; omega, ?_, fun z hz => h.2.2.2.2 z (List.mem_of_mem_take hz)⟩
  rw [show zv (l.take k) = (zv l).take k by simp [zv]]
  exact h.2.2.2.1.take k
/-- A stripe's nodes. -/
def Ms.rot (l : List Int) (s n : Nat) : List Int := (l.drop (s % l.length) ++ l.take (s % l.length)).take n
def StripeP (w : World) (l : List Int) (n : Nat) (e : Ending) (w' : World) : Prop :=
  ∃ a cp, e = .returned (.tuple #[.slice a n cp, .int .i64 0]) ∧ Is w' a n cp l ∧ (∀ y, a = some y → w.heap.size ≤ y.block ∧ y.block < w'.heap.size) ∧ Below w.heap.size w w'
set_option maxRecDepth 8000 in
set_option maxHeartbeats 2000000 in
theorem stripe_no (c : Cf) (ac ast : Option Addr) (cc cs : Nat) (s : Nat) (n : Int) (w : World) (h : CfR w c ac cc ast cs) (hn : n < 1 ∨ (c.stores.length : Int) < n) (hs : c.stores.length ≤ 16) :
    Calls Try.prog 29 #[cval c ac cc ast cs, .int .u64 s, .int .i64 n] w fun e w' => ∃ k : Int, (k == 0) = false ∧ e = .returned (.tuple #[.slice none 0 0, .int .i64 k]) ∧ Below w.heap.size w w' := by
  have hc := cf_box w c ac cc ast cs
  have hb := below_alloc1 w (.cells #[.int .i64 c.epoch, .slice ac c.chain.length cc, .slice ast c.stores.length cs] 41)
  have HR0 := Lib.hid h.stores
  clear h
  unfold cval
  go_enter Try.func29, Try.ntmps29
  go_upto_region 1 with fail
  obtain ⟨W1, hW1⟩ : ∃ W1, w.alloc (.cells #[.int .i64 c.epoch, .slice ac c.chain.length cc, .slice ast c.stores.length cs] 41) = W1 := ⟨_, rfl⟩
  obtain ⟨b3, hb3⟩ : ∃ b, b = w.heap.size := ⟨_, rfl⟩
  rw [hW1] at hc hb ⊢
  rw [← hb3] at hc ⊢
  have HB := Lib.hid (show Below w.heap.size w W1 from hb)
  have p2 := hc.stores
  obtain ⟨m, hm⟩ : ∃ m, m = c.stores.length := ⟨_, rfl⟩
  have HR := Lib.hid (HR0.out.below hb)
  have HM := Lib.hid hm
  rw [← hm] at p2 hn hs HR
  clear hb hc hW1 hb3 HR0 hm
  by_cases h1 : n < 1
  · have t1 : decide (n < (1 : Int)) = true := decide_eq_true h1
    clear hn hs h1
    go_wp2
    exact bodyPost_ret (v := .tuple #[.slice none 0 0, .int .i64 1]) (by simp [results, Try.results29, go_sem]) rfl ⟨1, rfl, rfl, HB.out⟩
  have t1 : decide (n < (1 : Int)) = false := decide_eq_false h1
  by_cases h2 : 255 < n
  · have t2 : decide ((255 : Int) < n) = true := decide_eq_true h2
    clear hn hs h1 h2
    go_wp2
    exact bodyPost_ret (v := .tuple #[.slice none 0 0, .int .i64 1]) (by simp [results, Try.results29, go_sem]) rfl ⟨1, rfl, rfl, HB.out⟩
  have t2 : decide ((255 : Int) < n) = false := decide_eq_false h2
  have t3 : decide ((m : Int) < n) = true := decide_eq_true (by omega)
  clear hn hs h1 h2
  go_wp2
  exact bodyPost_ret (v := .tuple #[.slice none 0 0, .int .i64 23]) (by simp [results, Try.results29, go_sem]) rfl ⟨23, rfl, rfl, HB.out⟩
set_option maxRecDepth 8000 in
set_option maxHeartbeats 4000000 in
theorem stripe_yes (c : Cf) (ac ast : Option Addr) (cc cs : Nat) (s n : Nat) (w : World) (h : CfR w c ac cc ast cs) (h1 : 1 ≤ n) (hn : n ≤ c.stores.length) (hs : c.stores.length ≤ 16) :
    Calls Try.prog 29 #[cval c ac cc ast cs, .int .u64 s, .int .i64 n] w (StripeP w (Ms.rot c.stores s n) n) := by
  have hc := cf_box w c ac cc ast cs
  have hb := below_alloc1 w (.cells #[.int .i64 c.epoch, .slice ac c.chain.length cc, .slice ast c.stores.length cs] 41)
  have HR0 := Lib.hid h.stores
  clear h
  unfold cval
  go_enter Try.func29, Try.ntmps29
  go_upto_region 1 with fail
  obtain ⟨W1, hW1⟩ : ∃ W1, w.alloc (.cells #[.int .i64 c.epoch, .slice ac c.chain.length cc, .slice ast c.stores.length cs] 41) = W1 := ⟨_, rfl⟩
  obtain ⟨b3, hb3⟩ : ∃ b, b = w.heap.size := ⟨_, rfl⟩
  rw [hW1] at hc hb ⊢
  rw [← hb3] at hc ⊢
  have HB := Lib.hid (show Below w.heap.size w W1 from hb)
  have p2 := hc.stores
  obtain ⟨m, hm⟩ : ∃ m, m = c.stores.length := ⟨_, rfl⟩
  have HR := Lib.hid (HR0.out.below hb)
  have HM := Lib.hid hm
  rw [← hm] at p2 hn hs HR
  clear hb hc hW1 hb3 HR0 hm
  have t1 : decide ((n : Int) < (1 : Int)) = false := decide_eq_false (by omega)
  have t2 : decide ((255 : Int) < (n : Int)) = false := decide_eq_false (by omega)
  have t3 : decide (m < n) = false := decide_eq_false (by omega)
  obtain ⟨q, hq⟩ : ∃ q, q = s % m := ⟨_, rfl⟩
  have hqm : q < m := by rw [hq]; exact Nat.mod_lt _ (by omega)
  have hw1 : IntKind.u64.wrap (m : Int) = (m : Int) := by rw [IntKind.wrap_u64]; omega
  have hw2 : ((s : Int) % (m : Int)) = (q : Int) := by rw [hq]; simp
  have hw3 : ((m : Int) = 0) = False := by simp; omega
  have hw4 : (m = 0) = False := by simp; omega
  have hw5 : wrap64 (q : Int) = (q : Int) := by unfold wrap64; omega
  have HQ : Hid (q = s % m ∧ q < m) := Lib.hid ⟨hq, hqm⟩
  clear hq
  go_upto_region 6 with fail
  obtain ⟨i0, hi0, hz0, hz1, hz2⟩ := info_parts infoI
  have hsl1 : ∀ W, (Instr.slice 39 (.slice ast m cs) (some (.int .i64 (q : Int))) none none).run Try.prog W = .ok (.slice (subA ast cs q) (m - q) (cs - q)) W := fun W => by
    rw [run_slice_l Try.underlying39 hi0 hz1 ast m cs rfl (Nat.le_of_lt hqm) W, subAn_one]
  have hsl2 : ∀ W, (Instr.slice 39 (.slice ast m cs) none (some (.int .i64 (q : Int))) none).run Try.prog W = .ok (.slice ast q cs) W := fun W =>
    run_slice_h Try.underlying39 hi0 hz1 ast m cs rfl (by have := HR.out.2.1; omega) W
  have hsl3 : ∀ (a : Option Addr) (c' : Nat) (W : World), n ≤ c' → (Instr.slice 39 (.slice a m c') none (some (.int .i64 (n : Int))) (some (.int .i64 (n : Int)))).run Try.prog W = .ok (.slice a n n) W := fun a c' W hc' =>
    run_slice_hm Try.underlying39 hi0 hz1 a m c' rfl rfl (Nat.le_refl _) hc' W
  have HS3 := Lib.hid hsl3
  clear hi0 hz0 hz1 hz2 hsl3 hw1 hw2 hw3 hw4 hw5 t1 t2 t3
  refine wp_region_steps [13, 14] 13 13 (by kernel_rfl) (by kernel_rfl) rfl (fun W' => ∃ V : BW W1, W' = V.w) ?_
  have HBC := (Below.refl W1.heap.size W1).drew
  refine anyT_pull [0, 1, 2, 3, 4, 5, 6, 7, 10, 11] 13 3 (by intro c a d v w h; cases d <;> exact h) (by kernel_rfl) ⟨⟨_, HBC⟩, rfl⟩ ?_
  simp only [opsAt, List.filterMap_cons, List.filterMap_nil, List.getElem?_cons_zero, List.getElem?_cons_succ]
  iterate 10
    apply held_step
    · rfl
    · rintro _ ⟨V, rfl⟩
      have m2 := BW.cell p2 V
      go_simp
      rfl
  refine held_nil ?_
  refine anyT_one 8 rfl (by kernel_rfl) rfl (fun K hK => ?_)
  go_simp
  have hb2 : Below W1.heap.size W1 (W1.alloc (.cells #[.slice (subA ast cs q) (m - q) (cs - q), .slice ast q cs] 39)).drew := (below_alloc1 W1 _).drew
  have hheap := heap_alloc_new W1 (.cells #[.slice (subA ast cs q) (m - q) (cs - q), .slice ast q cs] 39)
  have his : Iss (W1.alloc (.cells #[.slice (subA ast cs q) (m - q) (cs - q), .slice ast q cs] 39)).drew (some ⟨W1.heap.size, 0, none⟩) 2 2 [c.stores.drop q, c.stores.take q] := by
    refine ⟨rfl, Nat.le_refl _, by simp [maxLen], fun i hi => ?_⟩
    rcases (by omega : i = 0 ∨ i = 1) with rfl | rfl
    · exact ⟨_, _, _, _, _, rfl, (cell_of_row _ _ 0 _ _ _ hheap).trans rfl, (HR.out.drop (Nat.le_of_lt hqm)).below hb2⟩
    · exact ⟨_, _, _, _, _, rfl, (cell_of_row _ _ 1 _ _ _ hheap).trans rfl, (HR.out.take (Nat.le_of_lt hqm) (by have := HR.out.2.1; omega) (Nat.le_refl _)).below hb2⟩
  obtain ⟨W2, hW2⟩ : ∃ W2, (W1.alloc (.cells #[.slice (subA ast cs q) (m - q) (cs - q), .slice ast q cs] 39)).drew = W2 := ⟨_, rfl⟩
  rw [hW2] at hb2 his ⊢
  have HCC := Lib.hid (concati_any (some ⟨W1.heap.size, 0, none⟩) 2 2 _ W2 his (by
    unfold itot
    simp only [List.flatten_cons, List.flatten_nil, List.append_nil, List.length_append, List.length_drop, List.length_take]
    have := HM.out
    omega))
  have HSZ := Lib.hid (Nat.le_trans HB.out.size hb2.size)
  replace HBC := hb2
  clear hb2 hheap his hW2
  refine hK _ _ ⟨⟨_, HBC⟩, rfl⟩ ?_
  clear hK
  refine anyT_one 9 rfl (by kernel_rfl) rfl (fun K hK => ?_)
  go_simp
  refine HCC.out.mono ?_
  rintro en W3 ⟨a3, n3, c3, rfl, hown, hbn⟩
  have hl3 := hown.1
  simp only [List.flatten_cons, List.flatten_nil, List.append_nil, List.length_append, List.length_drop, List.length_take] at hl3
  obtain rfl : n3 = m := by have := HM.out; omega
  have HO := Lib.hid hown
  have HB3 := Lib.hid hbn
  replace HBC := HBC.trans (hbn.mono HBC.size)
  have hsl4 : ∀ W, (Instr.slice 39 (.slice a3 n3 c3) none (some (.int .i64 (n : Int))) (some (.int .i64 (n : Int)))).run Try.prog W = .ok (.slice a3 n n) W := fun W => HS3.out a3 c3 W (by have := hown.is.2.1; omega)
  refine hK _ _ ⟨⟨_, HBC⟩, rfl⟩ ?_
  clear hK hbn hl3 hown HCC
  refine anyT_pull [12] 13 0 (by intro c a d v w h; cases d <;> exact h) (by kernel_rfl) ⟨⟨_, HBC⟩, rfl⟩ ?_
  simp only [opsAt, List.filterMap_cons, List.filterMap_nil, List.getElem?_cons_zero, List.getElem?_cons_succ]
  iterate 1
    apply held_step
    · rfl
    · rintro _ ⟨V, rfl⟩
      go_simp
      rfl
  refine held_nil ?_
  refine anyT_done (by kernel_rfl) ?_
  simp only [opsAt, List.filterMap_cons, List.filterMap_nil, List.getElem?_cons_zero, List.getElem?_cons_succ]
  have HBE := Lib.hid (HB.out.trans (HBC.mono HB.out.size))
  have HBS := Lib.hid HBC.size
  go_wp2
  refine bodyPost_ret (v := .tuple #[.slice a3 n n, .int .i64 0]) (by simp [results, Try.results29, go_sem]) rfl ⟨a3, n, rfl, ?_, ?_, HBE.out⟩
  · have := HO.out.is.take (k := n) (c' := n) hn (Nat.le_refl _) (by have := HO.out.is.2.1; omega)
    unfold Ms.rot
    rw [← HM.out, ← HQ.out.1]
    simpa using this
  · intro y hy
    obtain ⟨g, hg, h5, h6⟩ := own_form HO.out.2.1 (by omega)
    rw [hg] at hy
    cases hy
    exact ⟨Nat.le_trans HSZ.out h5, h6⟩
end Go.Proofs.Ytincllchoflpmaa
