/- The reference's versions: Compare, added, parted. -/
import Derived.Test.YtlipgaefflecaaaZCaF
set_option linter.unusedVariables false
set_option linter.unusedSimpArgs false
set_option maxRecDepth 100000
set_option linter.unusedVariables false
set_option linter.unusedSimpArgs false
namespace Go.Proofs.Ytlipgaefflecaaa
open Go.RowKit

def Tab.cmp (t u : Tab) : Int := if t.level ≠ u.level then (if t.level < u.level then -1 else 1) else if t.first ≠ u.first then (if Ent.klt t.first u.first = true then -1 else 1) else if t.file < u.file then -1 else if u.file < t.file then 1 else 0
set_option maxHeartbeats 2000000 in
theorem tcmp_any (t u : Tab) (w : World) : Calls Try.prog 39 #[tval t, tval u] w fun e w' => e = .returned (.int .i64 (Tab.cmp t u)) ∧ Below w.heap.size w w' := by
  have hb := two_boxes w (.cells #[.int .i64 t.file, .int .i64 t.level, .string (bstr t.first), .string (bstr t.last), .int .i64 t.size] 39) (.cells #[.int .i64 u.file, .int .i64 u.level, .string (bstr u.first), .string (bstr u.last), .int .i64 u.size] 39)
  obtain ⟨z, hz⟩ : ∃ z, z = Tab.cmp t u := ⟨_, rfl⟩
  rw [← hz]
  unfold Tab.cmp at hz
  unfold tval
  by_cases h1 : t.level = u.level
  case neg =>
    have t1 : (t.level != u.level) = true := by rw [bne_iff_ne]; exact h1
    rw [if_pos h1] at hz
    by_cases h2 : t.level < u.level
    · have t2 : decide (t.level < u.level) = true := decide_eq_true h2
      rw [if_pos h2] at hz
      subst hz
      clear h1 h2
      go_enter Try.func39, Try.ntmps39
      go_wp2
      go_ret
      exact ⟨rfl, hb⟩
    · have t2 : decide (t.level < u.level) = false := decide_eq_false h2
      rw [if_neg h2] at hz
      subst hz
      clear h1 h2
      go_enter Try.func39, Try.ntmps39
      go_wp2
      go_ret
      exact ⟨rfl, hb⟩
  have t1 : (t.level != u.level) = false := by rw [bne_eq_false_iff_eq]; exact h1
  rw [if_neg (fun h => h h1)] at hz
  clear h1
  by_cases h3 : t.first = u.first
  case neg =>
    have t3 : ((bstr t.first).toList == (bstr u.first).toList) = false := by rw [bstr_beq]; exact decide_eq_false h3
    have t3' : decide (t.first = u.first) = false := decide_eq_false h3
    rw [if_pos h3] at hz
    cases h4 : Ent.klt t.first u.first with
    | true =>
      have t4 : Op.bytesLess (bstr t.first).toList (bstr u.first).toList = true := by rw [bstr_list, bstr_list]; exact h4
      rw [h4, if_pos rfl] at hz
      subst hz
      clear h3 h4
      go_enter Try.func39, Try.ntmps39
      go_wp2
      go_ret
      exact ⟨rfl, hb⟩
    | false =>
      have t4 : Op.bytesLess (bstr t.first).toList (bstr u.first).toList = false := by rw [bstr_list, bstr_list]; exact h4
      rw [h4, if_neg (by simp)] at hz
      subst hz
      clear h3 h4
      go_enter Try.func39, Try.ntmps39
      go_wp2
      go_ret
      exact ⟨rfl, hb⟩
  have t3 : ((bstr t.first).toList == (bstr u.first).toList) = true := by rw [bstr_beq]; exact decide_eq_true h3
  have t3' : decide (t.first = u.first) = true := decide_eq_true h3
  rw [if_neg (fun h => h h3)] at hz
  clear h3
  by_cases h5 : t.file < u.file
  · have t5 : decide (t.file < u.file) = true := decide_eq_true h5
    rw [if_pos h5] at hz
    subst hz
    clear h5
    go_enter Try.func39, Try.ntmps39
    go_wp2
    go_ret
    exact ⟨rfl, hb⟩
  have t5 : decide (t.file < u.file) = false := decide_eq_false h5
  rw [if_neg h5] at hz
  by_cases h6 : u.file < t.file
  · have t6 : decide (u.file < t.file) = true := decide_eq_true h6
    rw [if_pos h6] at hz
    subst hz
    clear h5 h6
    go_enter Try.func39, Try.ntmps39
    go_wp2
    go_ret
    exact ⟨rfl, hb⟩
  have t6 : decide (u.file < t.file) = false := decide_eq_false h6
  rw [if_neg h6] at hz
  subst hz
  clear h5 h6
  go_enter Try.func39, Try.ntmps39
  go_wp2
  go_ret
  exact ⟨rfl, hb⟩
theorem tab_evol {w w' : World} {g k : Nat} {a' : Option Addr} {t : Tab} (h : TabAt w k 0 t) (e : Evol w (some ⟨g, 0, none⟩) w' a') (hk : k < w.heap.size) (hg : g ≠ k) : TabAt w' k 0 t := by
  have hb := e.1.block k hk (fun x => hg (by cases x; rfl))
  exact ⟨(World.cell?_of_block hb).trans h.file, (World.cell?_of_block hb).trans h.level, (World.cell?_of_block hb).trans h.first, (World.cell?_of_block hb).trans h.last, (World.cell?_of_block hb).trans h.size⟩
/-- append of tables, as one operation; what else stays. -/
theorem step_app_te {w : World} {o : Oper} {A : Act} {K : Act → World → Prop} {Q : Exit → Act → World → Prop} (s x : Operand) (ho : o.op = .call { callee := .builtin .append, args := #[s, x], argTypes := #[29, 29] })
    (B : Nat) {aq : Option Addr} {n c : Nat} {l : List Tab} (hs : A.eval s = .slice aq n c) (hacc : AccT w B aq n c l)
    {ax : Option Addr} {m cx : Nat} {l2 : List Tab} (hx : A.eval x = .slice ax m cx) (hr : Ts w ax m cx l2) (hb : n + m ≤ 1000000000) (hB : B ≤ w.heap.size)
    (h : ∀ a' c' w', AccT w' B a' (n + m) c' (l ++ l2) → Below B w w' → Evol w aq w' a' → K (A.put o.dst (.slice a' (n + m) c')) w') : o.wp Try.prog A w K Q := by
  obtain ⟨i, hi, h0, h1, h2⟩ := info_parts infoT
  obtain ⟨a', c', w', hr', g1, g2⟩ := run_append_own' (P := Try.prog) w B 29 o.type 39 i (.agg #[.int .i64 0, .int .i64 0, .string ByteArray.empty, .string ByteArray.empty, .int .i64 0]) 5 56 Try.underlying29 hi h0 h1 h2 rfl (by decide) aq n c (tv l) hacc.2 ax m cx (tv l2) (by rw [tv_len, hr.1]) hr.2.2.2 (tv_one l2) (by omega) (by simp only [maxLen]; omega) hB
  unfold Oper.wp execOp
  simp only [ho, resolve, invoke, builtin, Sem.run_bind, Sem.run_pure, Result.andThen_ok, List.map_toArray, List.map_cons, List.map_nil, hs, hx, hr']
  rw [← tv_app] at g1
  exact h a' c' w' ⟨by rw [List.length_append, hacc.1, hr.1], g1⟩ (g2.below hB (fun x hx => by subst hx; exact (World.ownsRow.lt hacc.2 x.block rfl).1)) g2
set_option maxHeartbeats 8000000 in
theorem added_any (a : Option Addr) (n c : Nat) (l : List Tab) (t : Tab) (w : World) (h : Ts w a n c l) (hn : n ≤ 1000000) :
    Calls Try.prog 27 #[.slice a n c, tval t] w fun e w' => ∃ a' c' L, e = .returned (.slice a' (n + 1) c') ∧ AccT w' w.heap.size a' (n + 1) c' L ∧ L.Perm (t :: l) ∧ Below w.heap.size w w' := by
  have HE : Hid (∀ W, Below w.heap.size w W → Ts W a n c l) := Lib.hid fun W k => h.below k
  have HN := Lib.hid h.1
  have hle := h.le
  have hcap := h.2.1
  have hb0 := below_alloc1 w (.cells #[.int .i64 t.file, .int .i64 t.level, .string (bstr t.first), .string (bstr t.last), .int .i64 t.size] 39)
  have hg0 := tab_box w t
  clear h
  unfold tval
  go_enter Try.func27, Try.ntmps27
  go_upto_region 1 with fail
  generalize w.alloc (.cells #[.int .i64 t.file, .int .i64 t.level, .string (bstr t.first), .string (bstr t.last), .int .i64 t.size] 39) = w1 at *
  have HB1 := Lib.hid hb0
  have HT1 : Hid (∀ W, Below w1.heap.size w1 W → TabAt W w.heap.size 0 t) := Lib.hid fun W k => hg0.below k
  clear hb0 hg0
  go_wp2_with fail
  go_loopw [5] (fun iv wr => ∃ i : Nat, i ≤ n ∧ iv = .int .i64 i ∧ Hid (Below w1.heap.size w1 wr)) (fun iv _ => n - (intOf iv).toNat)
  case atStart => exact ⟨0, by omega, rfl, Lib.hid (Below.refl _ _)⟩
  case round =>
    obtain ⟨i, hi, rfl, HB⟩ := hrel
    have HBW := Lib.hid (HB1.out.trans (HB.out.mono HB1.out.size))
    have hgo : Hid (i < n → Tab.cmp (nth l i) t < 0) ∨ (i < n ∧ ¬ Tab.cmp (nth l i) t < 0) ∨ ¬ i < n := by
      by_cases h1 : i < n
      · by_cases h2 : Tab.cmp (nth l i) t < 0
        · exact .inl (Lib.hid fun _ => h2)
        · exact .inr (.inl ⟨h1, h2⟩)
      · exact .inr (.inr h1)
    have hcases : (i < n ∧ Tab.cmp (nth l i) t < 0) ∨ (i < n ∧ ¬ Tab.cmp (nth l i) t < 0) ∨ ¬ i < n := by
      by_cases h1 : i < n
      · by_cases h2 : Tab.cmp (nth l i) t < 0
        · exact .inl ⟨h1, h2⟩
        · exact .inr (.inl ⟨h1, h2⟩)
      · exact .inr (.inr h1)
    clear hgo
    rcases hcases with ⟨hlt, hc⟩ | ⟨hlt, hc⟩ | hlt
    · have t1 : decide ((i : Int) < (n : Int)) = true := decide_eq_true (by omega)
      have t2 : decide (i < n) = true := decide_eq_true hlt
      have hcu := tcmp_any (nth l i) t
      obtain ⟨b1, o1, rfl, g1⟩ := (HE.out wr HBW.out).get hlt
      have HCU : Hid (∀ V : BW wr, Calls Try.prog 39 #[tval (nth l i), tval t] V.w fun e w' => e = .returned (.int .i64 (Tab.cmp (nth l i) t)) ∧ Below V.w.heap.size V.w w') := Lib.hid fun V => hcu V.w
      unfold tval at HCU
      have c0 := BW.cell g1.file
      have c1 := BW.cell g1.level
      have c2 := BW.cell g1.first
      have c3 := BW.cell g1.last
      have c4 := BW.cell g1.size
      have gt := HT1.out wr HB.out
      have d0 := BW.cell gt.file
      have d1 := BW.cell gt.level
      have d2 := BW.cell gt.first
      have d3 := BW.cell gt.last
      have d4 := BW.cell gt.size
      simp only [Nat.zero_add] at d0 d1 d2 d3 d4
      clear g1 gt hcu
      generalize Tab.cmp (nth l i) t = z at *
      generalize (nth l i).file = x0 at *
      generalize (nth l i).level = x1 at *
      generalize (nth l i).first = x2 at *
      generalize (nth l i).last = x3 at *
      generalize (nth l i).size = x4 at *
      have t3 : decide (z < 0) = true := decide_eq_true hc
      clear hc
      go_upto_region 2 with fail
      refine wp_region_class (w0 := wr) (by kernel_rfl) (by kernel_rfl) (Below.refl _ _) ?_
      repeat (first | go_big_quiet_step ((go_at_call 39; exact calls_class (HCU.out _))))
      refine wpQuiet_nil ?_
      intro w3 hb3; replace hb3 := BW.of hb3
      have HB3 := Lib.hid (HB.out.trans (hb3.mono HB.out.size))
      clear hb3 c0 c1 c2 c3 c4 d0 d1 d2 d3 d4 HCU
      go_wp2
      go_roundw
      case rel => exact ⟨i + 1, by omega, by go_num, HB3⟩
      case measure => simp [intOf]; omega
    · have t1 : decide ((i : Int) < (n : Int)) = true := decide_eq_true (by omega)
      have t2 : decide (i < n) = true := decide_eq_true hlt
      have hcu := tcmp_any (nth l i) t
      obtain ⟨b1, o1, rfl, g1⟩ := (HE.out wr HBW.out).get hlt
      have HCU : Hid (∀ V : BW wr, Calls Try.prog 39 #[tval (nth l i), tval t] V.w fun e w' => e = .returned (.int .i64 (Tab.cmp (nth l i) t)) ∧ Below V.w.heap.size V.w w') := Lib.hid fun V => hcu V.w
      unfold tval at HCU
      have c0 := BW.cell g1.file
      have c1 := BW.cell g1.level
      have c2 := BW.cell g1.first
      have c3 := BW.cell g1.last
      have c4 := BW.cell g1.size
      have gt := HT1.out wr HB.out
      have d0 := BW.cell gt.file
      have d1 := BW.cell gt.level
      have d2 := BW.cell gt.first
      have d3 := BW.cell gt.last
      have d4 := BW.cell gt.size
      simp only [Nat.zero_add] at d0 d1 d2 d3 d4
      clear g1 gt hcu
      generalize Tab.cmp (nth l i) t = z at *
      generalize (nth l i).file = x0 at *
      generalize (nth l i).level = x1 at *
      generalize (nth l i).first = x2 at *
      generalize (nth l i).last = x3 at *
      generalize (nth l i).size = x4 at *
      have t3 : decide (z < 0) = false := decide_eq_false hc
      clear hc
      go_upto_region 2 with fail
      refine wp_region_class (w0 := wr) (by kernel_rfl) (by kernel_rfl) (Below.refl _ _) ?_
      repeat (first | go_big_quiet_step ((go_at_call 39; exact calls_class (HCU.out _))))
      refine wpQuiet_nil ?_
      intro w3 hb3; replace hb3 := BW.of hb3
      have HB3 := Lib.hid (HB.out.trans (hb3.mono HB.out.size))
      clear hb3 c0 c1 c2 c3 c4 d0 d1 d2 d3 d4 HCU
      obtain ⟨i0, hi0, hz0, hz1, hz2⟩ := info_parts infoT
      have s1 : ∀ W, (Instr.slice 29 (.slice (some ⟨b1, o1, none⟩) n c) none (some (.int .i64 (i : Int))) none).run Try.prog W = .ok (.slice (some ⟨b1, o1, none⟩) i c) W := fun W => run_slice_h Try.underlying29 hi0 hz1 _ n c rfl (by omega) W
      obtain ⟨ab, hab⟩ : ∃ ab, ab = subAn (some ⟨b1, o1, none⟩) c i 5 := ⟨_, rfl⟩
      obtain ⟨nb, hnb⟩ : ∃ nb, nb = n - i := ⟨_, rfl⟩
      obtain ⟨cb, hcb⟩ : ∃ cb, cb = c - i := ⟨_, rfl⟩
      have s2 : ∀ W, (Instr.slice 29 (.slice (some ⟨b1, o1, none⟩) n c) (some (.int .i64 (i : Int))) none none).run Try.prog W = .ok (.slice ab nb cb) W := fun W => by
        rw [hab, hnb, hcb]
        exact run_slice_l Try.underlying29 hi0 hz1 _ n c rfl (by omega) W
      have HBX := Lib.hid (HB1.out.trans (HB3.out.mono HB1.out.size))
      have HS1 : Hid (∀ W, Below w3.heap.size w3 W → Ts W (some ⟨b1, o1, none⟩) i c (l.take i)) := Lib.hid fun W kb => (HE.out W (HBX.out.trans (kb.mono HBX.out.size))).front hi
      have HS2 : Hid (∀ W, Below w3.heap.size w3 W → Ts W ab nb cb (l.drop i)) := Lib.hid fun W kb => by rw [hab, hnb, hcb]; exact (HE.out W (HBX.out.trans (kb.mono HBX.out.size))).sub hi
      have HIN : Hid (i + 1 + nb = n + 1) := Lib.hid (by omega)
      have hnbb : nb ≤ n := by omega
      have HPM : Hid ((l.take i ++ [t] ++ l.drop i).Perm (t :: l)) := Lib.hid (by
        have h1 : (l.take i ++ [t] ++ l.drop i).Perm ([t] ++ l.take i ++ l.drop i) := (List.perm_append_comm).append_right _
        have h2 : [t] ++ l.take i ++ l.drop i = t :: l := by rw [List.append_assoc, List.take_append_drop]; rfl
        rw [h2] at h1
        exact h1)
      clear hi0 hz0 hz1 hz2 hab hcb hnb t1 t2
      go_upto_region 4 with fail
      refine wp_region_steps [8] 8 8 (by kernel_rfl) (by kernel_rfl) rfl (fun W' => ∃ V : BW w3, W' = V.w) ?_
      have HBD : Hid (Below w3.heap.size w3 w3.drew) := Lib.hid (Below.refl _ _).drew
      generalize w3.drew = wD at *
      refine anyT_pull [1, 2, 3, 5] 8 4 (by intro c a d v w h; cases d <;> exact h) (by kernel_rfl) ⟨⟨_, HBD.out⟩, rfl⟩ ?_
      simp only [opsAt, List.filterMap_cons, List.filterMap_nil, List.getElem?_cons_zero, List.getElem?_cons_succ]
      iterate 4
        apply held_step
        · kernel_rfl
        · rintro _ ⟨V, rfl⟩
          have gt := HT1.out V.w (HB3.out.trans (V.b.mono HB3.out.size))
          have d0 := gt.file
          have d1 := gt.level
          have d2 := gt.first
          have d3 := gt.last
          have d4 := gt.size
          simp only [Nat.zero_add] at d0 d1 d2 d3 d4
          go_simp
          rfl
      refine held_nil ?_
      apply anyT_two 0 6
      · rfl
      · rfl
      · kernel_rfl
      · kernel_rfl
      · kernel_rfl
      · intro K' hK
        go_simp
        have HBE := Lib.hid (HBD.out.trans ((below_alloc1 wD (.cells #[] 39)).mono HBD.out.size))
        have hszz : (wD.alloc (.cells #[] 39)).heap.size = wD.heap.size + 1 := World.size_alloc _ _
        have HAE := Lib.hid ((acct_lit0 wD).mono HBD.out.size)
        refine hK _ _ ⟨⟨_, HBE.out⟩, rfl⟩ ?_
        clear hK
        generalize wD.alloc (.cells #[] 39) = wE at *
        generalize wD.heap.size = gz at *
        apply anyT_two 4 6
        · rfl
        · rfl
        · kernel_rfl
        · kernel_rfl
        · kernel_rfl
        · intro K' hK
          refine step_app_te _ _ rfl w3.heap.size rfl HAE.out rfl (HS1.out wE HBE.out) (by omega) HBE.out.size ?_
          intro a4 c4 wG h4 hb4 hev
          simp only [Nat.zero_add, List.nil_append] at h4 ⊢
          have HBG := Lib.hid (HBE.out.trans hb4)
          have HAG := Lib.hid h4
          refine hK _ _ ⟨⟨_, HBG.out⟩, rfl⟩ ?_
          clear hK h4 hb4 hev
          apply anyT_one 6
          · rfl
          · kernel_rfl
          · kernel_rfl
          intro K' hK
          go_simp
          have HBI := Lib.hid (HBG.out.trans ((below_alloc1 wG (.cells #[.int .i64 t.file, .int .i64 t.level, .string (bstr t.first), .string (bstr t.last), .int .i64 t.size] 39)).mono HBG.out.size))
          have hszo : (wG.alloc (.cells #[.int .i64 t.file, .int .i64 t.level, .string (bstr t.first), .string (bstr t.last), .int .i64 t.size] 39)).heap.size = wG.heap.size + 1 := World.size_alloc _ _
          have HAG2 := Lib.hid (HAG.out.below (below_alloc1 wG (.cells #[.int .i64 t.file, .int .i64 t.level, .string (bstr t.first), .string (bstr t.last), .int .i64 t.size] 39)))
          have HTO2 := Lib.hid (tab_box wG t)
          refine hK _ _ ⟨⟨_, HBI.out⟩, rfl⟩ ?_
          clear hK
          generalize wG.alloc (.cells #[.int .i64 t.file, .int .i64 t.level, .string (bstr t.first), .string (bstr t.last), .int .i64 t.size] 39) = wI at *
          generalize wG.heap.size = go at *
          apply anyT_one 7
          · rfl
          · kernel_rfl
          · kernel_rfl
          intro K' hK
          refine step_app_t _ _ rfl w3.heap.size rfl HAG2.out rfl (ts_oneAt HTO2.out) (by omega) HBI.out.size ?_
          intro a7 c7 wH h7 hb7
          have HBH := Lib.hid (HBI.out.trans hb7)
          have HAH := Lib.hid h7
          refine hK _ _ ⟨⟨_, HBH.out⟩, rfl⟩ ?_
          clear hK h7 hb7
          refine anyT_done (by kernel_rfl) ?_
          simp only [opsAt, List.filterMap_cons, List.filterMap_nil, List.getElem?_cons_zero, List.getElem?_cons_succ]
          have HBY := Lib.hid (HBX.out.trans (HBH.out.mono HBX.out.size))
          have HSB := Lib.hid (HS2.out wH HBH.out)
          go_wp2_with (at_builtin; refine app_tabs rfl _ _ rfl w3.heap.size rfl HAH.out rfl HSB.out (by omega) HBH.out.size ?_; intro a9 c9 w9 h9 hb9 _; have HA9 := Lib.hid h9; have HB9 := Lib.hid (HBH.out.trans hb9); clear h9 hb9)
          go_ret
          have hA9 := HA9.out
          rw [HIN.out] at hA9 ⊢
          exact ⟨a9, c9, _, rfl, hA9.mono HBX.out.size, HPM.out, HBX.out.trans (HB9.out.mono HBX.out.size)⟩
        · intro K' hK
          go_simp
          have HBF := Lib.hid (HBE.out.trans ((below_alloc1 wE (.cells #[.int .i64 t.file, .int .i64 t.level, .string (bstr t.first), .string (bstr t.last), .int .i64 t.size] 39)).mono HBE.out.size))
          have hszo : (wE.alloc (.cells #[.int .i64 t.file, .int .i64 t.level, .string (bstr t.first), .string (bstr t.last), .int .i64 t.size] 39)).heap.size = wE.heap.size + 1 := World.size_alloc _ _
          have HAE2 := Lib.hid (HAE.out.below (below_alloc1 wE (.cells #[.int .i64 t.file, .int .i64 t.level, .string (bstr t.first), .string (bstr t.last), .int .i64 t.size] 39)))
          have HTO := Lib.hid (tab_box wE t)
          refine hK _ _ ⟨⟨_, HBF.out⟩, rfl⟩ ?_
          clear hK
          generalize wE.alloc (.cells #[.int .i64 t.file, .int .i64 t.level, .string (bstr t.first), .string (bstr t.last), .int .i64 t.size] 39) = wF at *
          generalize wE.heap.size = go at *
          subst hszz
          apply anyT_one 4
          · rfl
          · kernel_rfl
          · kernel_rfl
          intro K' hK
          refine step_app_te _ _ rfl w3.heap.size rfl HAE2.out rfl (HS1.out wF HBF.out) (by omega) HBF.out.size ?_
          intro a4 c4 wG h4 hb4 hev
          simp only [Nat.zero_add, List.nil_append] at h4 ⊢
          have HBG := Lib.hid (HBF.out.trans hb4)
          have HAG := Lib.hid h4
          have HTO2 := Lib.hid (tab_evol HTO.out hev (by omega) (by omega))
          refine hK _ _ ⟨⟨_, HBG.out⟩, rfl⟩ ?_
          clear hK h4 hb4 hev
          apply anyT_one 7
          · rfl
          · kernel_rfl
          · kernel_rfl
          intro K' hK
          refine step_app_t _ _ rfl w3.heap.size rfl HAG.out rfl (ts_oneAt HTO2.out) (by omega) HBG.out.size ?_
          intro a7 c7 wH h7 hb7
          have HBH := Lib.hid (HBG.out.trans hb7)
          have HAH := Lib.hid h7
          refine hK _ _ ⟨⟨_, HBH.out⟩, rfl⟩ ?_
          clear hK h7 hb7
          refine anyT_done (by kernel_rfl) ?_
          simp only [opsAt, List.filterMap_cons, List.filterMap_nil, List.getElem?_cons_zero, List.getElem?_cons_succ]
          have HBY := Lib.hid (HBX.out.trans (HBH.out.mono HBX.out.size))
          have HSB := Lib.hid (HS2.out wH HBH.out)
          go_wp2_with (at_builtin; refine app_tabs rfl _ _ rfl w3.heap.size rfl HAH.out rfl HSB.out (by omega) HBH.out.size ?_; intro a9 c9 w9 h9 hb9 _; have HA9 := Lib.hid h9; have HB9 := Lib.hid (HBH.out.trans hb9); clear h9 hb9)
          go_ret
          have hA9 := HA9.out
          rw [HIN.out] at hA9 ⊢
          exact ⟨a9, c9, _, rfl, hA9.mono HBX.out.size, HPM.out, HBX.out.trans (HB9.out.mono HBX.out.size)⟩
      · intro K' hK
        go_simp
        have HBE := Lib.hid (HBD.out.trans ((below_alloc1 wD (.cells #[.int .i64 t.file, .int .i64 t.level, .string (bstr t.first), .string (bstr t.last), .int .i64 t.size] 39)).mono HBD.out.size))
        have hszo : (wD.alloc (.cells #[.int .i64 t.file, .int .i64 t.level, .string (bstr t.first), .string (bstr t.last), .int .i64 t.size] 39)).heap.size = wD.heap.size + 1 := World.size_alloc _ _
        have HTO := Lib.hid (tab_box wD t)
        refine hK _ _ ⟨⟨_, HBE.out⟩, rfl⟩ ?_
        clear hK
        generalize wD.alloc (.cells #[.int .i64 t.file, .int .i64 t.level, .string (bstr t.first), .string (bstr t.last), .int .i64 t.size] 39) = wE at *
        generalize wD.heap.size = go at *
        apply anyT_one 0
        · rfl
        · kernel_rfl
        · kernel_rfl
        intro K' hK
        go_simp
        have HBF := Lib.hid (HBE.out.trans ((below_alloc1 wE (.cells #[] 39)).mono HBE.out.size))
        have hszz : (wE.alloc (.cells #[] 39)).heap.size = wE.heap.size + 1 := World.size_alloc _ _
        have HAE := Lib.hid ((acct_lit0 wE).mono HBE.out.size)
        have HTO1 := Lib.hid (HTO.out.below (below_alloc1 wE (.cells #[] 39)))
        refine hK _ _ ⟨⟨_, HBF.out⟩, rfl⟩ ?_
        clear hK
        generalize wE.alloc (.cells #[] 39) = wF at *
        generalize wE.heap.size = gz at *
        subst hszo
        apply anyT_one 4
        · rfl
        · kernel_rfl
        · kernel_rfl
        intro K' hK
        refine step_app_te _ _ rfl w3.heap.size rfl HAE.out rfl (HS1.out wF HBF.out) (by omega) HBF.out.size ?_
        intro a4 c4 wG h4 hb4 hev
        simp only [Nat.zero_add, List.nil_append] at h4 ⊢
        have HBG := Lib.hid (HBF.out.trans hb4)
        have HAG := Lib.hid h4
        have HTO2 := Lib.hid (tab_evol HTO1.out hev (by omega) (by omega))
        refine hK _ _ ⟨⟨_, HBG.out⟩, rfl⟩ ?_
        clear hK h4 hb4 hev
        apply anyT_one 7
        · rfl
        · kernel_rfl
        · kernel_rfl
        intro K' hK
        refine step_app_t _ _ rfl w3.heap.size rfl HAG.out rfl (ts_oneAt HTO2.out) (by omega) HBG.out.size ?_
        intro a7 c7 wH h7 hb7
        have HBH := Lib.hid (HBG.out.trans hb7)
        have HAH := Lib.hid h7
        refine hK _ _ ⟨⟨_, HBH.out⟩, rfl⟩ ?_
        clear hK h7 hb7
        refine anyT_done (by kernel_rfl) ?_
        simp only [opsAt, List.filterMap_cons, List.filterMap_nil, List.getElem?_cons_zero, List.getElem?_cons_succ]
        have HBY := Lib.hid (HBX.out.trans (HBH.out.mono HBX.out.size))
        have HSB := Lib.hid (HS2.out wH HBH.out)
        go_wp2_with (at_builtin; refine app_tabs rfl _ _ rfl w3.heap.size rfl HAH.out rfl HSB.out (by omega) HBH.out.size ?_; intro a9 c9 w9 h9 hb9 _; have HA9 := Lib.hid h9; have HB9 := Lib.hid (HBH.out.trans hb9); clear h9 hb9)
        go_ret
        have hA9 := HA9.out
        rw [HIN.out] at hA9 ⊢
        exact ⟨a9, c9, _, rfl, hA9.mono HBX.out.size, HPM.out, HBX.out.trans (HB9.out.mono HBX.out.size)⟩

    · have t1 : decide ((i : Int) < (n : Int)) = false := decide_eq_false (by omega)
      have t2 : decide (i < n) = false := decide_eq_false hlt
      go_upto_region 2 with fail
      refine wp_region_class (w0 := wr) (by kernel_rfl) (by kernel_rfl) (Below.refl _ _) ?_
      repeat (first | go_big_quiet_step (fail))
      refine wpQuiet_nil ?_
      intro w3 hb3; replace hb3 := BW.of hb3
      have HB3 := Lib.hid (HB.out.trans (hb3.mono HB.out.size))
      clear hb3
      obtain ⟨i0, hi0, hz0, hz1, hz2⟩ := info_parts infoT
      have s1 : ∀ W, (Instr.slice 29 (.slice a n c) none (some (.int .i64 (i : Int))) none).run Try.prog W = .ok (.slice a i c) W := fun W => run_slice_h Try.underlying29 hi0 hz1 _ n c rfl (by omega) W
      obtain ⟨ab, hab⟩ : ∃ ab, ab = subAn a c i 5 := ⟨_, rfl⟩
      obtain ⟨nb, hnb⟩ : ∃ nb, nb = n - i := ⟨_, rfl⟩
      obtain ⟨cb, hcb⟩ : ∃ cb, cb = c - i := ⟨_, rfl⟩
      have s2 : ∀ W, (Instr.slice 29 (.slice a n c) (some (.int .i64 (i : Int))) none none).run Try.prog W = .ok (.slice ab nb cb) W := fun W => by
        rw [hab, hnb, hcb]
        exact run_slice_l Try.underlying29 hi0 hz1 _ n c rfl (by omega) W
      have HBX := Lib.hid (HB1.out.trans (HB3.out.mono HB1.out.size))
      have HS1 : Hid (∀ W, Below w3.heap.size w3 W → Ts W a i c (l.take i)) := Lib.hid fun W kb => (HE.out W (HBX.out.trans (kb.mono HBX.out.size))).front hi
      have HS2 : Hid (∀ W, Below w3.heap.size w3 W → Ts W ab nb cb (l.drop i)) := Lib.hid fun W kb => by rw [hab, hnb, hcb]; exact (HE.out W (HBX.out.trans (kb.mono HBX.out.size))).sub hi
      have HIN : Hid (i + 1 + nb = n + 1) := Lib.hid (by omega)
      have hnbb : nb ≤ n := by omega
      have HPM : Hid ((l.take i ++ [t] ++ l.drop i).Perm (t :: l)) := Lib.hid (by
        have h1 : (l.take i ++ [t] ++ l.drop i).Perm ([t] ++ l.take i ++ l.drop i) := (List.perm_append_comm).append_right _
        have h2 : [t] ++ l.take i ++ l.drop i = t :: l := by rw [List.append_assoc, List.take_append_drop]; rfl
        rw [h2] at h1
        exact h1)
      clear hi0 hz0 hz1 hz2 hab hcb hnb t1 t2
      go_upto_region 4 with fail
      refine wp_region_steps [8] 8 8 (by kernel_rfl) (by kernel_rfl) rfl (fun W' => ∃ V : BW w3, W' = V.w) ?_
      have HBD : Hid (Below w3.heap.size w3 w3.drew) := Lib.hid (Below.refl _ _).drew
      generalize w3.drew = wD at *
      refine anyT_pull [1, 2, 3, 5] 8 4 (by intro c a d v w h; cases d <;> exact h) (by kernel_rfl) ⟨⟨_, HBD.out⟩, rfl⟩ ?_
      simp only [opsAt, List.filterMap_cons, List.filterMap_nil, List.getElem?_cons_zero, List.getElem?_cons_succ]
      iterate 4
        apply held_step
        · kernel_rfl
        · rintro _ ⟨V, rfl⟩
          have gt := HT1.out V.w (HB3.out.trans (V.b.mono HB3.out.size))
          have d0 := gt.file
          have d1 := gt.level
          have d2 := gt.first
          have d3 := gt.last
          have d4 := gt.size
          simp only [Nat.zero_add] at d0 d1 d2 d3 d4
          go_simp
          rfl
      refine held_nil ?_
      apply anyT_two 0 6
      · rfl
      · rfl
      · kernel_rfl
      · kernel_rfl
      · kernel_rfl
      · intro K' hK
        go_simp
        have HBE := Lib.hid (HBD.out.trans ((below_alloc1 wD (.cells #[] 39)).mono HBD.out.size))
        have hszz : (wD.alloc (.cells #[] 39)).heap.size = wD.heap.size + 1 := World.size_alloc _ _
        have HAE := Lib.hid ((acct_lit0 wD).mono HBD.out.size)
        refine hK _ _ ⟨⟨_, HBE.out⟩, rfl⟩ ?_
        clear hK
        generalize wD.alloc (.cells #[] 39) = wE at *
        generalize wD.heap.size = gz at *
        apply anyT_two 4 6
        · rfl
        · rfl
        · kernel_rfl
        · kernel_rfl
        · kernel_rfl
        · intro K' hK
          refine step_app_te _ _ rfl w3.heap.size rfl HAE.out rfl (HS1.out wE HBE.out) (by omega) HBE.out.size ?_
          intro a4 c4 wG h4 hb4 hev
          simp only [Nat.zero_add, List.nil_append] at h4 ⊢
          have HBG := Lib.hid (HBE.out.trans hb4)
          have HAG := Lib.hid h4
          refine hK _ _ ⟨⟨_, HBG.out⟩, rfl⟩ ?_
          clear hK h4 hb4 hev
          apply anyT_one 6
          · rfl
          · kernel_rfl
          · kernel_rfl
          intro K' hK
          go_simp
          have HBI := Lib.hid (HBG.out.trans ((below_alloc1 wG (.cells #[.int .i64 t.file, .int .i64 t.level, .string (bstr t.first), .string (bstr t.last), .int .i64 t.size] 39)).mono HBG.out.size))
          have hszo : (wG.alloc (.cells #[.int .i64 t.file, .int .i64 t.level, .string (bstr t.first), .string (bstr t.last), .int .i64 t.size] 39)).heap.size = wG.heap.size + 1 := World.size_alloc _ _
          have HAG2 := Lib.hid (HAG.out.below (below_alloc1 wG (.cells #[.int .i64 t.file, .int .i64 t.level, .string (bstr t.first), .string (bstr t.last), .int .i64 t.size] 39)))
          have HTO2 := Lib.hid (tab_box wG t)
          refine hK _ _ ⟨⟨_, HBI.out⟩, rfl⟩ ?_
          clear hK
          generalize wG.alloc (.cells #[.int .i64 t.file, .int .i64 t.level, .string (bstr t.first), .string (bstr t.last), .int .i64 t.size] 39) = wI at *
          generalize wG.heap.size = go at *
          apply anyT_one 7
          · rfl
          · kernel_rfl
          · kernel_rfl
          intro K' hK
          refine step_app_t _ _ rfl w3.heap.size rfl HAG2.out rfl (ts_oneAt HTO2.out) (by omega) HBI.out.size ?_
          intro a7 c7 wH h7 hb7
          have HBH := Lib.hid (HBI.out.trans hb7)
          have HAH := Lib.hid h7
          refine hK _ _ ⟨⟨_, HBH.out⟩, rfl⟩ ?_
          clear hK h7 hb7
          refine anyT_done (by kernel_rfl) ?_
          simp only [opsAt, List.filterMap_cons, List.filterMap_nil, List.getElem?_cons_zero, List.getElem?_cons_succ]
          have HBY := Lib.hid (HBX.out.trans (HBH.out.mono HBX.out.size))
          have HSB := Lib.hid (HS2.out wH HBH.out)
          go_wp2_with (at_builtin; refine app_tabs rfl _ _ rfl w3.heap.size rfl HAH.out rfl HSB.out (by omega) HBH.out.size ?_; intro a9 c9 w9 h9 hb9 _; have HA9 := Lib.hid h9; have HB9 := Lib.hid (HBH.out.trans hb9); clear h9 hb9)
          go_ret
          have hA9 := HA9.out
          rw [HIN.out] at hA9 ⊢
          exact ⟨a9, c9, _, rfl, hA9.mono HBX.out.size, HPM.out, HBX.out.trans (HB9.out.mono HBX.out.size)⟩
        · intro K' hK
          go_simp
          have HBF := Lib.hid (HBE.out.trans ((below_alloc1 wE (.cells #[.int .i64 t.file, .int .i64 t.level, .string (bstr t.first), .string (bstr t.last), .int .i64 t.size] 39)).mono HBE.out.size))
          have hszo : (wE.alloc (.cells #[.int .i64 t.file, .int .i64 t.level, .string (bstr t.first), .string (bstr t.last), .int .i64 t.size] 39)).heap.size = wE.heap.size + 1 := World.size_alloc _ _
          have HAE2 := Lib.hid (HAE.out.below (below_alloc1 wE (.cells #[.int .i64 t.file, .int .i64 t.level, .string (bstr t.first), .string (bstr t.last), .int .i64 t.size] 39)))
          have HTO := Lib.hid (tab_box wE t)
          refine hK _ _ ⟨⟨_, HBF.out⟩, rfl⟩ ?_
          clear hK
          generalize wE.alloc (.cells #[.int .i64 t.file, .int .i64 t.level, .string (bstr t.first), .string (bstr t.last), .int .i64 t.size] 39) = wF at *
          generalize wE.heap.size = go at *
          subst hszz
          apply anyT_one 4
          · rfl
          · kernel_rfl
          · kernel_rfl
          intro K' hK
          refine step_app_te _ _ rfl w3.heap.size rfl HAE2.out rfl (HS1.out wF HBF.out) (by omega) HBF.out.size ?_
          intro a4 c4 wG h4 hb4 hev
          simp only [Nat.zero_add, List.nil_append] at h4 ⊢
          have HBG := Lib.hid (HBF.out.trans hb4)
          have HAG := Lib.hid h4
          have HTO2 := Lib.hid (tab_evol HTO.out hev (by omega) (by omega))
          refine hK _ _ ⟨⟨_, HBG.out⟩, rfl⟩ ?_
          clear hK h4 hb4 hev
          apply anyT_one 7
          · rfl
          · kernel_rfl
          · kernel_rfl
          intro K' hK
          refine step_app_t _ _ rfl w3.heap.size rfl HAG.out rfl (ts_oneAt HTO2.out) (by omega) HBG.out.size ?_
          intro a7 c7 wH h7 hb7
          have HBH := Lib.hid (HBG.out.trans hb7)
          have HAH := Lib.hid h7
          refine hK _ _ ⟨⟨_, HBH.out⟩, rfl⟩ ?_
          clear hK h7 hb7
          refine anyT_done (by kernel_rfl) ?_
          simp only [opsAt, List.filterMap_cons, List.filterMap_nil, List.getElem?_cons_zero, List.getElem?_cons_succ]
          have HBY := Lib.hid (HBX.out.trans (HBH.out.mono HBX.out.size))
          have HSB := Lib.hid (HS2.out wH HBH.out)
          go_wp2_with (at_builtin; refine app_tabs rfl _ _ rfl w3.heap.size rfl HAH.out rfl HSB.out (by omega) HBH.out.size ?_; intro a9 c9 w9 h9 hb9 _; have HA9 := Lib.hid h9; have HB9 := Lib.hid (HBH.out.trans hb9); clear h9 hb9)
          go_ret
          have hA9 := HA9.out
          rw [HIN.out] at hA9 ⊢
          exact ⟨a9, c9, _, rfl, hA9.mono HBX.out.size, HPM.out, HBX.out.trans (HB9.out.mono HBX.out.size)⟩
      · intro K' hK
        go_simp
        have HBE := Lib.hid (HBD.out.trans ((below_alloc1 wD (.cells #[.int .i64 t.file, .int .i64 t.level, .string (bstr t.first), .string (bstr t.last), .int .i64 t.size] 39)).mono HBD.out.size))
        have hszo : (wD.alloc (.cells #[.int .i64 t.file, .int .i64 t.level, .string (bstr t.first), .string (bstr t.last), .int .i64 t.size] 39)).heap.size = wD.heap.size + 1 := World.size_alloc _ _
        have HTO := Lib.hid (tab_box wD t)
        refine hK _ _ ⟨⟨_, HBE.out⟩, rfl⟩ ?_
        clear hK
        generalize wD.alloc (.cells #[.int .i64 t.file, .int .i64 t.level, .string (bstr t.first), .string (bstr t.last), .int .i64 t.size] 39) = wE at *
        generalize wD.heap.size = go at *
        apply anyT_one 0
        · rfl
        · kernel_rfl
        · kernel_rfl
        intro K' hK
        go_simp
        have HBF := Lib.hid (HBE.out.trans ((below_alloc1 wE (.cells #[] 39)).mono HBE.out.size))
        have hszz : (wE.alloc (.cells #[] 39)).heap.size = wE.heap.size + 1 := World.size_alloc _ _
        have HAE := Lib.hid ((acct_lit0 wE).mono HBE.out.size)
        have HTO1 := Lib.hid (HTO.out.below (below_alloc1 wE (.cells #[] 39)))
        refine hK _ _ ⟨⟨_, HBF.out⟩, rfl⟩ ?_
        clear hK
        generalize wE.alloc (.cells #[] 39) = wF at *
        generalize wE.heap.size = gz at *
        subst hszo
        apply anyT_one 4
        · rfl
        · kernel_rfl
        · kernel_rfl
        intro K' hK
        refine step_app_te _ _ rfl w3.heap.size rfl HAE.out rfl (HS1.out wF HBF.out) (by omega) HBF.out.size ?_
        intro a4 c4 wG h4 hb4 hev
        simp only [Nat.zero_add, List.nil_append] at h4 ⊢
        have HBG := Lib.hid (HBF.out.trans hb4)
        have HAG := Lib.hid h4
        have HTO2 := Lib.hid (tab_evol HTO1.out hev (by omega) (by omega))
        refine hK _ _ ⟨⟨_, HBG.out⟩, rfl⟩ ?_
        clear hK h4 hb4 hev
        apply anyT_one 7
        · rfl
        · kernel_rfl
        · kernel_rfl
        intro K' hK
        refine step_app_t _ _ rfl w3.heap.size rfl HAG.out rfl (ts_oneAt HTO2.out) (by omega) HBG.out.size ?_
        intro a7 c7 wH h7 hb7
        have HBH := Lib.hid (HBG.out.trans hb7)
        have HAH := Lib.hid h7
        refine hK _ _ ⟨⟨_, HBH.out⟩, rfl⟩ ?_
        clear hK h7 hb7
        refine anyT_done (by kernel_rfl) ?_
        simp only [opsAt, List.filterMap_cons, List.filterMap_nil, List.getElem?_cons_zero, List.getElem?_cons_succ]
        have HBY := Lib.hid (HBX.out.trans (HBH.out.mono HBX.out.size))
        have HSB := Lib.hid (HS2.out wH HBH.out)
        go_wp2_with (at_builtin; refine app_tabs rfl _ _ rfl w3.heap.size rfl HAH.out rfl HSB.out (by omega) HBH.out.size ?_; intro a9 c9 w9 h9 hb9 _; have HA9 := Lib.hid h9; have HB9 := Lib.hid (HBH.out.trans hb9); clear h9 hb9)
        go_ret
        have hA9 := HA9.out
        rw [HIN.out] at hA9 ⊢
        exact ⟨a9, c9, _, rfl, hA9.mono HBX.out.size, HPM.out, HBX.out.trans (HB9.out.mono HBX.out.size)⟩

def Ca.lowLev (t u : Tab) : Prop := 1 ≤ t.level → t.level = u.level → Ca.Far t u
set_option maxHeartbeats 4000000 in
theorem parted_any (a : Option Addr) (n c : Nat) (l : List Tab) (w : World) (h : Ts w a n c l) (hn : n ≤ 1000000) (hp : ∀ i k, k < i → i < n → Ca.lowLev (nth l i) (nth l k)) :
    Calls Try.prog 28 #[.slice a n c] w fun e w' => e = .returned (.bool true) ∧ Below w.heap.size w w' := by
  have HE := Lib.hid h
  have HP := Lib.hid hp
  have hle := h.le
  clear h hp
  go_enter Try.func28, Try.ntmps28
  go_wp2_with fail
  go_loopw [3] (fun iv wr => ∃ i : Nat, i ≤ n ∧ iv = .int .i64 i ∧ Hid (Below w.heap.size w wr)) (fun iv _ => n - (intOf iv).toNat)
  case atStart => exact ⟨0, by omega, rfl, Lib.hid (Below.refl _ _)⟩
  case round =>
    obtain ⟨i, hi, rfl, HB⟩ := hrel
    by_cases hlt : i < n
    case neg =>
      obtain rfl : i = n := by omega
      have t1 : decide ((i : Int) < (i : Int)) = false := decide_eq_false (by omega)
      have t2 : decide (i < i) = false := decide_eq_false (by omega)
      go_wp2
      go_ret
      exact ⟨rfl, HB.out⟩
    have t1 : decide ((i : Int) < (n : Int)) = true := decide_eq_true (by omega)
    have t2 : decide (i < n) = true := decide_eq_true hlt
    go_wp2_with fail
    clear t1 t2
    go_loopw [4] (fun kv wq => ∃ k : Nat, k ≤ i ∧ kv = .int .i64 k ∧ Hid (Below w.heap.size w wq)) (fun kv _ => i - (intOf kv).toNat)
    case atStart => exact ⟨0, by omega, rfl, HB⟩
    case round =>
      clear HB
      obtain ⟨k, hk, rfl, HB⟩ := hrel
      by_cases hlk : k < i
      case neg =>
        obtain rfl : k = i := by omega
        have t3 : decide ((k : Int) < (k : Int)) = false := decide_eq_false (by omega)
        have t4 : decide (k < k) = false := decide_eq_false (by omega)
        go_wp2
        go_roundw
        case rel => exact ⟨k + 1, by omega, by go_num, HB⟩
        case measure => simp [intOf]; omega
      have t3 : decide ((k : Int) < (i : Int)) = true := decide_eq_true (by omega)
      have t4 : decide (k < i) = true := decide_eq_true hlk
      have hkn : k < n := by omega
      have hpp := HP.out i k hlk hlt
      obtain ⟨b1, o1, rfl, g1⟩ := (HE.out.below HB.out).get hlt
      obtain ⟨b2, o2, e2, g2⟩ := (HE.out.below HB.out).get hkn
      cases e2
      have c1 := BW.cell g1.level
      have c2 := BW.cell g1.first
      have c3 := BW.cell g1.last
      have d1 := BW.cell g2.level
      have d2 := BW.cell g2.first
      have d3 := BW.cell g2.last
      clear g1 g2
      unfold Ca.lowLev Ca.Far at hpp
      generalize (nth l i).level = x1 at *
      generalize (nth l i).first = x2 at *
      generalize (nth l i).last = x3 at *
      generalize (nth l k).level = y1 at *
      generalize (nth l k).first = y2 at *
      generalize (nth l k).last = y3 at *
      go_upto_region 7 with fail
      by_cases h1 : 1 ≤ x1
      case neg =>
        have u1 : decide (1 ≤ x1) = false := decide_eq_false h1
        clear h1 hpp
        refine wp_region_class (w0 := wr) (by kernel_rfl) (by kernel_rfl) (Below.refl _ _) ?_
        repeat (first | go_big_quiet_step (fail))
        refine wpQuiet_nil ?_
        intro w3 hb3; replace hb3 := BW.of hb3
        have HB3 := Lib.hid (HB.out.trans (hb3.mono HB.out.size))
        clear hb3 c1 c2 c3 d1 d2 d3
        go_wp2
        go_roundw
        case rel => exact ⟨k + 1, by omega, by go_num, HB3⟩
        case measure => simp [intOf]; omega
      have u1 : decide (1 ≤ x1) = true := decide_eq_true h1
      by_cases h2 : x1 = y1
      case neg =>
        have u2 : (x1 == y1) = false := by rw [beq_eq_false_iff_ne]; exact h2
        clear h1 h2 hpp
        refine wp_region_class (w0 := wr) (by kernel_rfl) (by kernel_rfl) (Below.refl _ _) ?_
        repeat (first | go_big_quiet_step (fail))
        refine wpQuiet_nil ?_
        intro w3 hb3; replace hb3 := BW.of hb3
        have HB3 := Lib.hid (HB.out.trans (hb3.mono HB.out.size))
        clear hb3 c1 c2 c3 d1 d2 d3
        go_wp2
        go_roundw
        case rel => exact ⟨k + 1, by omega, by go_num, HB3⟩
        case measure => simp [intOf]; omega
      have u2 : (x1 == y1) = true := by rw [beq_iff_eq]; exact h2
      rcases hpp h1 h2 with h3 | h3
      · -- x3 < y2: then not y2 <= x3
        have u4 : Op.bytesLess (bstr y2).toList (bstr x3).toList = false := by rw [bstr_list, bstr_list]; exact Ent.klt_asymm h3
        have u4' : ((bstr y2).toList == (bstr x3).toList) = false := by rw [bstr_beq]; exact decide_eq_false (fun e => Ent.klt_ne h3 e.symm)
        have u4'' : decide (y2 = x3) = false := decide_eq_false (fun e => Ent.klt_ne h3 e.symm)
        clear h1 h2 h3 hpp
        rcases Ent.klt_total x2 y3 with h5 | h5 | h5
        · have u5 : Op.bytesLess (bstr x2).toList (bstr y3).toList = true := by rw [bstr_list, bstr_list]; exact h5
          clear h5
          refine wp_region_class (w0 := wr) (by kernel_rfl) (by kernel_rfl) (Below.refl _ _) ?_
          repeat (first | go_big_quiet_step (fail))
          refine wpQuiet_nil ?_
          intro w3 hb3; replace hb3 := BW.of hb3
          have HB3 := Lib.hid (HB.out.trans (hb3.mono HB.out.size))
          clear hb3 c1 c2 c3 d1 d2 d3
          go_wp2
          go_roundw
          case rel => exact ⟨k + 1, by omega, by go_num, HB3⟩
          case measure => simp [intOf]; omega
        · have u5 : Op.bytesLess (bstr x2).toList (bstr y3).toList = false := by rw [bstr_list, bstr_list, h5]; exact Ent.klt_irrefl _
          have u5' : ((bstr x2).toList == (bstr y3).toList) = true := by rw [bstr_beq]; exact decide_eq_true h5
          have u5'' : decide (x2 = y3) = true := decide_eq_true h5
          clear h5
          refine wp_region_class (w0 := wr) (by kernel_rfl) (by kernel_rfl) (Below.refl _ _) ?_
          repeat (first | go_big_quiet_step (fail))
          refine wpQuiet_nil ?_
          intro w3 hb3; replace hb3 := BW.of hb3
          have HB3 := Lib.hid (HB.out.trans (hb3.mono HB.out.size))
          clear hb3 c1 c2 c3 d1 d2 d3
          go_wp2
          go_roundw
          case rel => exact ⟨k + 1, by omega, by go_num, HB3⟩
          case measure => simp [intOf]; omega
        · have u5 : Op.bytesLess (bstr x2).toList (bstr y3).toList = false := by rw [bstr_list, bstr_list]; exact Ent.klt_asymm h5
          have u5' : ((bstr x2).toList == (bstr y3).toList) = false := by rw [bstr_beq]; exact decide_eq_false (fun e => Ent.klt_ne h5 e.symm)
          have u5'' : decide (x2 = y3) = false := decide_eq_false (fun e => Ent.klt_ne h5 e.symm)
          clear h5
          refine wp_region_class (w0 := wr) (by kernel_rfl) (by kernel_rfl) (Below.refl _ _) ?_
          repeat (first | go_big_quiet_step (fail))
          refine wpQuiet_nil ?_
          intro w3 hb3; replace hb3 := BW.of hb3
          have HB3 := Lib.hid (HB.out.trans (hb3.mono HB.out.size))
          clear hb3 c1 c2 c3 d1 d2 d3
          go_wp2
          go_roundw
          case rel => exact ⟨k + 1, by omega, by go_num, HB3⟩
          case measure => simp [intOf]; omega
      · -- y3 < x2: then not x2 <= y3
        have u5 : Op.bytesLess (bstr x2).toList (bstr y3).toList = false := by rw [bstr_list, bstr_list]; exact Ent.klt_asymm h3
        have u5' : ((bstr x2).toList == (bstr y3).toList) = false := by rw [bstr_beq]; exact decide_eq_false (fun e => Ent.klt_ne h3 e.symm)
        have u5'' : decide (x2 = y3) = false := decide_eq_false (fun e => Ent.klt_ne h3 e.symm)
        clear h1 h2 h3 hpp
        refine wp_region_class (w0 := wr) (by kernel_rfl) (by kernel_rfl) (Below.refl _ _) ?_
        repeat (first | go_big_quiet_step (fail))
        refine wpQuiet_nil ?_
        intro w3 hb3; replace hb3 := BW.of hb3
        have HB3 := Lib.hid (HB.out.trans (hb3.mono HB.out.size))
        clear hb3 c1 c2 c3 d1 d2 d3
        go_wp2
        go_roundw
        case rel => exact ⟨k + 1, by omega, by go_num, HB3⟩
        case measure => simp [intOf]; omega
end Go.Proofs.Ytlipgaefflecaaa
