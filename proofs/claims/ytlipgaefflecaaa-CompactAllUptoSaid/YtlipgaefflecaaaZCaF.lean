/- The reference's versions: place, dropped, Compare, added. -/
import Derived.Test.YtlipgaefflecaaaZCaE
set_option linter.unusedVariables false
set_option linter.unusedSimpArgs false
set_option maxRecDepth 100000
set_option linter.unusedVariables false
set_option linter.unusedSimpArgs false
namespace Go.Proofs.Ytlipgaefflecaaa
open Go.RowKit

/-- A row of numbers that is read. -/
def Zs (w : World) (a : Option Addr) (n c : Nat) (l : List Int) : Prop := l.length = n ∧ n ≤ c ∧ c ≤ maxLen ∧ Row w a (zv l)
theorem Zs.below {w w' : World} {a : Option Addr} {n c : Nat} {l : List Int} (h : Zs w a n c l) (hb : Below w.heap.size w w') : Zs w' a n c l := ⟨h.1, h.2.1, h.2.2.1, h.2.2.2.below hb⟩
theorem Zs.nil (w : World) : Zs w none 0 0 [] := ⟨rfl, Nat.le_refl _, by simp [maxLen], Row.nil _ _⟩
theorem AccZ.zs {w : World} {B n c : Nat} {a : Option Addr} {l : List Int} (h : AccZ w B a n c l) : Zs w a n c l := by
  have := own_cap h.2
  exact ⟨h.1, this.2.1, this.2.2, Row.of_own h.2⟩
theorem Zs.get {w : World} {a : Option Addr} {n c : Nat} {l : List Int} (h : Zs w a n c l) {i : Nat} (hi : i < n) : ∃ b off, a = some ⟨b, off, none⟩ ∧ w.cell? ⟨b, off + i, none⟩ = some (.int .i64 (nth l i)) :=
  h.2.2.2 i _ (by rw [nth_eq _ (by rw [h.1]; exact hi)]; simp [zv, h.1, hi])
theorem Zs.le {w : World} {a : Option Addr} {n c : Nat} {l : List Int} (h : Zs w a n c l) : n ≤ 9223372036854775807 ∧ c ≤ 9223372036854775807 := by
  have h1 := h.2.1; have h2 := h.2.2.1; simp only [maxLen] at h2; omega
def fileIs (f : Int) (t : Tab) : Bool := t.file == f
theorem place_any (a : Option Addr) (n c : Nat) (l : List Tab) (f : Int) (w : World) (h : Ts w a n c l) :
    Calls Try.prog 26 #[.slice a n c, .int .i64 f] w fun e w' => e = .returned (.int .i64 (idxT (fileIs f) l)) ∧ Below w.heap.size w w' := by
  have HE := Lib.hid h
  have HN := Lib.hid h.1
  have hle := h.le
  clear h
  go_enter Try.func26, Try.ntmps26
  go_wp2_with fail
  go_loopw [5] (fun iv wr => ∃ k : Nat, k ≤ n ∧ iv = .int .i64 k ∧ Hid (Below w.heap.size w wr) ∧ Hid (∀ j, j < k → fileIs f (nth l j) = false)) (fun iv _ => n - (intOf iv).toNat)
  case atStart => exact ⟨0, by omega, rfl, Lib.hid (Below.refl _ _), Lib.hid (fun j hj => by omega)⟩
  case round =>
    obtain ⟨k, hk, rfl, hb, hall⟩ := hrel
    by_cases hlt : k < n
    · have t1 : decide ((k : Int) < (n : Int)) = true := decide_eq_true (by omega)
      have t2 : decide (k < n) = true := decide_eq_true hlt
      obtain ⟨b, off, rfl, hc⟩ := (HE.out.below hb.out).get hlt
      have c0 := hc.file
      have HY : Hid (fileIs f (nth l k) = true → idxT (fileIs f) l = (k : Nat)) := Lib.hid fun h => idxT_at (by rw [HN.out]; exact hlt) h hall.out
      have HNO : Hid (fileIs f (nth l k) = false → ∀ j, j < k + 1 → fileIs f (nth l j) = false) := Lib.hid fun h j hj => by
        by_cases e : j = k
        · rw [e]; exact h
        · exact hall.out j (by omega)
      have hf : fileIs f (nth l k) = ((nth l k).file == f) := rfl
      rw [hf] at HY HNO
      clear hc hf
      generalize (nth l k).file = x at *
      cases hx : (x == f) with
      | true =>
        have HV := Lib.hid (HY.out hx)
        clear HY HNO
        go_wp2
        go_ret
        exact ⟨by rw [HV.out]; rfl, hb.out⟩
      | false =>
        have HV := Lib.hid (HNO.out hx)
        clear HY HNO
        go_wp2
        go_roundw
        case rel => exact ⟨k + 1, by omega, by go_num, hb, HV⟩
        case measure => simp [intOf]; omega
    · obtain rfl : k = n := by omega
      have HV : Hid (idxT (fileIs f) l = -1) := Lib.hid (idxT_no (by rw [HN.out]; exact hall.out))
      go_wp2
      go_ret
      exact ⟨by rw [HV.out]; rfl, hb.out⟩
theorem tv_drop : ∀ (l : List Tab) (k : Nat), (tv l).drop (k * 5) = tv (l.drop k)
  | [], k => by simp [tv]
  | m :: l, 0 => by simp
  | m :: l, k + 1 => by
    have ih := tv_drop l k
    rw [List.drop_succ_cons]
    have e1 : tv (m :: l) = tcells m ++ tv l := rfl
    rw [e1, List.drop_append, List.drop_eq_nil_of_le (by simp [tcells]; omega), List.nil_append, ← ih]
    congr 1
    simp [tcells]
    omega
/-- The back of a row of tables. -/
theorem Ts.sub {w : World} {a : Option Addr} {n c : Nat} {l : List Tab} (h : Ts w a n c l) {k : Nat} (hk : k ≤ n) : Ts w (subAn a c k 5) (n - k) (c - k) (l.drop k) := by
  have h1 := h.1
  have h2 := h.2.1
  have h3 := h.2.2.1
  refine ⟨by rw [List.length_drop]; omega, by omega, by omega, ?_⟩
  unfold subAn
  by_cases e : c = k
  · rw [if_pos e, List.drop_eq_nil_of_le (by omega)]
    exact Row.nil _ _
  · rw [if_neg e, ← tv_drop]
    exact h.2.2.2.drop (k * 5)
theorem acct_lit0 (w : World) : AccT (w.alloc (.cells #[] 39)) w.heap.size (some ⟨w.heap.size, 0, none⟩) 0 0 [] :=
  ⟨rfl, rfl, .inr ⟨w.heap.size, 0, #[], rfl, Nat.le_refl _, heap_alloc_new w _, Nat.le_refl _, by simp [maxLen], rfl, rfl⟩⟩
/-- append of tables, as one operation. -/
theorem step_app_t {w : World} {o : Oper} {A : Act} {K : Act → World → Prop} {Q : Exit → Act → World → Prop} (s x : Operand) (ho : o.op = .call { callee := .builtin .append, args := #[s, x], argTypes := #[29, 29] })
    (B : Nat) {aq : Option Addr} {n c : Nat} {l : List Tab} (hs : A.eval s = .slice aq n c) (hacc : AccT w B aq n c l)
    {ax : Option Addr} {m cx : Nat} {l2 : List Tab} (hx : A.eval x = .slice ax m cx) (hr : Ts w ax m cx l2) (hb : n + m ≤ 1000000000) (hB : B ≤ w.heap.size)
    (h : ∀ a' c' w', AccT w' B a' (n + m) c' (l ++ l2) → Below B w w' → K (A.put o.dst (.slice a' (n + m) c')) w') : o.wp Try.prog A w K Q := by
  obtain ⟨i, hi, h0, h1, h2⟩ := info_parts infoT
  obtain ⟨a', c', w', hr', g1, g2⟩ := run_append_own' (P := Try.prog) w B 29 o.type 39 i (.agg #[.int .i64 0, .int .i64 0, .string ByteArray.empty, .string ByteArray.empty, .int .i64 0]) 5 56 Try.underlying29 hi h0 h1 h2 rfl (by decide) aq n c (tv l) hacc.2 ax m cx (tv l2) (by rw [tv_len, hr.1]) hr.2.2.2 (tv_one l2) (by omega) (by simp only [maxLen]; omega) hB
  unfold Oper.wp execOp
  simp only [ho, resolve, invoke, builtin, Sem.run_bind, Sem.run_pure, Result.andThen_ok, List.map_toArray, List.map_cons, List.map_nil, hs, hx, hr']
  rw [← tv_app] at g1
  exact h a' c' w' ⟨by rw [List.length_append, hacc.1, hr.1], g1⟩ (g2.below hB (fun x hx => by subst hx; exact (World.ownsRow.lt hacc.2 x.block rfl).1))
/-- One file's table is taken out. -/
theorem take_out {l : List Tab} (hn : (l.map Tab.file).Nodup) {k : Nat} (hk : k < l.length) : l.take k ++ l.drop (k + 1) = l.filter (fun t => !fileIs (nth l k).file t) := by
  induction l generalizing k with
  | nil => simp at hk
  | cons u l ih =>
    rw [List.map_cons, List.nodup_cons] at hn
    cases k with
    | zero =>
      have e : nth (u :: l) 0 = u := rfl
      rw [e, List.filter_cons]
      simp only [List.take_zero, List.nil_append, List.drop_succ_cons, List.drop_zero, fileIs, beq_self_eq_true, Bool.not_true, Bool.false_eq_true, if_false]
      symm
      rw [List.filter_eq_self]
      intro x hx
      rw [Bool.not_eq_true', beq_eq_false_iff_ne]
      intro e
      exact hn.1 (List.mem_map.2 ⟨x, hx, e⟩)
    | succ k =>
      have e : nth (u :: l) (k + 1) = nth l k := by simp [nth]
      have hk' : k < l.length := by simpa using hk
      rw [e, List.filter_cons]
      have hne : fileIs (nth l k).file u = false := by
        unfold fileIs
        rw [beq_eq_false_iff_ne]
        intro e2
        refine hn.1 (List.mem_map.2 ⟨nth l k, ?_, e2.symm⟩)
        rw [nth_eq _ hk']; exact List.getElem_mem _
      rw [hne]
      simp only [List.take_succ_cons, List.drop_succ_cons, List.cons_append, Bool.not_false, if_true]
      rw [ih hn.2 hk']
/-- Without some files. -/
def dropF (l : List Tab) (fs : List Int) : List Tab := l.filter fun t => decide (t.file ∉ fs)
theorem dropF_nil (l : List Tab) : dropF l [] = l := by unfold dropF; rw [List.filter_eq_self]; intro x _; simp
theorem dropF_snoc (l : List Tab) (fs : List Int) (f : Int) : dropF l (fs ++ [f]) = (dropF l fs).filter (fun t => !fileIs f t) := by
  unfold dropF
  rw [List.filter_filter]
  apply List.filter_congr
  intro t _
  unfold fileIs
  by_cases h1 : t.file ∈ fs <;> by_cases h2 : t.file = f <;> simp [h1, h2]
theorem take_snocZ {l : List Int} {i : Nat} (h : i < l.length) : l.take (i + 1) = l.take i ++ [nth l i] := by
  rw [List.take_add_one, List.getElem?_eq_getElem h, nth_eq _ h]
  rfl
set_option maxHeartbeats 4000000 in
theorem dropped_any (a : Option Addr) (n c : Nat) (l : List Tab) (af : Option Addr) (nf cf : Nat) (fs : List Int) (w : World) (h : Ts w a n c l) (hf : Zs w af nf cf fs) (hn : n ≤ 1000000) (hnd : (l.map Tab.file).Nodup) (hfn : fs.Nodup) (hin : ∀ f ∈ fs, f ∈ l.map Tab.file) :
    Calls Try.prog 25 #[.slice a n c, .slice af nf cf] w fun e w' => ∃ a' n' c', e = .returned (.tuple #[.slice a' n' c', .bool true]) ∧ AccT w' w.heap.size a' n' c' (dropF l fs) ∧ Below w.heap.size w w' := by
  have HE : Hid (∀ W, Below w.heap.size w W → Ts W a n c l) := Lib.hid fun W k => h.below k
  have HF : Hid (∀ W, Below w.heap.size w W → Zs W af nf cf fs) := Lib.hid fun W k => hf.below k
  have HN := Lib.hid h.1
  have HFN := Lib.hid hf.1
  have hle := h.le
  have hlef := hf.le
  have HND : Hid (∀ i, ((dropF l (fs.take i)).map Tab.file).Nodup) := Lib.hid fun i => hnd.sublist ((List.filter_sublist).map _)
  have HLN : Hid (∀ i, (dropF l (fs.take i)).length ≤ n) := Lib.hid fun i => by
    unfold dropF
    have h1 := List.length_filter_le (fun t : Tab => decide (t.file ∉ fs.take i)) l
    rw [h.1] at h1
    exact h1
  have HFI : Hid (∀ i, i < nf → ∃ k : Nat, idxT (fileIs (nth fs i)) (dropF l (fs.take i)) = k ∧ k < (dropF l (fs.take i)).length ∧ (nth (dropF l (fs.take i)) k).file = nth fs i) := Lib.hid fun i hi => by
    rcases idxT_cases (fileIs (nth fs i)) (dropF l (fs.take i)) with ⟨_, h2⟩ | ⟨k, h1, h2, h3, _⟩
    · exfalso
      have hi' : i < fs.length := by rw [hf.1]; exact hi
      have hmem : nth fs i ∈ fs := by rw [nth_eq _ hi']; exact List.getElem_mem _
      obtain ⟨t, ht, e⟩ := List.mem_map.1 (hin _ hmem)
      have htd : t ∈ dropF l (fs.take i) := by
        unfold dropF
        rw [List.mem_filter, decide_eq_true_eq]
        refine ⟨ht, fun hc => ?_⟩
        rw [e, nth_eq _ hi'] at hc
        obtain ⟨j, hj, ej⟩ := List.mem_iff_getElem.1 hc
        rw [List.getElem_take] at ej
        rw [List.length_take] at hj
        have := (List.getElem_inj hfn).1 ej
        omega
      obtain ⟨q, hq, rfl⟩ := List.mem_iff_getElem.1 htd
      have h3 := h2 q hq
      rw [nth_eq _ hq] at h3
      unfold fileIs at h3
      rw [e, beq_self_eq_true] at h3
      cases h3
    · exact ⟨k, h1, h2, by unfold fileIs at h3; exact beq_iff_eq.1 h3⟩
  have HD0 : Hid (dropF l (fs.take 0) = l) := Lib.hid (by rw [List.take_zero, dropF_nil])
  have HDN : Hid (dropF l (fs.take nf) = dropF l fs) := Lib.hid (by rw [← hf.1, List.take_length])
  have HDS : Hid (∀ i, i < nf → ∀ k, k < (dropF l (fs.take i)).length → (nth (dropF l (fs.take i)) k).file = nth fs i → (dropF l (fs.take i)).take k ++ (dropF l (fs.take i)).drop (k + 1) = dropF l (fs.take (i + 1))) := Lib.hid fun i hi k hk he => by
    rw [take_out (HND.out i) hk, he, take_snocZ (by rw [hf.1]; exact hi), dropF_snoc]
  clear h hf hnd hfn hin
  go_enter Try.func25, Try.ntmps25
  have HB0 := Lib.hid (below_alloc1 w (.cells #[] 39))
  have HA0 := Lib.hid (acct_lit0 w)
  go_wp2_with (at_builtin; refine app_tabs rfl _ _ rfl w.heap.size rfl HA0.out rfl (HE.out _ HB0.out) (by omega) HB0.out.size ?_; intro a1 c1 w1 h1 hb1 _; rw [Nat.zero_add, List.nil_append] at h1; rw [Nat.zero_add]; have HA1 := Lib.hid h1; have HB1 := Lib.hid (HB0.out.trans hb1); clear h1 hb1)
  go_loopw [6, 7] (fun ov iv wr => ∃ (i n' : Nat) (a' : Option Addr) (c' : Nat), i ≤ nf ∧ n' ≤ n ∧ ov = .slice a' n' c' ∧ iv = .int .i64 i ∧ Hid (AccT wr w.heap.size a' n' c' (dropF l (fs.take i))) ∧ Hid (Below w.heap.size w wr)) (fun _ iv _ => nf - (intOf iv).toNat)
  case atStart => exact ⟨0, n, a1, c1, by omega, by omega, rfl, rfl, by rw [HD0.out]; exact HA1, HB1⟩
  case round =>
    clear HA1 HB1
    obtain ⟨i, n', a', c', hi, hn', rfl, rfl, HA, HB⟩ := hrel
    by_cases hlt : i < nf
    · have t1 : decide ((i : Int) < (nf : Int)) = true := decide_eq_true (by omega)
      have t2 : decide (i < nf) = true := decide_eq_true hlt
      obtain ⟨bf, of, rfl, hcf⟩ := (HF.out wr HB.out).get hlt
      obtain ⟨k, hk1, hk2, hk3⟩ := HFI.out i hlt
      have hkn : k < n' := by rw [← HA.out.1]; exact hk2
      have HX := Lib.hid (HDS.out i hlt k hk2 hk3)
      have hpl := place_any a' n' c' (dropF l (fs.take i)) (nth fs i) wr HA.out.ts
      rw [hk1] at hpl
      have HPL := Lib.hid hpl
      clear hpl hk1 hk2 hk3
      generalize dropF l (fs.take i) = L at *
      generalize nth fs i = f at *
      generalize hX : L.take k ++ L.drop (k + 1) = X at *
      have hXe := Lib.hid hX
      clear hX
      go_wp2_with fail
      refine HPL.out.mono ?_
      rintro e w2 ⟨rfl, hb2⟩
      have HB2 := Lib.hid (HB.out.trans (hb2.mono HB.out.size))
      have HA2 := Lib.hid (HA.out.below hb2)
      have t3 : decide ((k : Int) < 0) = false := decide_eq_false (by omega)
      obtain ⟨i0, hi0, hz0, hz1, hz2⟩ := info_parts infoT
      have hcap := HA2.out.ts.2.1
      have hlc := HA2.out.ts.le
      have s1 : ∀ W, (Instr.slice 29 (.slice a' n' c') none (some (.int .i64 (k : Int))) none).run Try.prog W = .ok (.slice a' k c') W := fun W => run_slice_h Try.underlying29 hi0 hz1 _ n' c' rfl (by omega) W
      obtain ⟨ab, hab⟩ : ∃ ab, ab = subAn a' c' (k + 1) 5 := ⟨_, rfl⟩
      obtain ⟨nb, hnb⟩ : ∃ nb, nb = n' - (k + 1) := ⟨_, rfl⟩
      obtain ⟨cb, hcb⟩ : ∃ cb, cb = c' - (k + 1) := ⟨_, rfl⟩
      have hk1 : (k : Int) + 1 = ((k + 1 : Nat) : Int) := by omega
      have s2 : ∀ W, (Instr.slice 29 (.slice a' n' c') (some (.int .i64 ((k : Int) + 1))) none none).run Try.prog W = .ok (.slice ab nb cb) W := fun W => by
        rw [hab, hnb, hcb]
        exact run_slice_l Try.underlying29 hi0 hz1 _ n' c' hk1 (by omega) W
      have hw1 : IntKind.i64.wrap ((k : Int) + 1) = (k : Int) + 1 := by rw [IntKind.wrap_i64]; omega
      have HS1 : Hid (∀ W, Below w2.heap.size w2 W → Ts W a' k c' (L.take k)) := Lib.hid fun W kb => (HA2.out.ts.below kb).front (by omega)
      have HS2 : Hid (∀ W, Below w2.heap.size w2 W → Ts W ab nb cb (L.drop (k + 1))) := Lib.hid fun W kb => by rw [hab, hnb, hcb]; exact (HA2.out.ts.below kb).sub (by omega)
      have hnbb : k + nb ≤ n := by omega
      clear hb2 hcf hi0 hz0 hz1 hz2 hab hcb HA HPL hnb hk1
      go_upto_region 8 with fail
      clear t1 t2 t3
      refine wp_region_steps [10] 10 10 (by kernel_rfl) (by kernel_rfl) rfl (fun W' => ∃ V : BW w2, W' = V.w) ?_
      have HBD : Hid (Below w2.heap.size w2 w2.drew) := Lib.hid (Below.refl _ _).drew
      generalize w2.drew = wD at *
      refine anyT_pull [1, 2, 3, 5, 6, 7, 8] 10 3 (by intro c a d v w h; cases d <;> exact h) (by kernel_rfl) ⟨⟨_, HBD.out⟩, rfl⟩ ?_
      simp only [opsAt, List.filterMap_cons, List.filterMap_nil, List.getElem?_cons_zero, List.getElem?_cons_succ]
      iterate 7
        apply held_step
        · kernel_rfl
        · rintro _ ⟨V, rfl⟩
          go_simp
          rfl
      refine held_nil ?_
      apply anyT_one 0
      · rfl
      · kernel_rfl
      · kernel_rfl
      intro K' hK
      go_simp
      have HBE := Lib.hid (HBD.out.trans ((below_alloc1 wD (.cells #[] 39)).mono HBD.out.size))
      have HAE := Lib.hid ((acct_lit0 wD).mono HBD.out.size)
      refine hK _ _ ⟨⟨_, HBE.out⟩, rfl⟩ ?_
      clear hK
      generalize wD.alloc (.cells #[] 39) = wE at *
      generalize wD.heap.size = gE at *
      apply anyT_one 4
      · rfl
      · kernel_rfl
      · kernel_rfl
      intro K' hK
      refine step_app_t _ _ rfl w2.heap.size rfl HAE.out rfl (HS1.out wE HBE.out) (by omega) HBE.out.size ?_
      intro a6 c6 wG h6 hb6
      rw [Nat.zero_add, List.nil_append] at h6
      rw [Nat.zero_add]
      have HBG := Lib.hid (HBE.out.trans hb6)
      have HAG := Lib.hid h6
      refine hK _ _ ⟨⟨_, HBG.out⟩, rfl⟩ ?_
      clear hK h6 hb6
      apply anyT_one 9
      · rfl
      · kernel_rfl
      · kernel_rfl
      intro K' hK
      refine step_app_t _ _ rfl w2.heap.size rfl HAG.out rfl (HS2.out wG HBG.out) (by omega) HBG.out.size ?_
      intro a7 c7 wH h7 hb7
      rw [hXe.out] at h7
      have HBH := Lib.hid (HBG.out.trans hb7)
      have HAH := Lib.hid h7
      refine hK _ _ ⟨⟨_, HBH.out⟩, rfl⟩ ?_
      clear hK h7 hb7
      refine anyT_done (by kernel_rfl) ?_
      simp only [opsAt, List.filterMap_cons, List.filterMap_nil, List.getElem?_cons_zero, List.getElem?_cons_succ]
      have HBX := Lib.hid (HB2.out.trans (HBH.out.mono HB2.out.size))
      rw [HX.out] at HAH
      go_wp2
      go_roundw
      case rel => exact ⟨i + 1, k + nb, a7, c7, by omega, by omega, rfl, by go_num, Lib.hid (HAH.out.mono HB2.out.size), HBX⟩
      case measure => simp [intOf]; omega
    · obtain rfl : i = nf := by omega
      rw [HDN.out] at HA
      go_wp2
      go_ret2
      exact ⟨a', n', c', rfl, HA.out, HB.out⟩
end Go.Proofs.Ytlipgaefflecaaa
