/- Cold stripes: the reference's Point. -/
import Derived.Test.YtfgifndpglgjkaaGreatDoorZCdV
import Derived.Test.YtfgifndpglgjkaaGreatDoorZQRsX
set_option linter.unusedVariables false
set_option linter.unusedSimpArgs false
set_option maxRecDepth 100000
set_option linter.unusedVariables false
set_option linter.unusedSimpArgs false
namespace Go.Proofs.YtfgifndpglgjkaaGreatDoor
open Go.RowKit

/-- append of a row of numbers, as one operation. -/
theorem step_app_is {w : World} {o : Oper} {A : Act} {K : Act → World → Prop} {Q : Exit → Act → World → Prop} (s x : Operand) (ho : o.op = .call { callee := .builtin .append, args := #[s, x], argTypes := #[26, 26] })
    (B : Nat) {aq : Option Addr} {n c : Nat} {l : List Int} (hs : A.eval s = .slice aq n c) (hacc : AccI w B aq n c l)
    {ax : Option Addr} {m cx : Nat} {p : List Int} (hx : A.eval x = .slice ax m cx) (hr : Is w ax m cx p) (hb : n + m ≤ 1000000000) (hB : B ≤ w.heap.size)
    (h : ∀ a' c' w', AccI w' B a' (n + m) c' (l ++ p) → Below B w w' → Evol w aq w' a' → K (A.put o.dst (.slice a' (n + m) c')) w') : o.wp Tryz.prog A w K Q := by
  obtain ⟨i, hi, h0, h1, h2⟩ := info_parts infoI
  obtain ⟨a', c', w', hr', g1, g2⟩ := run_append_own' (P := Tryz.prog) w B 26 o.type 3 i (.int .i64 0) 1 8 Tryz.underlying26 hi h0 h1 h2 rfl (by decide) aq n c (zv l) hacc.2.1 ax m cx (zv p) (by simp [zv, hr.1]) hr.2.2.2.1 (zv_one p) (by omega) (by simp only [maxLen]; omega) hB
  unfold Oper.wp execOp
  simp only [ho, resolve, invoke, builtin, Sem.run_bind, Sem.run_pure, Result.andThen_ok, List.map_toArray, List.map_cons, List.map_nil, hs, hx, hr']
  refine h a' c' w' ⟨by simp [hacc.1, hr.1], ?_, ?_⟩ (g2.below hB (fun x hx => by subst hx; exact (World.ownsRow.lt hacc.2.1 x.block rfl).1)) g2
  · have e : zv l ++ zv p = zv (l ++ p) := by simp [zv]
    rw [← e]; exact g1
  · intro y hy
    rcases List.mem_append.1 hy with h' | h'
    · exact hacc.2.2 y h'
    · exact hr.2.2.2.2 y h'
theorem acci_lit0 (w : World) : AccI (w.alloc (.cells #[] 3)) w.heap.size (some ⟨w.heap.size, 0, none⟩) 0 0 [] :=
  ⟨rfl, ⟨rfl, .inr ⟨w.heap.size, 0, #[], rfl, Nat.le_refl _, heap_alloc_new w _, Nat.le_refl _, by simp [maxLen], rfl, rfl⟩⟩, fun z hz => by cases hz⟩
set_option maxHeartbeats 8000000 in
theorem rpoint_no (bk key : List UInt8) (v : Nat) (size k m : Int) (ad : Option Addr) (nd cd : Nat) (d : List UInt8) (an : Option Addr) (nn cn : Nat) (l : List Int) (w : World) (hd : Bs w ad nd cd d) (hl : Is w an nn cn l) (hnd : nd ≤ 100000000) (hnn : nn ≤ 1000000) (hk : I64 k) (hm : I64 m) (h : ¬ Cd.pok k m nn nd size l) :
    Calls Tryz.prog 9 #[Cd.hv bk key v size, .slice ad nd cd, .int .i64 k, .int .i64 m, .slice an nn cn] w fun e w' => e = .returned (.tuple #[Cd.pv Cd.zero none 0 0, .int .i64 1]) ∧ Below w.heap.size w w' := by
  have hle := hd.le.1
  have hb0 := two_boxC w (.cells #[.string (bstr bk), .string (bstr key), .int .u64 v, .int .i64 size] 24) (.cells Cd.zeroC 31)
  have hg0 : ((w.alloc (.cells #[.string (bstr bk), .string (bstr key), .int .u64 v, .int .i64 size] 24)).alloc (.cells Cd.zeroC 31)).heap[w.heap.size]? = some (.cells #[.string (bstr bk), .string (bstr key), .int .u64 v, .int .i64 size] 24 (0, 0)) :=
    (Below.heap_alloc _ _ _ (by simp)).trans (heap_alloc_new w _)
  have hg1 : ((w.alloc (.cells #[.string (bstr bk), .string (bstr key), .int .u64 v, .int .i64 size] 24)).alloc (.cells Cd.zeroC 31)).heap[w.heap.size + 1]? = some (.cells Cd.zeroC 31 (0, 0)) := by
    have := heap_alloc_new (w.alloc (.cells #[.string (bstr bk), .string (bstr key), .int .u64 v, .int .i64 size] 24)) (.cells Cd.zeroC 31)
    rwa [World.size_alloc] at this
  have hsz : ((w.alloc (.cells #[.string (bstr bk), .string (bstr key), .int .u64 v, .int .i64 size] 24)).alloc (.cells Cd.zeroC 31)).heap.size = w.heap.size + 2 := by simp
  unfold Cd.zeroC at hb0 hg0 hg1 hsz
  have HL : Hid (∀ W, Below w.heap.size w W → Is W an nn cn l) := Lib.hid fun W k => hl.below k
  have HLL := Lib.hid hl.1
  have HH := Lib.hid h
  obtain ⟨hk1, hk2⟩ := hk
  obtain ⟨hm1, hm2⟩ := hm
  clear hd hl h
  unfold Cd.hv
  go_enter Tryz.func9, Tryz.ntmps9
  go_upto_region 1 with fail
  generalize (w.alloc (.cells #[.string (bstr bk), .string (bstr key), .int .u64 v, .int .i64 size] 24)).alloc (.cells #[.string ⟨#[]⟩, .string ⟨#[]⟩, .int .u64 0, .int .u64 0, .int .i64 0, .int .i64 0, .int .i64 0, .int .u32 0, .slice none 0 0] 31) = w1 at *
  have HB1 := Lib.hid hb0
  have HG0 := Lib.hid hg0
  have HG1 := Lib.hid hg1
  have HS1 := Lib.hid hsz
  clear hb0 hg0 hg1 hsz
  by_cases hfit : Rs.fit k m
  case neg =>
    go_wp2_with fail
    refine (refnew_err k m w1 hfit ⟨hk1, hk2⟩ ⟨hm1, hm2⟩).mono ?_
    rintro e w2 ⟨rfl, rfl⟩
    obtain ⟨k0, k1, k2, k3, k4, k5, k6, k7, k8, kf⟩ := cells9 HG1.out
    go_wp2
    obtain ⟨hs, hbb, hkk⟩ := set9 (.string ⟨#[]⟩) (.string ⟨#[]⟩) (.int .u64 0) (.int .u64 0) (.int .i64 0) (.int .i64 0) (.int .i64 0) (.int .u32 0) (.slice none 0 0) HG1.out (Nat.le_succ w.heap.size)
    have hb9 := HB1.out.trans (hbb HB1.out.size)
    clear hkk
    generalize World.setCell _ _ _ = W9 at *
    obtain ⟨q0, q1, q2, q3, q4, q5, q6, q7, q8, _⟩ := cells9 hs
    exact bodyPost_ret (v := .tuple #[Cd.pv Cd.zero none 0 0, .int .i64 1]) (by simp [results, Tryz.results9, go_sem, zero_pv, q0, q1, q2, q3, q4, q5, q6, q7, q8]) rfl ⟨rfl, hb9⟩
  have hfit2 := hfit
  unfold Rs.fit at hfit2
  obtain ⟨K, rfl⟩ : ∃ K : Nat, k = (K : Int) := ⟨k.toNat, by omega⟩
  obtain ⟨M, rfl⟩ : ∃ M : Nat, m = (M : Int) := ⟨m.toNat, by omega⟩
  have h1 : 1 ≤ K := by omega
  have h2 : K + M ≤ 255 := by omega
  go_wp2_with fail
  refine (refnew_any K M w1 h1 h2).mono ?_
  rintro e w2 ⟨⟨bc, rfl, _⟩, hb2⟩
  have HB2 := Lib.hid (HB1.out.trans (hb2.mono HB1.out.size))
  have HG02 := Lib.hid ((hb2.block _ (by rw [HS1.out]; omega)).trans HG0.out)
  have HG12 := Lib.hid ((hb2.block _ (by rw [HS1.out]; omega)).trans HG1.out)
  have HZ2 : Hid (w.heap.size + 2 ≤ w2.heap.size) := Lib.hid (by have := hb2.size; rw [HS1.out] at this; exact this)
  clear hb2
  clear hk1 hk2 hm1 hm2 hfit2
  by_cases hn : (nn : Int) = (K : Int) + (M : Int)
  case neg =>
    have t1 : ((nn : Int) != (K : Int) + (M : Int)) = true := by rw [bne_iff_ne]; exact hn
    obtain ⟨k0, k1, k2, k3, k4, k5, k6, k7, k8, kf⟩ := cells9 HG12.out
    go_wp2
    obtain ⟨hs, hbb, hkk⟩ := set9 (.string ⟨#[]⟩) (.string ⟨#[]⟩) (.int .u64 0) (.int .u64 0) (.int .i64 0) (.int .i64 0) (.int .i64 0) (.int .u32 0) (.slice none 0 0) HG12.out (Nat.le_succ w.heap.size)
    have hb9 := HB2.out.trans (hbb HB2.out.size)
    clear hkk
    generalize World.setCell _ _ _ = W9 at *
    obtain ⟨q0, q1, q2, q3, q4, q5, q6, q7, q8, _⟩ := cells9 hs
    exact bodyPost_ret (v := .tuple #[Cd.pv Cd.zero none 0 0, .int .i64 1]) (by simp [results, Tryz.results9, go_sem, zero_pv, q0, q1, q2, q3, q4, q5, q6, q7, q8]) rfl ⟨rfl, hb9⟩
  have t1 : ((nn : Int) != (K : Int) + (M : Int)) = false := by rw [bne_eq_false_iff_eq]; exact hn
  have HNK := Lib.hid hn
  clear hn
  go_upto_region 5 with fail
  clear t1
  go_loopw [14] (fun iv wr => ∃ j : Nat, j ≤ nn ∧ iv = .int .i64 j ∧ wr = w2 ∧ Hid (∀ i, i < j → Cd.node (nth l i) = true)) (fun iv _ => nn - (intOf iv).toNat)
  case atStart => exact ⟨0, by omega, rfl, rfl, Lib.hid (fun i hi => by omega)⟩
  case round =>
  obtain ⟨j, hj, rfl, hwr, hall⟩ := hrel
  obtain rfl := hwr.symm
  by_cases hlt : j < nn
  · have s1 : decide ((j : Int) < (nn : Int)) = true := decide_eq_true (by omega)
    have s2 : decide (j < nn) = true := decide_eq_true hlt
    obtain ⟨bn, on, rfl, hcn⟩ := (HL.out _ HB2.out).get hlt
    have HAL : Hid (Cd.node (nth l j) = true → ∀ i, i < j + 1 → Cd.node (nth l i) = true) := Lib.hid fun g i hi => by
      by_cases e : i = j
      · rw [e]; exact g
      · exact hall.out i (by omega)
    clear hall
    generalize nth l j = z at *
    by_cases z0 : z < 0
    · have u1 : decide (z < 0) = true := decide_eq_true z0
      obtain ⟨k0, k1, k2, k3, k4, k5, k6, k7, k8, kf⟩ := cells9 HG12.out
      go_wp2
      obtain ⟨hs, hbb, hkk⟩ := set9 (.string ⟨#[]⟩) (.string ⟨#[]⟩) (.int .u64 0) (.int .u64 0) (.int .i64 0) (.int .i64 0) (.int .i64 0) (.int .u32 0) (.slice none 0 0) HG12.out (Nat.le_succ w.heap.size)
      have hb9 := HB2.out.trans (hbb HB2.out.size)
      clear hkk
      generalize World.setCell _ _ _ = W9 at *
      obtain ⟨q0, q1, q2, q3, q4, q5, q6, q7, q8, _⟩ := cells9 hs
      exact bodyPost_ret (v := .tuple #[Cd.pv Cd.zero none 0 0, .int .i64 1]) (by simp [results, Tryz.results9, go_sem, zero_pv, q0, q1, q2, q3, q4, q5, q6, q7, q8]) rfl ⟨rfl, hb9⟩
    have u1 : decide (z < 0) = false := decide_eq_false z0
    by_cases z1 : 16 ≤ z
    · have u2 : decide ((16 : Int) ≤ z) = true := decide_eq_true z1
      obtain ⟨k0, k1, k2, k3, k4, k5, k6, k7, k8, kf⟩ := cells9 HG12.out
      go_wp2
      obtain ⟨hs, hbb, hkk⟩ := set9 (.string ⟨#[]⟩) (.string ⟨#[]⟩) (.int .u64 0) (.int .u64 0) (.int .i64 0) (.int .i64 0) (.int .i64 0) (.int .u32 0) (.slice none 0 0) HG12.out (Nat.le_succ w.heap.size)
      have hb9 := HB2.out.trans (hbb HB2.out.size)
      clear hkk
      generalize World.setCell _ _ _ = W9 at *
      obtain ⟨q0, q1, q2, q3, q4, q5, q6, q7, q8, _⟩ := cells9 hs
      exact bodyPost_ret (v := .tuple #[Cd.pv Cd.zero none 0 0, .int .i64 1]) (by simp [results, Tryz.results9, go_sem, zero_pv, q0, q1, q2, q3, q4, q5, q6, q7, q8]) rfl ⟨rfl, hb9⟩
    have u2 : decide ((16 : Int) ≤ z) = false := decide_eq_false z1
    have HA := Lib.hid (HAL.out (by unfold Cd.node; rw [decide_eq_true (show 0 ≤ z by omega), decide_eq_true (show z < 16 by omega)]; rfl))
    clear HAL z0 z1
    go_wp2
    go_roundw
    case rel => exact ⟨j + 1, by omega, by go_num, by first | rfl | trivial, HA⟩
    case measure => simp [intOf]; omega
  · obtain rfl : j = nn := by omega
    have hal : l.all Cd.node = true := by
      rw [List.all_eq_true]
      intro x hx
      obtain ⟨q, hq, rfl⟩ := List.mem_iff_getElem.1 hx
      have := hall.out q (by rw [← HLL.out]; exact hq)
      rwa [nth_eq _ hq] at this
    have hsz : ¬ (nd : Int) = size := fun e => HH.out ⟨hfit, HNK.out, hal, e⟩
    have t2 : ((nd : Int) != size) = true := by rw [bne_iff_ne]; exact hsz
    have d3 : w2.cell? ⟨w.heap.size, 3, none⟩ = some (.int .i64 size) := (cell_of_row _ _ 3 _ _ _ HG02.out).trans rfl
    clear hsz hal
    obtain ⟨k0, k1, k2, k3, k4, k5, k6, k7, k8, kf⟩ := cells9 HG12.out
    go_wp2
    obtain ⟨hs, hbb, hkk⟩ := set9 (.string ⟨#[]⟩) (.string ⟨#[]⟩) (.int .u64 0) (.int .u64 0) (.int .i64 0) (.int .i64 0) (.int .i64 0) (.int .u32 0) (.slice none 0 0) HG12.out (Nat.le_succ w.heap.size)
    have hb9 := HB2.out.trans (hbb HB2.out.size)
    clear hkk
    generalize World.setCell _ _ _ = W9 at *
    obtain ⟨q0, q1, q2, q3, q4, q5, q6, q7, q8, _⟩ := cells9 hs
    exact bodyPost_ret (v := .tuple #[Cd.pv Cd.zero none 0 0, .int .i64 1]) (by simp [results, Tryz.results9, go_sem, zero_pv, q0, q1, q2, q3, q4, q5, q6, q7, q8]) rfl ⟨rfl, hb9⟩
set_option maxHeartbeats 8000000 in
theorem rpoint_yes (bk key : List UInt8) (v K M : Nat) (ad : Option Addr) (nd cd : Nat) (d : List UInt8) (an : Option Addr) (nn cn : Nat) (l : List Int) (w : World) (hd : Bs w ad nd cd d) (hl : Is w an nn cn l) (hnd : nd ≤ 100000000) (h1 : 1 ≤ K) (h2 : K + M ≤ 255) (hnn : nn = K + M) (hall : l.all Cd.node = true) :
    Calls Tryz.prog 9 #[Cd.hv bk key v nd, .slice ad nd cd, .int .i64 K, .int .i64 M, .slice an nn cn] w (RetPt w (Cd.mk bk key v K M nd d l) nn 0) := by
  have hle := hd.le.1
  have hb0 := two_boxC w (.cells #[.string (bstr bk), .string (bstr key), .int .u64 v, .int .i64 nd] 24) (.cells Cd.zeroC 31)
  have hg0 : ((w.alloc (.cells #[.string (bstr bk), .string (bstr key), .int .u64 v, .int .i64 nd] 24)).alloc (.cells Cd.zeroC 31)).heap[w.heap.size]? = some (.cells #[.string (bstr bk), .string (bstr key), .int .u64 v, .int .i64 nd] 24 (0, 0)) :=
    (Below.heap_alloc _ _ _ (by simp)).trans (heap_alloc_new w _)
  have hg1 : ((w.alloc (.cells #[.string (bstr bk), .string (bstr key), .int .u64 v, .int .i64 nd] 24)).alloc (.cells Cd.zeroC 31)).heap[w.heap.size + 1]? = some (.cells Cd.zeroC 31 (0, 0)) := by
    have := heap_alloc_new (w.alloc (.cells #[.string (bstr bk), .string (bstr key), .int .u64 v, .int .i64 nd] 24)) (.cells Cd.zeroC 31)
    rwa [World.size_alloc] at this
  have hsz : ((w.alloc (.cells #[.string (bstr bk), .string (bstr key), .int .u64 v, .int .i64 nd] 24)).alloc (.cells Cd.zeroC 31)).heap.size = w.heap.size + 2 := by simp
  unfold Cd.zeroC at hb0 hg0 hg1 hsz
  have t1 : ((nn : Int) != (K : Int) + (M : Int)) = false := by rw [bne_eq_false_iff_eq]; omega
  have hnb : nn ≤ 255 := by omega
  have HL : Hid (∀ W, Below w.heap.size w W → Is W an nn cn l) := Lib.hid fun W k => hl.below k
  have HD : Hid (∀ W, Below w.heap.size w W → Bs W ad nd cd d) := Lib.hid fun W k => hd.below k
  have HLL := Lib.hid hl.1
  have HAL := Lib.hid hall
  clear hd hl hnn hall
  unfold Cd.hv
  go_enter Tryz.func9, Tryz.ntmps9
  go_upto_region 1 with fail
  generalize (w.alloc (.cells #[.string (bstr bk), .string (bstr key), .int .u64 v, .int .i64 nd] 24)).alloc (.cells #[.string ⟨#[]⟩, .string ⟨#[]⟩, .int .u64 0, .int .u64 0, .int .i64 0, .int .i64 0, .int .i64 0, .int .u32 0, .slice none 0 0] 31) = w1 at *
  have HB1 := Lib.hid hb0
  have HG0 := Lib.hid hg0
  have HG1 := Lib.hid hg1
  have HS1 := Lib.hid hsz
  clear hb0 hg0 hg1 hsz
  go_wp2_with fail
  refine (refnew_any K M w1 h1 h2).mono ?_
  rintro e w2 ⟨⟨bc, rfl, _⟩, hb2⟩
  have HB2 := Lib.hid (HB1.out.trans (hb2.mono HB1.out.size))
  have HG02 := Lib.hid ((hb2.block _ (by rw [HS1.out]; omega)).trans HG0.out)
  have HG12 := Lib.hid ((hb2.block _ (by rw [HS1.out]; omega)).trans HG1.out)
  have HZ2 : Hid (w.heap.size + 2 ≤ w2.heap.size) := Lib.hid (by have := hb2.size; rw [HS1.out] at this; exact this)
  clear hb2
  go_upto_region 5 with fail
  clear t1
  go_loopw [14] (fun iv wr => ∃ j : Nat, j ≤ nn ∧ iv = .int .i64 j ∧ wr = w2) (fun iv _ => nn - (intOf iv).toNat)
  case atStart => exact ⟨0, by omega, rfl, rfl⟩
  case round =>
  obtain ⟨j, hj, rfl, hwr⟩ := hrel
  obtain rfl := hwr.symm
  by_cases hlt : j < nn
  · have s1 : decide ((j : Int) < (nn : Int)) = true := decide_eq_true (by omega)
    have s2 : decide (j < nn) = true := decide_eq_true hlt
    obtain ⟨bn, on, rfl, hcn⟩ := (HL.out _ HB2.out).get hlt
    have hz := List.all_eq_true.1 HAL.out (nth l j) (by rw [nth_eq _ (by rw [HLL.out]; exact hlt)]; exact List.getElem_mem _)
    unfold Cd.node at hz
    simp only [Bool.and_eq_true, decide_eq_true_eq] at hz
    generalize nth l j = z at *
    have u1 : decide (z < 0) = false := decide_eq_false (by omega)
    have u2 : decide ((16 : Int) ≤ z) = false := decide_eq_false (by omega)
    clear hz
    go_wp2
    go_roundw
    case rel => exact ⟨j + 1, by omega, by go_num, by first | rfl | trivial⟩
    case measure => simp [intOf]; omega
  obtain rfl : j = nn := by omega
  have s1 : decide ((j : Int) < (j : Int)) = false := decide_eq_false (by omega)
  have s2 : decide (j < j) = false := decide_eq_false (by omega)
  generalize hjn : j = nn at *
  clear hjn hlt hj
  have t2 : decide ((268435456 : Int) < (nd : Int)) = false := decide_eq_false (by omega)
  have t3 : ((nd : Int) != (nd : Int)) = false := by simp
  obtain ⟨d0, d1, d2, d3⟩ : w2.cell? ⟨w.heap.size, 0, none⟩ = some (.string (bstr bk)) ∧ w2.cell? ⟨w.heap.size, 1, none⟩ = some (.string (bstr key)) ∧ w2.cell? ⟨w.heap.size, 2, none⟩ = some (.int .u64 v) ∧ w2.cell? ⟨w.heap.size, 3, none⟩ = some (.int .i64 nd) :=
    ⟨(cell_of_row _ _ 0 _ _ _ HG02.out).trans rfl, (cell_of_row _ _ 1 _ _ _ HG02.out).trans rfl, (cell_of_row _ _ 2 _ _ _ HG02.out).trans rfl, (cell_of_row _ _ 3 _ _ _ HG02.out).trans rfl⟩
  go_upto_region 11 with fail
  clear s1 s2 t2 t3
  have p0 := BW.cell d0
  have p1 := BW.cell d1
  have p2 := BW.cell d2
  have p3 := BW.cell d3
  refine wp_region_steps [18, 19] 18 18 (by kernel_rfl) (by kernel_rfl) rfl (fun W' => ∃ V : BW w2, W' = V.w) ?_
  have HBD : Hid (Below w2.heap.size w2 w2.drew) := Lib.hid (Below.refl _ _).drew
  generalize w2.drew = wE at *
  refine anyT_pull [0, 1, 2, 3, 4, 5, 6, 7, 8, 9, 10, 11, 12, 15] 18 4 (by intro c a d v w h; cases d <;> exact h) (by kernel_rfl) ⟨⟨_, HBD.out⟩, rfl⟩ ?_
  simp only [opsAt, List.filterMap_cons, List.filterMap_nil, List.getElem?_cons_zero, List.getElem?_cons_succ]
  iterate 14
    apply held_step
    · kernel_rfl
    · rintro _ ⟨V, rfl⟩
      have q0 := p0 V
      have q1 := p1 V
      have q2 := p2 V
      have q3 := p3 V
      go_simp
      rfl
  refine held_nil ?_
  apply anyT_two 13 14
  · rfl
  · rfl
  · kernel_rfl
  · kernel_rfl
  · kernel_rfl
  · intro K' hK
    go_simp
    refine (refsum_any ad nd cd d wE (HD.out wE (HB2.out.trans (HBD.out.mono HB2.out.size)))).mono ?_
    rintro e wS ⟨rfl, rfl⟩
    refine hK _ _ ⟨⟨_, HBD.out⟩, rfl⟩ ?_
    clear hK
    apply anyT_one 14
    · rfl
    · kernel_rfl
    · kernel_rfl
    intro K' hK
    go_simp
    have HBF := Lib.hid (HBD.out.trans ((below_alloc1 wE (.cells #[] 3)).mono HBD.out.size))
    have HAF := Lib.hid ((acci_lit0 wE).mono HBD.out.size)
    refine hK _ _ ⟨⟨_, HBF.out⟩, rfl⟩ ?_
    clear hK
    generalize wE.alloc (.cells #[] 3) = wF at *
    generalize wE.heap.size = gF at *
    apply anyT_one 16
    · rfl
    · kernel_rfl
    · kernel_rfl
    intro K' hK
    refine step_app_is _ _ rfl w2.heap.size rfl HAF.out rfl (HL.out wF (HB2.out.trans (HBF.out.mono HB2.out.size))) (by omega) HBF.out.size ?_
    intro a7 c7 wH ha7 hbh _
    rw [List.nil_append, Nat.zero_add] at ha7
    rw [Nat.zero_add]
    have HBH := Lib.hid (HBF.out.trans hbh)
    have HA7 := Lib.hid (ha7.mono (B' := w.heap.size + 2) HZ2.out)
    refine hK _ _ ⟨⟨_, HBH.out⟩, rfl⟩ ?_
    clear hK hbh ha7
    refine anyT_pull [17] 18 0 (by intro c a d v w h; cases d <;> exact h) (by kernel_rfl) ⟨⟨_, HBH.out⟩, rfl⟩ ?_
    simp only [opsAt, List.filterMap_cons, List.filterMap_nil, List.getElem?_cons_zero, List.getElem?_cons_succ]
    apply held_step
    · kernel_rfl
    · rintro _ ⟨V, rfl⟩
      go_simp
      rfl
    refine held_nil ?_
    refine anyT_done (by kernel_rfl) ?_
    simp only [opsAt, List.filterMap_cons, List.filterMap_nil, List.getElem?_cons_zero, List.getElem?_cons_succ]
    have HGH := Lib.hid ((HBH.out.block _ (by have := HZ2.out; omega)).trans HG12.out)
    have HBW := Lib.hid (HB2.out.trans (HBH.out.mono HB2.out.size))
    obtain ⟨k0, k1, k2, k3, k4, k5, k6, k7, k8, kf⟩ := cells9 HGH.out
    clear p0 p1 p2 p3 d0 d1 d2 d3
    go_wp2
    obtain ⟨hs, hbb, hkk⟩ := set9 (.string (bstr bk)) (.string (bstr key)) (.int .u64 v) (.int .u64 v) (.int .i64 K) (.int .i64 M) (.int .i64 nd) (.int .u32 (n32 (Codec.sum d))) (.slice a7 nn c7) HGH.out (Nat.le_succ w.heap.size)
    have hb9 := HBW.out.trans (hbb HBW.out.size)
    have ha9 := (HA7.out.keep (fun g hg => hkk g (by omega))).mono (B' := w.heap.size) (by omega)
    generalize World.setCell _ _ _ = W9 at *
    obtain ⟨q0, q1, q2, q3, q4, q5, q6, q7, q8, _⟩ := cells9 hs
    exact bodyPost_ret (v := .tuple #[Cd.pv (Cd.mk bk key v K M nd d l) a7 nn c7, .int .i64 0]) (by simp [results, Tryz.results9, go_sem, Cd.pv, Cd.mk, q0, q1, q2, q3, q4, q5, q6, q7, q8]) rfl ⟨a7, c7, rfl, ha9, hb9⟩
  · intro K' hK
    go_simp
    have HBF := Lib.hid (HBD.out.trans ((below_alloc1 wE (.cells #[] 3)).mono HBD.out.size))
    have HAF := Lib.hid ((acci_lit0 wE).mono HBD.out.size)
    refine hK _ _ ⟨⟨_, HBF.out⟩, rfl⟩ ?_
    clear hK
    generalize wE.alloc (.cells #[] 3) = wF at *
    generalize wE.heap.size = gF at *
    apply anyT_one 13
    · rfl
    · kernel_rfl
    · kernel_rfl
    intro K' hK
    go_simp
    refine (refsum_any ad nd cd d wF (HD.out wF (HB2.out.trans (HBF.out.mono HB2.out.size)))).mono ?_
    rintro e wS ⟨rfl, rfl⟩
    refine hK _ _ ⟨⟨_, HBF.out⟩, rfl⟩ ?_
    clear hK
    apply anyT_one 16
    · rfl
    · kernel_rfl
    · kernel_rfl
    intro K' hK
    refine step_app_is _ _ rfl w2.heap.size rfl HAF.out rfl (HL.out wF (HB2.out.trans (HBF.out.mono HB2.out.size))) (by omega) HBF.out.size ?_
    intro a7 c7 wH ha7 hbh _
    rw [List.nil_append, Nat.zero_add] at ha7
    rw [Nat.zero_add]
    have HBH := Lib.hid (HBF.out.trans hbh)
    have HA7 := Lib.hid (ha7.mono (B' := w.heap.size + 2) HZ2.out)
    refine hK _ _ ⟨⟨_, HBH.out⟩, rfl⟩ ?_
    clear hK hbh ha7
    refine anyT_pull [17] 18 0 (by intro c a d v w h; cases d <;> exact h) (by kernel_rfl) ⟨⟨_, HBH.out⟩, rfl⟩ ?_
    simp only [opsAt, List.filterMap_cons, List.filterMap_nil, List.getElem?_cons_zero, List.getElem?_cons_succ]
    apply held_step
    · kernel_rfl
    · rintro _ ⟨V, rfl⟩
      go_simp
      rfl
    refine held_nil ?_
    refine anyT_done (by kernel_rfl) ?_
    simp only [opsAt, List.filterMap_cons, List.filterMap_nil, List.getElem?_cons_zero, List.getElem?_cons_succ]
    have HGH := Lib.hid ((HBH.out.block _ (by have := HZ2.out; omega)).trans HG12.out)
    have HBW := Lib.hid (HB2.out.trans (HBH.out.mono HB2.out.size))
    obtain ⟨k0, k1, k2, k3, k4, k5, k6, k7, k8, kf⟩ := cells9 HGH.out
    clear p0 p1 p2 p3 d0 d1 d2 d3
    go_wp2
    obtain ⟨hs, hbb, hkk⟩ := set9 (.string (bstr bk)) (.string (bstr key)) (.int .u64 v) (.int .u64 v) (.int .i64 K) (.int .i64 M) (.int .i64 nd) (.int .u32 (n32 (Codec.sum d))) (.slice a7 nn c7) HGH.out (Nat.le_succ w.heap.size)
    have hb9 := HBW.out.trans (hbb HBW.out.size)
    have ha9 := (HA7.out.keep (fun g hg => hkk g (by omega))).mono (B' := w.heap.size) (by omega)
    generalize World.setCell _ _ _ = W9 at *
    obtain ⟨q0, q1, q2, q3, q4, q5, q6, q7, q8, _⟩ := cells9 hs
    exact bodyPost_ret (v := .tuple #[Cd.pv (Cd.mk bk key v K M nd d l) a7 nn c7, .int .i64 0]) (by simp [results, Tryz.results9, go_sem, Cd.pv, Cd.mk, q0, q1, q2, q3, q4, q5, q6, q7, q8]) rfl ⟨a7, c7, rfl, ha9, hb9⟩
end Go.Proofs.YtfgifndpglgjkaaGreatDoor
