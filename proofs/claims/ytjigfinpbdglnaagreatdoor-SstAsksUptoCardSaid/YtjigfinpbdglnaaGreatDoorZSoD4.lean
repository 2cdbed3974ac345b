/- Sorted tables: Open: way 4. -/
import Derived.Test.YtjigfinpbdglnaaGreatDoorZSoD
set_option linter.unusedVariables false
set_option linter.unusedSimpArgs false
set_option maxRecDepth 100000
set_option linter.unusedVariables false
set_option linter.unusedSimpArgs false
namespace Go.Proofs.YtjigfinpbdglnaaGreatDoor
open Go.RowKit

set_option maxHeartbeats 16000000 in
theorem sopn_v4 (a : Option Addr) (n c : Nat) (b : List UInt8) (w : World) (h : Bs w a n c b) (hbig : n ≤ 1000000) (hv : ∀ E A T, b.length = E + 28 → Sst.num ((b.drop E).take 8) = A → Sst.num ((b.drop (E + 8)).take 8) = T → Sst.Var 4 b E A T (Sst.blocks b A)) :
    Calls Tryz.prog 19 #[.slice a n c] w (RetOpn (Sst.opn b) w) := by
  have hn := h.1
  have hnc := h.2.1
  have hle := h.le
  by_cases hn28 : n < 28
  · have HR := Lib.hid (opn_short (b := b) (by omega))
    have t0 : decide ((n : Int) - 28 < 0) = true := decide_eq_true (by omega)
    clear hn h
    go_enter Tryz.func19, Tryz.ntmps19
    go_wp2
    go_ret2
    exact ret_wrong HR.out (Below.refl _ _) rfl rfl rfl
  obtain ⟨E, hE⟩ : ∃ E, E = n - 28 := ⟨_, rfl⟩
  have glen : b.length = E + 28 := by omega
  have HLEN := Lib.hid glen
  have HB0 := Lib.hid h
  have HVH := Lib.hid hv
  clear hv
  have hv := HVH.out
  have HNC := Lib.hid hnc
  have HD := Lib.hid (fun W (hb : Below w.heap.size w W) (lo hi : Nat) (h1 : lo ≤ hi) (h2 : hi ≤ n) => (h.below hb).sub h1 h2)
  have HT := Lib.hid (fun W (hb : Below w.heap.size w W) (lo : Nat) (h1 : lo ≤ n) => (h.below hb).drop h1)
  have HW := Lib.hid (fun W (hb : Below w.heap.size w W) (lo hi : Nat) (h1 : lo ≤ hi) (h2 : hi ≤ n) => (h.below hb).win h1 h2)
  have nE : n = E + 28 := by omega
  have en : (n : Int) - 28 = (E : Int) := by omega
  have HNE := Lib.hid nE
  have hnb : 28 ≤ n ∧ n ≤ 1000028 := by omega
  have s1 : ∀ W, (Instr.slice 22 (.slice a n c) (some (.int .i64 (E : Int))) (some (.int .i64 ((E : Int) + 24))) none).run Tryz.prog W = .ok (.slice (subA a c E) (E + 24 - E) (c - E)) W := fun W => slice_lh a n c rfl (by omega) (by omega) (by omega) W
  have s2 : ∀ W, (Instr.slice 22 (.slice a n c) (some (.int .i64 ((E : Int) + 24))) none none).run Tryz.prog W = .ok (.slice (subA a c (E + 24)) (n - (E + 24)) (c - (E + 24))) W := fun W => slice_l a n c (by omega) (by omega) W
  have s3 : ∀ W, (Instr.slice 22 (.slice a n c) (some (.int .i64 (E : Int))) (some (.int .i64 ((E : Int) + 8))) none).run Tryz.prog W = .ok (.slice (subA a c E) (E + 8 - E) (c - E)) W := fun W => slice_lh a n c rfl (by omega) (by omega) (by omega) W
  have s4 : ∀ W, (Instr.slice 22 (.slice a n c) (some (.int .i64 ((E : Int) + 8))) (some (.int .i64 ((E : Int) + 16))) none).run Tryz.prog W = .ok (.slice (subA a c (E + 8)) (E + 16 - (E + 8)) (c - (E + 8))) W := fun W => slice_lh a n c (by omega) (by omega) (by omega) (by omega) W
  have s5 : ∀ W, (Instr.slice 22 (.slice a n c) (some (.int .i64 ((E : Int) + 16))) (some (.int .i64 ((E : Int) + 24))) none).run Tryz.prog W = .ok (.slice (subA a c (E + 16)) (E + 24 - (E + 16)) (c - (E + 16))) W := fun W => slice_lh a n c (by omega) (by omega) (by omega) (by omega) W
  have F1 : Hid (∀ W, Below w.heap.size w W → Bs W (subA a c E) (E + 24 - E) (c - E) ((b.drop E).take 24)) := Lib.hid (fun W hb => by have := HD.out W hb E (E + 24) (by omega) (by omega); rwa [show E + 24 - E = 24 by omega] at this ⊢)
  have F2 : Hid (∀ W, Below w.heap.size w W → Bs W (subA a c (E + 24)) (n - (E + 24)) (c - (E + 24)) (b.drop (E + 24))) := Lib.hid (fun W hb => HT.out W hb (E + 24) (by omega))
  have F3 : Hid (∀ W, Below w.heap.size w W → Bs W (subA a c E) (E + 8 - E) (c - E) ((b.drop E).take 8)) := Lib.hid (fun W hb => by have := HD.out W hb E (E + 8) (by omega) (by omega); rwa [show E + 8 - E = 8 by omega] at this ⊢)
  have F4 : Hid (∀ W, Below w.heap.size w W → Bs W (subA a c (E + 8)) (E + 16 - (E + 8)) (c - (E + 8)) ((b.drop (E + 8)).take 8)) := Lib.hid (fun W hb => by have := HD.out W hb (E + 8) (E + 16) (by omega) (by omega); rwa [show E + 16 - (E + 8) = 8 by omega] at this ⊢)
  have F5 : Hid (∀ W, Below w.heap.size w W → Bs W (subA a c (E + 16)) (E + 24 - (E + 16)) (c - (E + 16)) ((b.drop (E + 16)).take 8)) := Lib.hid (fun W hb => by have := HD.out W hb (E + 16) (E + 24) (by omega) (by omega); rwa [show E + 24 - (E + 16) = 8 by omega] at this ⊢)
  have HLT := Lib.hid (show E + 24 ≤ n ∧ n - (E + 24) ≤ 8 by omega)
  have HL8 : Hid (((b.drop E).take 8).length ≤ 8 ∧ ((b.drop (E + 8)).take 8).length ≤ 8 ∧ ((b.drop (E + 16)).take 8).length ≤ 8) := Lib.hid (by simp only [List.length_take]; omega)
  have HAE : Hid (∀ W, Below w.heap.size w W → True) := Lib.hid (fun _ _ => trivial)
  generalize subA a c E = aE at *
  generalize subA a c (E + 24) = aE24 at *
  generalize subA a c (E + 8) = aE8 at *
  generalize subA a c (E + 16) = aE16 at *
  generalize hg1 : E + 24 - E = n24 at *
  generalize hg2 : E + 8 - E = n8' at *
  generalize hg3 : E + 16 - (E + 8) = n16 at *
  generalize hg4 : E + 24 - (E + 16) = n17 at *
  generalize hg5 : n - (E + 24) = n4 at *
  have hgb : n8' = 8 ∧ n16 = 8 ∧ n17 = 8 ∧ n4 ≤ 8 := by have := HLT.out; omega
  have HGB := Lib.hid hgb
  clear hg1 hg2 hg3 hg4 hg5 hgb HLT glen hn HD HT hE hn28 nE
  have tE : decide ((E : Int) < 0) = false := decide_eq_false (by omega)
  have ew24 : IntKind.i64.wrap ((E : Int) + 24) = (E : Int) + 24 := by rw [IntKind.wrap_i64]; omega
  have ew8 : IntKind.i64.wrap ((E : Int) + 8) = (E : Int) + 8 := by rw [IntKind.wrap_i64]; omega
  have ew16 : IntKind.i64.wrap ((E : Int) + 16) = (E : Int) + 16 := by rw [IntKind.wrap_i64]; omega
  go_enter Tryz.func19, Tryz.ntmps19
  go_upto_region 4 with fail
  have HBD : Hid (Below w.heap.size w w.drew) := Lib.hid (Below.refl _ _).drew
  refine wp_region_steps [13] 13 13 (by kernel_rfl) (by kernel_rfl) rfl (fun W' => ∃ V : BW w, W' = V.w) ?_
  refine anyT_pull [0, 1, 2, 3, 4, 8, 9, 10, 11] 13 4 (by intro c a d v w h; cases d <;> exact h) (by kernel_rfl) ⟨⟨w.drew, HBD.out⟩, rfl⟩ ?_
  simp only [opsAt, List.filterMap_cons, List.filterMap_nil, List.getElem?_cons_zero, List.getElem?_cons_succ]
  iterate 9
    apply held_step
    · kernel_rfl
    · rintro _ ⟨V, rfl⟩
      go_simp
      rfl
  refine held_nil ?_
  generalize w.drew = w0 at *
  apply anyT_one 5
  · rfl
  · kernel_rfl
  · kernel_rfl
  intro K hK
  go_simp
  have hb5 := HBD.out.alloc HBD.out.size (o := .cells #[.slice aE n24 (c - E)] 22)
  refine hK _ _ ⟨⟨_, hb5⟩, rfl⟩ ?_
  clear hK
  apply anyT_one 6
  · rfl
  · kernel_rfl
  · kernel_rfl
  intro K hK
  go_simp
  refine (sum_any _ 1 1 [(b.drop E).take 24] _ (Bss.one (F1.out _ HBD.out))).mono ?_
  rintro en w1 ⟨rfl, hb1⟩
  rw [show ([(b.drop E).take 24] : List (List UInt8)).flatten = (b.drop E).take 24 by simp, n32_toNat]
  have HB1 := Lib.hid (hb5.trans (hb1.mono hb5.size))
  refine hK _ _ ⟨⟨_, HB1.out⟩, rfl⟩ ?_
  clear hK hb1 hb5
  have hnum : (Codec.sum ((b.drop E).take 24)).toNat < 4294967296 := (Codec.sum _).toNat_lt
  have HNUM := Lib.hid (snumber_any aE24 n4 (c - (E + 24)) _ w1 (F2.out _ HB1.out) HGB.out.2.2.2)
  have HSN : Hid (∀ S N, (Codec.sum ((b.drop E).take 24)).toNat = S → Sst.num (b.drop (E + 24)) = N → (S ≠ N → Sst.opn b = .error (E, 13)) ∧ (S = N → (Codec.sum ((b.drop E).take 24)).toNat = Sst.num (b.drop (E + 24)))) := Lib.hid (fun S N h1 h2 => by
    subst h1 h2
    exact ⟨fun h => opn_sum HLEN.out h, fun h => h⟩)
  obtain ⟨S24, hS24⟩ : ∃ S24, (Codec.sum ((b.drop E).take 24)).toNat = S24 := ⟨_, rfl⟩
  obtain ⟨N24, hN24⟩ : ∃ N24, Sst.num (b.drop (E + 24)) = N24 := ⟨_, rfl⟩
  have HSN2 := Lib.hid (HSN.out S24 N24 hS24 hN24)
  rw [hN24] at HNUM
  rw [hS24] at hnum
  have ew64 : IntKind.u64.wrap ((S24 : Nat) : Int) = (S24 : Int) := by rw [IntKind.wrap_u64]; omega
  first | rw [hS24] | (generalize (Codec.sum ((b.drop E).take 24)).toNat = S24' at *; subst hS24)
  clear hN24 HSN
  try clear hS24
  refine anyT_pull [7] 13 1 (by intro c a d v w h; cases d <;> exact h) (by kernel_rfl) ⟨⟨_, HB1.out⟩, rfl⟩ ?_
  simp only [opsAt, List.filterMap_cons, List.filterMap_nil, List.getElem?_cons_zero, List.getElem?_cons_succ]
  apply held_step
  · kernel_rfl
  · rintro _ ⟨V, rfl⟩
    go_simp
    rfl
  refine held_nil ?_
  apply anyT_one 12
  · rfl
  · kernel_rfl
  · kernel_rfl
  intro K hK
  go_simp
  refine HNUM.out.mono ?_
  rintro en w2 ⟨rfl, rfl⟩
  refine hK _ _ ⟨⟨_, HB1.out⟩, rfl⟩ ?_
  clear hK HNUM
  refine anyT_done (by kernel_rfl) ?_
  simp only [opsAt, List.filterMap_cons, List.filterMap_nil, List.getElem?_cons_zero, List.getElem?_cons_succ]
  by_cases hSN : S24 = N24
  case neg =>
    have HR := Lib.hid (HSN2.out.1 hSN)
    have t4 : ((S24 : Int) != (N24 : Int)) = true := by rw [bne_iff_ne]; omega
    clear hSN
    go_wp2
    go_ret2
    exact ret_wrong HR.out HB1.out rfl rfl rfl
  have HSUM := Lib.hid (HSN2.out.2 hSN)
  have t4 : ((S24 : Int) != (N24 : Int)) = false := by rw [hSN]; simp
  clear hSN HSN2
  obtain ⟨A, hA⟩ : ∃ A, Sst.num ((b.drop E).take 8) = A := ⟨_, rfl⟩
  obtain ⟨T, hT⟩ : ∃ T, Sst.num ((b.drop (E + 8)).take 8) = T := ⟨_, rfl⟩
  have hAb : A < 18446744073709551616 := by rw [← hA]; exact num8_lt HL8.out.1
  have hTb : T < 18446744073709551616 := by rw [← hT]; exact num8_lt HL8.out.2.1
  have H2 := Lib.hid hA
  have H3 := Lib.hid hT
  clear hA hT
  go_upto_region 6 with fail
  go_cut [5, 6] (fun u v wx => u = .int .u64 A ∧ v = .int .u64 T ∧ Below w.heap.size w wx)
  case first =>
    have HBE : Hid (Below w.heap.size w w1.drew) := Lib.hid HB1.out.drew
    have HN1 := Lib.hid (snumber_any aE n8' (c - E) _ w1.drew (F3.out _ HBE.out) (by rw [HGB.out.1]; omega))
    have HN2 := Lib.hid (snumber_any aE8 n16 (c - (E + 8)) _ w1.drew (F4.out _ HBE.out) (by rw [HGB.out.2.1]; omega))
    rw [H2.out] at HN1
    rw [H3.out] at HN2
    refine wp_region_steps [13, 14] 13 13 (by kernel_rfl) (by kernel_rfl) rfl (fun W' => ∃ V : BW w, W' = V.w) ?_
    refine anyT_pull [0, 1, 2, 3, 4, 6, 7, 8, 9, 10, 11] 13 2 (by intro c a d v w h; cases d <;> exact h) (by kernel_rfl) ⟨⟨w1.drew, HBE.out⟩, rfl⟩ ?_
    simp only [opsAt, List.filterMap_cons, List.filterMap_nil, List.getElem?_cons_zero, List.getElem?_cons_succ]
    iterate 11
      apply held_step
      · kernel_rfl
      · rintro _ ⟨V, rfl⟩
        go_simp
        rfl
    refine held_nil ?_
    generalize w1.drew = w0 at *
    apply anyT_one 5
    · rfl
    · kernel_rfl
    · kernel_rfl
    intro K hK
    go_simp
    refine HN1.out.mono ?_
    rintro en wA ⟨rfl, rfl⟩
    refine hK _ _ ⟨⟨_, HBE.out⟩, rfl⟩ ?_
    clear hK
    apply anyT_one 12
    · rfl
    · kernel_rfl
    · kernel_rfl
    intro K hK
    go_simp
    refine HN2.out.mono ?_
    rintro en wA ⟨rfl, rfl⟩
    refine hK _ _ ⟨⟨_, HBE.out⟩, rfl⟩ ?_
    clear hK
    clear HN1 HN2
    refine anyT_done (by kernel_rfl) ?_
    simp only [opsAt, List.filterMap_cons, List.filterMap_nil, List.getElem?_cons_zero, List.getElem?_cons_succ]
    go_wp2
    go_meet
    exact ⟨rfl, rfl, HBE.out⟩
  case rest =>
  obtain ⟨rfl, rfl, hb2⟩ := hcut
  have HB2 := Lib.hid hb2
  clear hb2 HB1
  have eE64 : IntKind.u64.wrap (E : Int) = (E : Int) := by rw [IntKind.wrap_u64]; omega
  by_cases hAT : A < T
  case neg =>
    have HR := Lib.hid (opn_place HLEN.out HSUM.out (by rw [H2.out, H3.out]; omega))
    have t7 : decide ((A : Int) ≥ (T : Int)) = true := decide_eq_true (by omega)
    have t7c : decide ((T : Int) ≤ (A : Int)) = true := decide_eq_true (by omega)
    have t7e : decide (T ≤ A) = true := decide_eq_true (by omega)
    clear hAT
    go_wp2
    go_ret2
    exact ret_wrong HR.out HB2.out rfl rfl rfl
  have t7 : decide ((A : Int) ≥ (T : Int)) = false := decide_eq_false (by omega)
  have t7c : decide ((T : Int) ≤ (A : Int)) = false := decide_eq_false (by omega)
  have t7e : decide (T ≤ A) = false := decide_eq_false (by omega)
  by_cases hTE : T < E
  case neg =>
    have HR := Lib.hid (opn_place HLEN.out HSUM.out (by rw [H2.out, H3.out]; omega))
    have t7b : decide ((T : Int) ≥ (E : Int)) = true := decide_eq_true (by omega)
    have t7d : decide ((E : Int) ≤ (T : Int)) = true := decide_eq_true (by omega)
    have t7f : decide (E ≤ T) = true := decide_eq_true (by omega)
    clear hAT hTE
    go_wp2
    go_ret2
    exact ret_wrong HR.out HB2.out rfl rfl rfl
  have t7b : decide ((T : Int) ≥ (E : Int)) = false := decide_eq_false (by omega)
  have t7d : decide ((E : Int) ≤ (T : Int)) = false := decide_eq_false (by omega)
  have t7f : decide (E ≤ T) = false := decide_eq_false (by omega)
  have HON := Lib.hid (opn_on HLEN.out HSUM.out H2.out H3.out hAT hTE)
  have HVV := Lib.hid (hv E A T HLEN.out H2.out H3.out)
  have lt1 : A < T := hAT
  have lt2 : T < E := hTE
  have hAn : A ≤ 1000000 ∧ T ≤ n ∧ E ≤ n ∧ T ≤ 1000000 ∧ E ≤ 1000000 := by omega
  clear hAb hTb hAT hTE HSUM H2 H3 hv HVH
  have s6 : ∀ W, (Instr.slice 22 (.slice a n c) (some (.int .u64 (A : Int))) (some (.int .u64 (T : Int))) (some (.int .u64 (T : Int)))).run Tryz.prog W = .ok (.slice (subA a T A) (T - A) (T - A)) W := fun W => slice_q3 _ _ _ a n c rfl rfl rfl (by omega) (by omega) (by omega) W
  have s7 : ∀ W, (Instr.slice 22 (.slice a n c) (some (.int .u64 (T : Int))) (some (.int .i64 (E : Int))) (some (.int .i64 (E : Int)))).run Tryz.prog W = .ok (.slice (subA a E T) (E - T) (E - T)) W := fun W => slice_q3 _ _ _ a n c rfl rfl rfl (by omega) (by omega) (by omega) W
  have S8 : Hid (∀ k : Nat, k ≤ A → ∀ W, (Instr.slice 22 (.slice a n c) (some (.int .i64 (k : Int))) (some (.int .u64 (A : Int))) (some (.int .u64 (A : Int)))).run Tryz.prog W = .ok (.slice (subA a A k) (A - k) (A - k)) W) := Lib.hid (fun k hk W => slice_q3 _ _ _ a n c rfl rfl rfl (by omega) (by omega) (by omega) W)
  have F6 : Hid (∀ W, Below w.heap.size w W → Bs W (subA a T A) (T - A) (T - A) (Sst.win b A T)) := Lib.hid (fun W hb => HW.out W hb A T (by omega) (by omega))
  have F7 : Hid (∀ W, Below w.heap.size w W → Bs W (subA a E T) (E - T) (E - T) (Sst.win b T E)) := Lib.hid (fun W hb => HW.out W hb T E (by omega) (by omega))
  have F8 : Hid (∀ k : Nat, k ≤ A → ∀ W, Below w.heap.size w W → Bs W (subA a A k) (A - k) (A - k) (Sst.win b k A)) := Lib.hid (fun k hk W hb => HW.out W hb k A hk (by omega))
  generalize subA a T A = aTA at *
  generalize subA a E T = aET at *
  clear HW
  have eA64 : IntKind.i64.wrap (A : Int) = (A : Int) := by rw [IntKind.wrap_i64]; omega
  have eT64 : IntKind.i64.wrap (T : Int) = (T : Int) := by rw [IntKind.wrap_i64]; omega
  obtain ⟨R, hR⟩ : ∃ R, Sst.blocks b A = R := ⟨_, rfl⟩
  have HST0 := Lib.hid (blocks_start b A)
  rw [hR] at HST0 HON HVV
  clear hR
  go_upto_region 12 with fail
  have hr3 := heap_alloc_new wc (.cells #[.slice none 0 0, .int .i64 0, .slice none 0 0] 80)
  have hb3 := below_alloc1 wc (.cells #[.slice none 0 0, .int .i64 0, .slice none 0 0] 80)
  have HB3 := Lib.hid (HB2.out.trans (hb3.mono HB2.out.size))
  have hw3 := HB2.out.size
  have hs3 : wc.heap.size < (wc.alloc (.cells #[.slice none 0 0, .int .i64 0, .slice none 0 0] 80)).heap.size := by simp
  generalize wc.alloc (.cells #[.slice none 0 0, .int .i64 0, .slice none 0 0] 80) = wT at *
  generalize wc.heap.size = bt at *
  have HT3 := Lib.hid hr3
  have HBT3 := Lib.hid hs3
  have HWB := Lib.hid hw3
  clear hr3 hb3 hs3 hw3 t7 t7b t7c t7d t7e t7f
  go_loopw [8, 9] (fun ob fr wr => ∃ (k : Nat) (L : List Ent) (bl : List Bk) (a8 al : Option Addr) (m0 c8 n0 cl : Nat), ob = .slice a8 m0 c8 ∧ fr = .int .i64 k ∧ k ≤ A ∧ Hid (L.length = n0) ∧ Hid (bl.length = m0) ∧ Hid (wr.heap[bt]? = some (.cells #[.slice al n0 cl, .int .i64 0, .slice none 0 0] 80 (0, 0))) ∧ Hid (AccV wr (bt + 1) al n0 cl L) ∧ Hid (Acc celB 93 wr (bt + 1) a8 m0 c8 bl) ∧ Hid (Below w.heap.size w wr) ∧ Hid (Sst.Inv A k L bl) ∧ Hid (Sst.Step b A k L bl R)) (fun _ fr _ => A - (intOf fr).toNat)
  case atStart => exact ⟨0, [], [], none, none, 0, 0, 0, 0, rfl, rfl, Nat.zero_le _, Lib.hid rfl, Lib.hid rfl, HT3, Lib.hid (AccV.nil _ _), Lib.hid (Acc.nil _ _ _ _), HB3, Lib.hid (Sst.Inv.nil A), HST0⟩
  case round =>
    obtain ⟨k, L, bl, a8, al, m0, c8, n0, cl, rfl, rfl, hkA, HN0, HM0, HT, HE, HK, HB, HI, HS⟩ := hrel
    clear HST0 HT3 HB3
    have hn0 : n0 ≤ 1000000 := by have := HI.out.n; have := HN0.out; omega
    have hm0 : m0 ≤ 1000000 := by have := HI.out.m; have := HM0.out; omega
    have hsm : 4 * n0 ≤ k ∧ m0 ≤ k := by have h1 := HI.out.n; have h2 := HI.out.m; have h3 := HN0.out; have h4 := HM0.out; omega
    have HBTr : Hid (bt < wr.heap.size) := Lib.hid (Array.getElem?_eq_some_iff.1 HT.out).1
    by_cases hkl : k < A
    case neg =>
      obtain rfl : k = A := by omega
      have HOKB : Hid (BkOk bl) := Lib.hid HI.out.ok
      have HKL : Hid (∀ e ∈ L, e.key.length ≤ 1000000) := Lib.hid (fun e he => by have := (HI.out.eok e he).k; omega)
      have HRR := Lib.hid (HS.out.done (Nat.le_refl _))
      have HQV := Lib.hid (var_q1 HVV.out HRR.out)
      rw [HRR.out] at HON
      obtain ⟨c0, c1, c2, cf⟩ := cells3 HT.out
      have tL : decide ((k : Int) < (k : Int)) = false := decide_eq_false (by omega)
      go_wp2_with fail
      refine (sfilter_any al n0 cl L wr HE.out.e.es HKL.out hn0).mono ?_
      rintro en w5 ⟨af, nf, cf', rfl, of, hb5⟩
      have HF5 := Lib.hid of
      have HB5 := Lib.hid hb5
      have HW5 := Lib.hid (HB.out.trans (hb5.mono HB.out.size))
      have HT5 := Lib.hid ((hb5.block _ HBTr.out).trans HT.out)
      have HE5 := Lib.hid (HE.out.below hb5)
      have HK5 := Lib.hid (HK.out.below hb5)
      clear of hb5 c0 c1 c2 cf
      obtain ⟨c0, c1, c2, cf⟩ := cells3 HT5.out
      go_upto_region 21 with fail
      have HS1 := Lib.hid (oth_setAt w5 bt 1 (.int .i64 (m0 : Int)))
      have HT6 := Lib.hid (heap_set (j := 1) (v := .int .i64 (m0 : Int)) HT5.out)
      have HE6 := Lib.hid ((HE5.out).oth HS1.out HT5.out (by decide) (by decide))
      have HK6 : Hid (Acc celB 93 (w5.setCell ⟨bt, 1, none⟩ (.int .i64 (m0 : Int))) (bt + 1) a8 m0 c8 bl) := Lib.hid ⟨HK5.out.1, own_lowOth HK5.out.2 HS1.out (by omega)⟩
      have HF6 := Lib.hid (HF5.out.bs.notin HS1.out HT5.out no_tab)
      have HW6 := Lib.hid (HW5.out.trans (HS1.out.below HW5.out.size (fun x hx => by cases hx; exact HWB.out)))
      generalize w5.setCell ⟨bt, 1, none⟩ (.int .i64 (m0 : Int)) = w6 at *
      have HS2 := Lib.hid (oth_setAt w6 bt 2 (.slice af nf cf'))
      have HT7 := Lib.hid (heap_set (j := 2) (v := .slice af nf cf') HT6.out)
      have HE7 := Lib.hid ((HE6.out).oth HS2.out HT6.out (by decide) (by decide))
      have HK7 : Hid (Acc celB 93 (w6.setCell ⟨bt, 2, none⟩ (.slice af nf cf')) (bt + 1) a8 m0 c8 bl) := Lib.hid ⟨HK6.out.1, own_lowOth HK6.out.2 HS2.out (by omega)⟩
      have HF7 := Lib.hid (HF6.out.notin HS2.out HT6.out no_tab)
      have HW7 := Lib.hid (HW6.out.trans (HS2.out.below HW6.out.size (fun x hx => by cases hx; exact HWB.out)))
      generalize w6.setCell ⟨bt, 2, none⟩ (.slice af nf cf') = w7 at *
      have HT : Hid (w7.heap[bt]? = some (.cells #[.slice al n0 cl, .int .i64 m0, .slice af nf cf'] 80 (0, 0))) := Lib.hid HT7.out
      clear HS1 HT6 HE6 HK6 HF6 HW6 HS2 HT7 HT5 HE5 HK5 HF5 HW5 HB5 c0 c1 c2 cf
      have HILE : Hid ((Sst.index bl).length ≤ 100030000000) := Lib.hid (by
        have h1 := index_len HOKB.out bl.length (Nat.le_refl _)
        rw [List.take_length] at h1
        have h2 := HM0.out
        rw [h2] at h1
        have := Nat.mul_le_mul hm0 (Nat.le_refl 100030)
        omega)
      have HFLE : Hid (8 ≤ (Sst.filter L).length ∧ (Sst.filter L).length ≤ 1250010) := Lib.hid (filter_len2 L (by have := HN0.out; omega))
      -- the index
      go_cut [161] (fun v wx => v = .bool (!decide (Sst.win b k T = Codec.frame (Sst.index bl))) ∧ Hid (Below w7.heap.size w7 wx))
      case first =>
        have HBD := Lib.hid ((Below.refl w7.heap.size w7).drew)
        refine wp_region_steps [10] 10 10 (by kernel_rfl) (by kernel_rfl) rfl (fun W' => ∃ V : BW w, W' = V.w) ?_
        have HWD := Lib.hid (HW7.out.trans (HBD.out.mono HW7.out.size))
        generalize w7.drew = w8 at *
        refine anyT_pull [0, 1, 2, 3, 4, 5] 10 4 (by intro c a d v w h; cases d <;> exact h) (by kernel_rfl) ⟨⟨w8, HWD.out⟩, rfl⟩ ?_
        simp only [opsAt, List.filterMap_cons, List.filterMap_nil, List.getElem?_cons_zero, List.getElem?_cons_succ]
        iterate 6
          apply held_step
          · kernel_rfl
          · rintro _ ⟨V, rfl⟩
            go_simp
            rfl
        refine held_nil ?_
        apply anyT_one 6
        · rfl
        · kernel_rfl
        · kernel_rfl
        intro K hK
        go_simp
        refine (sindex_any a8 m0 c8 bl w8 ((HK7.out.below HBD.out).rd (by decide)) HOKB.out (by omega)).mono ?_
        rintro en w9 ⟨a9, n9, c9, rfl, o9, hb9⟩
        have HO9 := Lib.hid o9
        have HB9 := Lib.hid (HBD.out.trans (hb9.mono HBD.out.size))
        have HW9 := Lib.hid (HW7.out.trans (HB9.out.mono HW7.out.size))
        refine hK _ _ ⟨⟨w9, HW9.out⟩, rfl⟩ ?_
        clear hK o9 hb9
        apply anyT_one 7
        · rfl
        · kernel_rfl
        · kernel_rfl
        intro K hK
        go_simp
        refine (frame_any a9 n9 c9 _ w9 HO9.out.bs ⟨by have h1 := HO9.out.bs.1; have h2 := HILE.out; omega⟩).mono ?_
        rintro en w10 ⟨a10, n10, c10, rfl, o10, hb10⟩
        have HO10 := Lib.hid o10
        have HB10 := Lib.hid (HB9.out.trans (hb10.mono HB9.out.size))
        have HW10 := Lib.hid (HW7.out.trans (HB10.out.mono HW7.out.size))
        refine hK _ _ ⟨⟨w10, HW10.out⟩, rfl⟩ ?_
        clear hK o10 hb10
        apply anyT_one 8
        · rfl
        · kernel_rfl
        · kernel_rfl
        intro K hK
        go_simp
        refine (equal_any aTA a10 (T - k) (T - k) n10 c10 _ _ w10 (F6.out _ HW10.out) HO10.out.bs).mono ?_
        rintro en w11 ⟨rfl, hb11⟩
        have HB11 := Lib.hid (HB10.out.trans (hb11.mono HB10.out.size))
        have HW11 := Lib.hid (HW7.out.trans (HB11.out.mono HW7.out.size))
        refine hK _ _ ⟨⟨w11, HW11.out⟩, rfl⟩ ?_
        clear hK hb11
        refine anyT_pull [9] 10 0 (by intro c a d v w h; cases d <;> exact h) (by kernel_rfl) ⟨⟨w11, HW11.out⟩, rfl⟩ ?_
        simp only [opsAt, List.filterMap_cons, List.filterMap_nil, List.getElem?_cons_zero, List.getElem?_cons_succ]
        apply held_step
        · kernel_rfl
        · rintro _ ⟨V, rfl⟩
          go_simp
          rfl
        refine held_nil ?_
        refine anyT_done (by kernel_rfl) ?_
        simp only [opsAt, List.filterMap_cons, List.filterMap_nil, List.getElem?_cons_zero, List.getElem?_cons_succ]
        go_wp2
        go_meet
        exact ⟨rfl, HB11⟩
      case rest =>
      obtain ⟨rfl, HC⟩ := hcut
      by_cases hq1 : Sst.win b k T = Codec.frame (Sst.index bl)
      case neg =>
        exact absurd (HQV.out.2.1 (by decide)) hq1
      have HQ1 := Lib.hid hq1
      rw [decide_eq_true hq1]
      clear hq1
      have HWc := Lib.hid (HW7.out.trans (HC.out.mono HW7.out.size))
      have HBT7 : Hid (bt < w7.heap.size) := Lib.hid (Array.getElem?_eq_some_iff.1 HT.out).1
      have HTc := Lib.hid ((HC.out.block _ HBT7.out).trans HT.out)
      have HBTc : Hid (bt < wc.heap.size) := Lib.hid (Nat.lt_of_lt_of_le HBT7.out HC.out.size)
      go_upto_region 23 with fail
      go_cut [177] (fun v wx => v = .bool (!decide (Sst.win b T E = Codec.frame (Sst.filter L))) ∧ Hid (Below wc.heap.size wc wx))
      case first =>
        have HBD := Lib.hid ((Below.refl wc.heap.size wc).drew)
        have HTD := Lib.hid ((HBD.out.block _ HBTc.out).trans HTc.out)
        refine wp_region_steps [12] 12 12 (by kernel_rfl) (by kernel_rfl) rfl (fun W' => ∃ V : BW wc.drew, W' = V.w) ?_
        have HWD := Lib.hid (HWc.out.trans (HBD.out.mono HWc.out.size))
        generalize wc.drew = w8 at *
        obtain ⟨d0, d1, d2, df⟩ := cells3 HTD.out
        have d0' := BW.cell d0
        have d2' := BW.cell d2
        clear d0 d1 d2 df
        refine anyT_pull [0, 1, 2, 3, 4, 5, 6, 7, 8] 12 3 (by intro c a d v w h; cases d <;> exact h) (by kernel_rfl) ⟨⟨w8, Below.refl _ _⟩, rfl⟩ ?_
        simp only [opsAt, List.filterMap_cons, List.filterMap_nil, List.getElem?_cons_zero, List.getElem?_cons_succ]
        iterate 9
          apply held_step
          · kernel_rfl
          · rintro _ ⟨V, rfl⟩
            go_simp
            rfl
        refine held_nil ?_
        apply anyT_one 9
        · rfl
        · kernel_rfl
        · kernel_rfl
        intro K hK
        go_simp
        refine (frame_any af nf cf' _ w8 (HF7.out.below (HC.out.trans (HBD.out.mono HC.out.size))) ⟨by have h1 := HF7.out.1; have h2 := HFLE.out.2; omega⟩).mono ?_
        rintro en w10 ⟨a10, n10, c10, rfl, o10, hb10⟩
        have HO10 := Lib.hid o10
        have HB10 := Lib.hid hb10
        have HW10 := Lib.hid (HWD.out.trans (hb10.mono HWD.out.size))
        refine hK _ _ ⟨⟨w10, hb10⟩, rfl⟩ ?_
        clear hK o10 hb10
        apply anyT_one 10
        · rfl
        · kernel_rfl
        · kernel_rfl
        intro K hK
        go_simp
        refine (equal_any aET a10 (E - T) (E - T) n10 c10 _ _ w10 (F7.out _ HW10.out) HO10.out.bs).mono ?_
        rintro en w11 ⟨rfl, hb11⟩
        have HB11 := Lib.hid (HB10.out.trans (hb11.mono HB10.out.size))
        refine hK _ _ ⟨⟨w11, HB11.out⟩, rfl⟩ ?_
        clear hK hb11
        refine anyT_pull [11] 12 0 (by intro c a d v w h; cases d <;> exact h) (by kernel_rfl) ⟨⟨w11, HB11.out⟩, rfl⟩ ?_
        simp only [opsAt, List.filterMap_cons, List.filterMap_nil, List.getElem?_cons_zero, List.getElem?_cons_succ]
        iterate 1
          apply held_step
          · kernel_rfl
          · rintro _ ⟨V, rfl⟩
            go_simp
            rfl
        refine held_nil ?_
        refine anyT_done (by kernel_rfl) ?_
        simp only [opsAt, List.filterMap_cons, List.filterMap_nil, List.getElem?_cons_zero, List.getElem?_cons_succ]
        go_wp2
        go_meet
        exact ⟨rfl, Lib.hid (HBD.out.trans (HB11.out.mono HBD.out.size))⟩
      case rest =>
      obtain ⟨rfl, HC2⟩ := hcut
      by_cases hq2 : Sst.win b T E = Codec.frame (Sst.filter L)
      case neg =>
        exact absurd (HQV.out.2.2.2.1 (by decide)) hq2
      have HQ2 := Lib.hid hq2
      rw [decide_eq_true hq2]
      clear hq2
      have HC3 := Lib.hid (HC.out.trans (HC2.out.mono HC.out.size))
      clear HC HC2 HWc HTc HBTc
      have HWc := Lib.hid (HW7.out.trans (HC3.out.mono HW7.out.size))
      have HTc := Lib.hid ((HC3.out.block _ HBT7.out).trans HT.out)
      have HBTc : Hid (bt < wc.heap.size) := Lib.hid (Nat.lt_of_lt_of_le HBT7.out HC3.out.size)
      have hn64 : IntKind.u64.wrap (n0 : Int) = (n0 : Int) := by rw [IntKind.wrap_u64]; omega
      go_upto_region 25 with fail
      go_cut [195] (fun v wx => v = .bool (!decide (Sst.num ((b.drop (E + 16)).take 8) = n0)) ∧ Hid (Below wc.heap.size wc wx))
      case first =>
        have HBD := Lib.hid ((Below.refl wc.heap.size wc).drew)
        have HTD := Lib.hid ((HBD.out.block _ HBTc.out).trans HTc.out)
        refine wp_region_steps [14] 14 14 (by kernel_rfl) (by kernel_rfl) rfl (fun W' => ∃ V : BW wc.drew, W' = V.w) ?_
        have HWD := Lib.hid (HWc.out.trans (HBD.out.mono HWc.out.size))
        generalize wc.drew = w8 at *
        obtain ⟨d0, d1, d2, df⟩ := cells3 HTD.out
        have d0' := BW.cell d0
        clear d0 d1 d2 df
        have HN := Lib.hid (snumber_any aE16 n17 (c - (E + 16)) _ w8 (F5.out _ HWD.out) (by have := HGB.out; omega))
        obtain ⟨N7, hN7⟩ : ∃ N7, Sst.num ((b.drop (E + 16)).take 8) = N7 := ⟨_, rfl⟩
        rw [hN7] at HN
        have HN7 := Lib.hid hN7
        clear hN7
        refine anyT_pull [0, 1, 2, 3, 4, 5, 7, 8, 9, 10, 11, 12] 14 2 (by intro c a d v w h; cases d <;> exact h) (by kernel_rfl) ⟨⟨w8, Below.refl _ _⟩, rfl⟩ ?_
        simp only [opsAt, List.filterMap_cons, List.filterMap_nil, List.getElem?_cons_zero, List.getElem?_cons_succ]
        iterate 12
          apply held_step
          · kernel_rfl
          · rintro _ ⟨V, rfl⟩
            go_simp
            rfl
        refine held_nil ?_
        apply anyT_one 6
        · rfl
        · kernel_rfl
        · kernel_rfl
        intro K hK
        go_simp
        refine HN.out.mono ?_
        rintro en w10 ⟨rfl, rfl⟩
        refine hK _ _ ⟨⟨w8, Below.refl _ _⟩, rfl⟩ ?_
        clear hK
        have tnn : ((N7 : Int) != (n0 : Int)) = (!decide (N7 = n0)) := by
          by_cases e : N7 = n0
          · rw [e]; simp
          · rw [decide_eq_false e, bne_iff_ne.2 (by omega)]; rfl
        refine anyT_pull [13] 14 0 (by intro c a d v w h; cases d <;> exact h) (by kernel_rfl) ⟨⟨w8, Below.refl _ _⟩, rfl⟩ ?_
        simp only [opsAt, List.filterMap_cons, List.filterMap_nil, List.getElem?_cons_zero, List.getElem?_cons_succ]
        iterate 1
          apply held_step
          · kernel_rfl
          · rintro _ ⟨V, rfl⟩
            go_simp
            rfl
        refine held_nil ?_
        refine anyT_done (by kernel_rfl) ?_
        simp only [opsAt, List.filterMap_cons, List.filterMap_nil, List.getElem?_cons_zero, List.getElem?_cons_succ]
        go_wp2
        go_meet
        exact ⟨by rw [HN7.out], HBD⟩
      case rest =>
      obtain ⟨rfl, HC4⟩ := hcut
      by_cases hq3 : Sst.num ((b.drop (E + 16)).take 8) = n0
      case neg =>
        exact absurd (by rw [← HN0.out]; exact HQV.out.2.2.2.2.2 (by trivial)) hq3
      have HR1 : Hid (Sst.opn b = .ok (L, bl)) := Lib.hid (by rw [HON.out]; (try dsimp only); rw [if_neg (by rw [HQ1.out]; simp), if_neg (by rw [HQ2.out]; simp), HN0.out, if_neg (by rw [hq3]; simp)])
      rw [decide_eq_true hq3]
      clear hq3
      go_wp2
      go_ret2
      have HX := Lib.hid (HC3.out.trans (HC4.out.mono HC3.out.size))
      refine ⟨HW7.out.trans (HX.out.mono HW7.out.size), .inr ⟨L, bl, bt, al, cl, af, nf, cf', HR1.out, rfl, ?_⟩⟩
      rw [HN0.out, HM0.out]
      exact ⟨(HX.out.block _ HBT7.out).trans HT.out, HE7.out.e.es.below HX.out, HF7.out.below HX.out⟩
    -- one more block
    have hkb : k ≤ 1000000 := by omega
    have tA : decide ((k : Int) < (A : Int)) = true := decide_eq_true (by omega)
    have tA' : decide (k < A) = true := decide_eq_true hkl
    obtain ⟨c0, c1, c2, cf⟩ := cells3 HT.out
    have s8 := S8.out k hkA
    have HR13 := Lib.hid (readframe_own (subA a A k) (A - k) (A - k) _ wr (F8.out k hkA _ HB.out) ⟨by omega⟩)
    obtain ⟨p, nn, er, hfr⟩ : ∃ p nn er, Codec.rdFrame (Sst.win b k A) = (p, nn, er) := ⟨_, _, _, rfl⟩
    rw [hfr] at HR13
    have HFR := Lib.hid hfr
    generalize subA a A k = aAk at *
    generalize A - k = Ak at *
    clear hfr
    go_wp2_with fail
    refine HR13.out.mono ?_
    rintro en w4 ⟨a4, n4', c4, rfl, hp4, hb4⟩
    dsimp only at hp4 ⊢
    have HP4 := Lib.hid hp4
    have HB4 := Lib.hid hb4
    have HBW4 := Lib.hid (HB.out.trans (hb4.mono HB.out.size))
    have HPN : Hid (n4' ≤ 100000000) := Lib.hid (by
      rw [← hp4.bs.1]
      by_cases e : er = 0
      · have h1 := HFR.out
        rw [e] at h1
        have h2 := rdFrame_pos h1
        have h3 : (Sst.win b k A).length ≤ A := by unfold Sst.win; rw [List.length_take]; omega
        omega
      · have h1 := HFR.out
        unfold Codec.rdFrame at h1
        split at h1
        · exact absurd (congrArg (fun q => q.2.2) h1).symm e
        · have h2 : p = [] := (congrArg (fun q => q.1) h1).symm
          rw [h2]; simp)
    clear hp4 hb4 HR13
    go_wp2_with fail
    refine (sentries_any a4 n4' c4 p w4 HP4.out.bs (fun x hx => (HP4.out.new x hx).2) HPN.out).mono ?_
    rintro en w5 ⟨a5, n5, c5, ok, rfl, hb5, hcase⟩
    have HB5 := Lib.hid (HB4.out.trans (hb5.mono HB4.out.size))
    have HBW5 := Lib.hid (HBW4.out.trans (hb5.mono HBW4.out.size))
    have HCS := Lib.hid hcase
    clear hb5 hcase
    go_upto_region 15 with fail
    have HBD5 := Lib.hid ((Below.refl w5.heap.size w5).drew)
    have HB6 := Lib.hid (HB5.out.trans (HBD5.out.mono HB5.out.size))
    have HBW6 := Lib.hid (HBW5.out.trans (HBD5.out.mono HBW5.out.size))
    by_cases her : er = 0
    case neg =>
      exact (var_err HVV.out (by decide) (HS.out.bad1 hkl (by rw [HFR.out]; exact her))).elim
    subst her
    cases ok with
    | false =>
      have hd : Sst.dents p = none ∨ Sst.dents p = some [] := by
        rcases HCS.out with ⟨h, _⟩ | ⟨_, h⟩
        · cases h
        · exact h
      rcases hd with hd | hd
      · exact (var_err HVV.out (by decide) (HS.out.bad2 hkl (by rw [HFR.out]; exact hd))).elim
      · exact (var_err HVV.out (by decide) (HS.out.bad3 hkl (by rw [HFR.out]; exact hd) (.inl rfl))).elim
    | true =>
      obtain ⟨l, hlne, HD, HL5⟩ : ∃ l, l ≠ [] ∧ Hid (Sst.dents p = some l) ∧ Hid (AccV w5 w4.heap.size a5 n5 c5 l) := by
        rcases HCS.out with ⟨_, l, g1, g2, g3⟩ | ⟨h, _⟩
        · exact ⟨l, g1, Lib.hid g2, Lib.hid g3⟩
        · cases h
      have HLN := Lib.hid hlne
      have hn5 := HL5.out.len
      have hn5p : 0 < n5 := by rw [← hn5]; exact List.length_pos_iff.2 hlne
      have hpp := rdFrame_pos HFR.out
      have hwl : (Sst.win b k A).length ≤ A - k := by unfold Sst.win; rw [List.length_take]; omega
      have hpl : 4 * n5 ≤ p.length := by
        have h1 := encs_four l
        have h2 := (dents_part HD.out).eq
        rw [List.append_nil] at h2
        rw [h2, ← hn5]
        exact h1
      have hnk : k + nn ≤ A ∧ nn ≤ 1000000 ∧ 5 ≤ nn ∧ n5 ≤ 1000000 := by omega
      have HN5 := Lib.hid hn5
      have HNK := Lib.hid hnk
      have tn5 : decide (0 < n5) = true := decide_eq_true hn5p
      clear hlne hn5 hpp hwl hpl HCS
      obtain ⟨lo, hlo⟩ : ∃ lo : Nat, lo = n0 - 1 := ⟨_, rfl⟩
      obtain ⟨z, hz⟩ : ∃ z, IntKind.i64.wrap ((n0 : Int) - 1) = z := ⟨_, rfl⟩
      have hzz : (if z < 0 then (0 : Int) else z) = (lo : Int) := by rw [← hz, IntKind.wrap_i64]; split <;> omega
      have hcl := HE.out.e.cap.1
      have hslT : ∀ W, (Instr.slice 30 (.slice al n0 cl) (some (.int .i64 (lo : Int))) (some (.int .i64 (n0 : Int))) (some (.int .i64 (n0 : Int)))).run Tryz.prog W = .ok (.slice (subAn al n0 lo 4) (n0 - lo) (n0 - lo)) W := fun W => slice_E3 al n0 cl rfl rfl rfl (by omega) (Nat.le_refl _) hcl W
      have HTL : Hid (∀ W, Below wr.heap.size wr W → Es W (subAn al n0 lo 4) (n0 - lo) (n0 - lo) (Ent.tl L)) := Lib.hid (fun W hb => by
        have h1 := (HE.out.below hb).e.es.part (lo := lo) (hi := n0) (mx := n0) (by omega) (Nat.le_refl _) (Nat.le_refl _) hcl
        rw [List.take_of_length_le (by rw [HN0.out]; exact Nat.le_refl _)] at h1
        unfold Ent.tl
        rw [HN0.out, ← hlo]
        exact h1)
      obtain ⟨aT, haT⟩ : ∃ aT, subAn al n0 lo 4 = aT := ⟨_, rfl⟩
      obtain ⟨nT, hnT⟩ : ∃ nT, n0 - lo = nT := ⟨_, rfl⟩
      have hnT1 : nT ≤ 1 := by omega
      rw [haT, hnT] at hslT HTL
      clear haT hnT hcl hlo
      have d0 : w5.drew.cell? ⟨bt, 0, none⟩ = some (.slice al n0 cl) := cell_later HB6.out c0
      have HL6 := Lib.hid (HL5.out.below HBD5.out)
      refine wp_region_steps [32, 33] 32 32 (by kernel_rfl) (by kernel_rfl) rfl (fun W' => ∃ V : BW w5.drew, W' = V.w) ?_
      generalize w5.drew = w6 at *
      clear HBD5
      have d0' := BW.cell d0
      refine anyT_pull [0, 1, 2, 3, 4, 5, 6, 7, 8, 9, 10, 11, 12, 13, 14, 15, 16, 17, 18, 19, 20, 21, 22, 23, 24, 25, 26, 27, 28, 29] 32 2 (by intro c a d v w h; cases d <;> exact h) (by kernel_rfl) ⟨⟨w6, Below.refl _ _⟩, rfl⟩ ?_
      simp only [opsAt, List.filterMap_cons, List.filterMap_nil, List.getElem?_cons_zero, List.getElem?_cons_succ]
      iterate 30
        apply held_step
        · kernel_rfl
        · rintro _ ⟨V, rfl⟩
          go_simp
          rfl
      refine held_nil ?_
      clear d0'
      apply anyT_one 30
      · rfl
      · kernel_rfl
      · kernel_rfl
      intro K hK
      refine step_app_full (aq := aT) (n := nT) (ax := a5) (m := n5) (cx := c5) (.tmp 116) (.tmp 117) rfl (by kernel_rfl) (HTL.out _ HB6.out) (by kernel_rfl) HL6.out.e.es (by omega) ?_
      intro a7 c7 w7 h7 hb7
      have HA7 := Lib.hid h7
      have HB7 := Lib.hid hb7
      refine hK _ _ ⟨⟨w7, hb7⟩, rfl⟩ ?_
      clear hK h7 hb7
      apply anyT_one 31
      · rfl
      · kernel_rfl
      · kernel_rfl
      intro K hK
      go_simp
      refine (mright_any a7 (nT + n5) c7 _ w7 HA7.out).mono ?_
      rintro en w8 ⟨rfl, hb8⟩
      rw [Ent.right_tl HI.out.right]
      have HB8 := Lib.hid (HB7.out.trans (hb8.mono HB7.out.size))
      refine hK _ _ ⟨⟨w8, HB8.out⟩, rfl⟩ ?_
      clear hK hb8 HA7 HB7
      refine anyT_done (by kernel_rfl) ?_
      simp only [opsAt, List.filterMap_cons, List.filterMap_nil, List.getElem?_cons_zero, List.getElem?_cons_succ]
      have HW8 := Lib.hid (HBW6.out.trans (HB8.out.mono HBW6.out.size))
      cases hrt : Ent.rightB (L ++ l) with
      | false => exact (var_err HVV.out (by decide) (HS.out.bad3 hkl (by rw [HFR.out]; exact HD.out) (.inr hrt))).elim
      | true =>
      have HST := Lib.hid (HS.out.next hkl HFR.out HD.out HLN.out hrt)
      have HIN := Lib.hid (HI.out.next (by omega) hkl HFR.out HD.out HLN.out hrt)
      clear hrt
      have HL8 := Lib.hid (HL6.out.below HB8.out)
      have HX8 := Lib.hid (HB6.out.trans (HB8.out.mono HB6.out.size))
      have HT8 := Lib.hid ((HX8.out.block _ HBTr.out).trans HT.out)
      have HE8 := Lib.hid (HE.out.below HX8.out)
      have HK8 := Lib.hid (HK.out.below HX8.out)
      have HSZ8 : Hid (bt + 1 ≤ w8.heap.size) := Lib.hid (by have := HX8.out.size; have := HBTr.out; omega)
      obtain ⟨b5, o5, a5', d5', e5, he5, _⟩ := HL8.out.e.es.vals (i := 0) hn5p
      have hk5 : w8.cell? ⟨b5, o5, none⟩ = some (.string (bstr (nth l 0).key)) := by simpa using he5.key
      have HE5 := Lib.hid e5
      clear he5
      subst e5
      obtain ⟨key0, hkey0⟩ : ∃ key0, (nth l 0).key = key0 := ⟨_, rfl⟩
      rw [hkey0] at hk5 HST HIN
      clear hkey0
      obtain ⟨c0, c1, c2, cf⟩ := cells3 HT8.out
      clear HB8 HL6 HB6 HBW6 HL5 HB5 HBW5 HP4 HB4 HBW4
      go_upto_region 17 with fail
      go_wp2_with (first
        | (at_builtin; refine app_cel celB rfl _ _ 90 93 rfl Tryz.underlying90 infoBk rfl (by decide) (by decide) (bt + 1) rfl (HK8.out.below (below_alloc1 w8 _)) (e := ⟨key0, k, nn⟩) rfl (bk_box (by first | rfl | simp) ⟨key0, k, nn⟩) (by omega) (le_alloc HSZ8.out) ?_; intro a9 c9 w9 h9 hb9 hev9; have HA9 := Lib.hid h9; have HB9 : Hid (Below (bt + 1) w8 w9) := Lib.hid (((below_alloc1 w8 _).mono HSZ8.out).trans hb9); have HT9 := Lib.hid ((HB9.out.block _ (Nat.lt_succ_self _)).trans HT8.out); have HL9 := Lib.hid ((HL8.out.below (below_alloc1 w8 _)).evol (HK8.out.below (below_alloc1 w8 _)).2 (by decide) (by decide) hev9); have HE9 := Lib.hid ((HE8.out.below (below_alloc1 w8 _)).evol (HK8.out.below (below_alloc1 w8 _)).2 (by decide) (by decide) hev9); obtain ⟨p0, p1, p2, pf⟩ := cells3 HT9.out; clear h9 hb9 hev9 c0 c1 c2 cf)
        | (at_builtin; refine app_entsV rfl _ _ rfl (bt + 1) rfl HE9.out rfl HL9.out (by omega) (Nat.le_trans HSZ8.out HB9.out.size) ?_; intro a10 c10 w10 h10 hb10 hev10; have HA10 := Lib.hid h10; have HB10 := Lib.hid hb10; have HT10 := Lib.hid ((hb10.block _ (Nat.lt_succ_self _)).trans HT9.out); have HK10 : Hid (Acc celB 93 w10 (bt + 1) a9 (m0 + 1) c9 _) := Lib.hid ⟨HA9.out.1, town_evol HA9.out.2 (HE9.out.row.choose_spec.1) (by decide) hev10⟩; obtain ⟨q0, q1, q2, qf⟩ := cells3 HT10.out; clear h10 hb10 hev10 p0 p1 p2 pf))
      have HS' := Lib.hid (oth_setAt w10 bt 0 (.slice a10 (n0 + n5) c10))
      have HTS := Lib.hid (heap_set (j := 0) (v := .slice a10 (n0 + n5) c10) HT10.out)
      have HAS := Lib.hid (HA10.out.oth HS'.out HT10.out (by decide) (by decide))
      have HCS : Hid (Acc celB 93 (w10.setCell ⟨bt, 0, none⟩ (.slice a10 (n0 + n5) c10)) (bt + 1) a9 (m0 + 1) c9 _) := Lib.hid ⟨HK10.out.1, own_lowOth HK10.out.2 HS'.out (by omega)⟩
      have HWX : Hid (Below w.heap.size w w10) := Lib.hid (HW8.out.trans ((HB9.out.trans HB10.out).mono (by have := HWB.out; omega)))
      have HWS : Hid (Below w.heap.size w (w10.setCell ⟨bt, 0, none⟩ (.slice a10 (n0 + n5) c10))) := Lib.hid (HWX.out.trans (HS'.out.below HWX.out.size (fun x hx => by cases hx; exact HWB.out)))
      generalize w10.setCell ⟨bt, 0, none⟩ (.slice a10 (n0 + n5) c10) = w11 at *
      go_roundw
      case rel => exact ⟨k + nn, L ++ l, bl ++ [⟨key0, k, nn⟩], a9, a10, m0 + 1, c9, n0 + n5, c10, rfl, by go_num, HNK.out.1, Lib.hid (by rw [List.length_append, HN0.out, HN5.out]), Lib.hid (by rw [List.length_append, HM0.out]; rfl), HTS, HAS, HCS, HWS, HIN, HST⟩
      case measure => have := HNK.out; simp [intOf]; omega
end Go.Proofs.YtjigfinpbdglnaaGreatDoor
