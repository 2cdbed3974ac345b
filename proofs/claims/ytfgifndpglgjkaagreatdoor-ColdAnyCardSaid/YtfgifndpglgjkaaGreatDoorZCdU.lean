/- Cold stripes: ColdOwn, walked. -/
import Derived.Test.YtfgifndpglgjkaaGreatDoorZCdT
set_option linter.unusedVariables false
set_option linter.unusedSimpArgs false
set_option maxRecDepth 100000
set_option linter.unusedVariables false
set_option linter.unusedSimpArgs false
namespace Go.Proofs.YtfgifndpglgjkaaGreatDoor
open Go.RowKit

theorem Cd.PAt.of_heap {w : World} {b : Nat} {q : Cd.Full} {an : Option Addr} {nn cn : Nat} (h : w.heap[b]? = some (.cells (Cd.pcells q an nn cn) 31 (0, 0))) : Cd.PAt w b q an nn cn :=
  ⟨(cell_of_row _ _ 0 _ _ _ h).trans rfl, (cell_of_row _ _ 1 _ _ _ h).trans rfl, (cell_of_row _ _ 2 _ _ _ h).trans rfl, (cell_of_row _ _ 3 _ _ _ h).trans rfl, (cell_of_row _ _ 4 _ _ _ h).trans rfl, (cell_of_row _ _ 5 _ _ _ h).trans rfl, (cell_of_row _ _ 6 _ _ _ h).trans rfl, (cell_of_row _ _ 7 _ _ _ h).trans rfl, (cell_of_row _ _ 8 _ _ _ h).trans rfl⟩
/-- Nodes in turn. -/
def Cd.nds (k : Nat) : List Int := (List.range k).map fun i => Int.ofNat (i % 16)
theorem nds_next (k : Nat) : Cd.nds (k + 1) = Cd.nds k ++ [Int.ofNat (k % 16)] := by
  unfold Cd.nds
  rw [List.range_succ, List.map_append]
  rfl
theorem nds_all (k : Nat) : (Cd.nds k).all Cd.node = true := by
  rw [List.all_eq_true]
  intro x hx
  obtain ⟨j, _, rfl⟩ := List.mem_map.1 hx
  unfold Cd.node
  have h1 : (0 : Int) ≤ Int.ofNat (j % 16) := by show (0 : Int) ≤ ((j % 16 : Nat) : Int); omega
  have h2 : Int.ofNat (j % 16) < 16 := by show ((j % 16 : Nat) : Int) < 16; omega
  rw [decide_eq_true h1, decide_eq_true h2]
  rfl
theorem u32_next (s : UInt32) : s + 1 ≠ s := by
  intro h
  have h1 := congrArg UInt32.toNat h
  rw [UInt32.toNat_add] at h1
  have h2 := s.toNat_lt
  have h3 : (1 : UInt32).toNat = 1 := rfl
  omega
theorem u32_mod (s : UInt32) : (n32 s + 1) % 4294967296 = n32 (s + 1) := by
  have h3 : (1 : UInt32).toNat = 1 := rfl
  unfold n32
  rw [UInt32.toNat_add, h3]
  omega
theorem u32_wrap (s : UInt32) : IntKind.u32.wrap (n32 s + 1) = n32 (s + 1) := by
  rw [IntKind.wrap_u32]
  exact u32_mod s
set_option maxHeartbeats 16000000 in
theorem coldOwn_walk (ad : Option Addr) (nd cd : Nat) (d : List UInt8) (k m idx oth what : Int) (w : World) (hd : Bs w ad nd cd d) (hk : I64 k) (hm : I64 m) (hi : I64 idx) (ho : I64 oth) (hw : I64 what) (hc : Cst w) :
    Calls Tryz.prog 4 #[.slice ad nd cd, .int .i64 k, .int .i64 m, .int .i64 idx, .int .i64 oth, .int .i64 what] w fun e w' => e = .returned (.bool true) ∧ Below w.heap.size w w' := by
  have hle := hd.le.1
  have HDD : Hid (∀ W, Below w.heap.size w W → Bs W ad nd cd d) := Lib.hid fun W k => hd.below k
  have HDL := Lib.hid hd.1
  have HC := Lib.hid hc
  have HOO := Lib.hid ho
  have HKN := Lib.hid (known_any w hc)
  obtain ⟨hk1, hk2⟩ := hk
  obtain ⟨hm1, hm2⟩ := hm
  obtain ⟨hi1, hi2⟩ := hi
  obtain ⟨hw1, hw2⟩ := hw
  clear hd hc ho
  go_enter Tryz.func4, Tryz.ntmps4
  go_wp2_with fail
  refine HKN.out.mono ?_
  rintro e w1 ⟨rfl, hb1⟩
  have HB1 := Lib.hid hb1
  clear hb1 HKN
  by_cases x0 : k < 1
  · have t0 : decide (k < (1 : Int)) = true := decide_eq_true (by omega)
    go_wp2
    go_ret
    exact ⟨rfl, HB1.out⟩
  have t0 : decide (k < (1 : Int)) = false := decide_eq_false (by omega)
  by_cases x1 : m < 0
  · have t1 : decide (m < (0 : Int)) = true := decide_eq_true (by omega)
    go_wp2
    go_ret
    exact ⟨rfl, HB1.out⟩
  have t1 : decide (m < (0 : Int)) = false := decide_eq_false (by omega)
  by_cases x2 : 8 < k
  · have t2 : decide ((8 : Int) < k) = true := decide_eq_true (by omega)
    go_wp2
    go_ret
    exact ⟨rfl, HB1.out⟩
  have t2 : decide ((8 : Int) < k) = false := decide_eq_false (by omega)
  by_cases x3 : 6 < m
  · have t3 : decide ((6 : Int) < m) = true := decide_eq_true (by omega)
    go_wp2
    go_ret
    exact ⟨rfl, HB1.out⟩
  have t3 : decide ((6 : Int) < m) = false := decide_eq_false (by omega)
  by_cases x4 : 1000 < nd
  · have t4 : decide ((1000 : Int) < (nd : Int)) = true := decide_eq_true (by omega)
    have t4b : decide (1000 < nd) = true := decide_eq_true x4
    go_wp2
    go_ret
    exact ⟨rfl, HB1.out⟩
  have t4 : decide ((1000 : Int) < (nd : Int)) = false := decide_eq_false (by omega)
  have t4b : decide (1000 < nd) = false := decide_eq_false x4
  obtain ⟨K, rfl⟩ : ∃ K : Nat, k = (K : Int) := ⟨k.toNat, by omega⟩
  obtain ⟨M, rfl⟩ : ∃ M : Nat, m = (M : Int) := ⟨m.toNat, by omega⟩
  have hK1 : 1 ≤ K := by omega
  have hK8 : K ≤ 8 := by omega
  have hM6 : M ≤ 6 := by omega
  have hn1000 : nd ≤ 1000 := by omega
  obtain ⟨n, hn⟩ : ∃ n, n = K + M := ⟨_, rfl⟩
  have hn14 : n ≤ 14 := by omega
  have hn0 : 0 < n := by omega
  have HN := Lib.hid hn
  have eKM : (K : Int) + (M : Int) = (n : Int) := by omega
  clear hn hk1 hk2 hm1 hm2
  go_upto_region 7 with fail
  clear x0 x1 x2 x3 x4 t0 t1 t2 t3 t4 t4b
  go_loopw [13, 14] (fun av iv wr => ∃ (j : Nat) (a : Option Addr) (c : Nat), j ≤ n ∧ iv = .int .i64 j ∧ av = .slice a j c ∧ Hid (AccI wr w1.heap.size a j c (Cd.nds j)) ∧ Hid (Below w1.heap.size w1 wr)) (fun _ iv _ => n - (intOf iv).toNat)
  case atStart => exact ⟨0, none, 0, by omega, rfl, rfl, Lib.hid (AccI.nil _ _), Lib.hid (Below.refl _ _)⟩
  case round =>
  obtain ⟨j, a, c, hj, rfl, rfl, HA, HB⟩ := hrel
  by_cases hlt : j < n
  · have t1 : decide ((j : Int) < (n : Int)) = true := decide_eq_true (by omega)
    have t2 : decide (j < n) = true := decide_eq_true hlt
    obtain ⟨r, hr⟩ : ∃ r, r = j % 16 := ⟨_, rfl⟩
    have e1 : (j : Int) % 16 = (r : Int) := by omega
    have e2 : Int.tmod (j : Int) 16 = (r : Int) := by rw [Int.tmod_eq_emod_of_nonneg (by omega)]; omega
    have hrb : I64 (r : Int) := ⟨by omega, by omega⟩
    have HRB := Lib.hid hrb
    have HNX : Hid (Cd.nds (j + 1) = Cd.nds j ++ [(r : Int)]) := Lib.hid (by rw [nds_next, hr]; rfl)
    have HA5 := Lib.hid (HA.out.below (below_alloc1 wr (.cells #[.int .i64 r] 3)))
    have HB5 := Lib.hid (HB.out.trans ((below_alloc1 wr (.cells #[.int .i64 r] 3)).mono HB.out.size))
    have HC5 : Hid ((wr.alloc (.cells #[.int .i64 r] 3)).cell? ⟨wr.heap.size, 0, none⟩ = some (.int .i64 (r : Int))) := Lib.hid ((cell_of_row _ _ 0 _ _ _ (heap_alloc_new wr (.cells #[.int .i64 r] 3))).trans rfl)
    clear hr hrb
    go_upto_region 9 with fail
    go_wp2_with (at_builtin; refine app_i rfl _ _ rfl rfl HA5.out HRB.out rfl HC5.out (by omega) HB5.out.size ?_; intro a9 c9 w9 h9 hb9 hev9; have HB9 := Lib.hid (HB5.out.trans hb9); rw [← HNX.out] at h9; have HA9 := Lib.hid h9; clear h9 hb9 hev9)
    go_roundw
    case rel => exact ⟨j + 1, a9, c9, by omega, by go_num, rfl, HA9, HB9⟩
    case measure => simp [intOf]; omega
  obtain rfl : j = n := by omega
  have t1 : decide ((j : Int) < (j : Int)) = false := decide_eq_false (by omega)
  have t2 : decide (j < j) = false := decide_eq_false (by omega)
  generalize hjn : j = n at *
  clear hjn hlt hj
  have HBR := Lib.hid (HB1.out.trans (HB.out.mono HB1.out.size))
  have HAI := Lib.hid HA.out.is
  have hpt := point_yes [98] [107] 5 K M ad nd cd d a n c (Cd.nds n) wr (HDD.out wr HBR.out) HAI.out (by omega) hK1 (by omega) HN.out (nds_all n)
  have hft : Cd.Fit (Cd.mk [98] [107] 5 K M nd d (Cd.nds n)) K M nd := by
    have h := mk_fit (bk := [98]) (key := [107]) (v := 5) (K := K) (M := M) (d := d) (l := Cd.nds n) ⟨by omega⟩ hK1 (by omega) (by rw [HDL.out]; omega)
    rw [HDL.out] at h
    exact h
  have hq5 : (Cd.mk [98] [107] 5 K M nd d (Cd.nds n)).p.stripe = 5 := rfl
  have hqs : (Cd.mk [98] [107] 5 K M nd d (Cd.nds n)).p.sum = Codec.sum d := rfl
  have HFIT := Lib.hid hft
  have HQ5 := Lib.hid hq5
  have HQS := Lib.hid hqs
  have HQL : Hid ((Cd.mk [98] [107] 5 K M nd d (Cd.nds n)).p.stripe < 18446744073709551616) := Lib.hid (by rw [hq5]; omega)
  have HPT := Lib.hid hpt
  clear hpt hft hq5 hqs HA
  generalize Cd.mk [98] [107] 5 K M nd d (Cd.nds n) = q at *
  unfold Cd.hv at HPT
  go_wp2_with fail
  refine HPT.out.mono ?_
  rintro e w3 ⟨a3, c3, rfl, ha3, hb3⟩
  have HB3 := Lib.hid (HBR.out.trans (hb3.mono HBR.out.size))
  have HA3 := Lib.hid ha3
  clear ha3 hb3 HPT t1 t2 HB
  unfold Cd.pv
  go_upto_region 11 with fail
  have hb4 := below_alloc1 w3 (.cells (Cd.pcells q a3 n c3) 31)
  have hp4 := Cd.PAt.new w3 q a3 n c3
  unfold Cd.pcells at hb4 hp4
  generalize w3.alloc (.cells #[.string (bstr q.bucket), .string (bstr q.key), .int .u64 q.version, .int .u64 q.p.stripe, .int .i64 q.p.K, .int .i64 q.p.M, .int .i64 q.p.size, .int .u32 (n32 q.p.sum), .slice a3 n c3] 31) = w4 at *
  have HB4 := Lib.hid (HB3.out.trans (hb4.mono HB3.out.size))
  have HP4 := Lib.hid hp4
  have HI4 := Lib.hid (HA3.out.below hb4).is
  generalize hbx : w3.heap.size = bx at *
  clear hb4 hbx HA3 HAI
  have hp := hp4
  have c0 := hp.c0
  have c1 := hp.c1
  have c2 := hp.c2
  have c3' := hp.c3
  have c4 := hp.c4
  have c5 := hp.c5
  have c6 := hp.c6
  have c7 := hp.c7
  have c8 := hp.c8
  clear hp hp4
  have HSH := Lib.hid (cshards_yes q a3 n c3 K M ad nd cd d w4 (HC.out.below HB4.out) HFIT.out HI4.out (HDD.out w4 HB4.out) HN.out HQS.out)
  unfold Cd.pv at HSH
  go_wp2_with fail
  refine HSH.out.mono ?_
  rintro e w5 ⟨a5, c5', rfl, ha5, hb5⟩
  have HB5 := Lib.hid (HB4.out.trans (hb5.mono HB4.out.size))
  have HP5 := Lib.hid (HP4.out.below hb5)
  clear c0 c1 c2 c3' c4 c5 c6 c7 c8 hb5 HSH HI4
  obtain ⟨g, rfl, _, hat⟩ := ha5.at0 hn0
  have HAT := Lib.hid hat
  clear hat ha5
  obtain ⟨T, hT⟩ : ∃ T, T = Int.tmod idx (n : Int) := ⟨_, rfl⟩
  have hTb : -(n : Int) < T ∧ T < (n : Int) := by
    rw [hT]
    have h1 := Int.tmod_lt_of_pos idx (b := (n : Int)) (by omega)
    have h2 := Int.lt_tmod_of_pos idx (b := (n : Int)) (by omega)
    exact ⟨h2, h1⟩
  have hTT := hT.symm
  have z1 : ((n : Int) == 0) = false := by rw [beq_eq_false_iff_ne]; omega
  have z2 : ¬ (n : Int) = 0 := by omega
  clear hT
  go_upto_if 86 with fail
  go_cut [19] (fun v wx => ∃ i : Nat, i < n ∧ v = .int .i64 i ∧ wx = w5)
  case first =>
    by_cases hneg : T < 0
    · have s1 : decide (T < 0) = true := decide_eq_true hneg
      go_wp2
      go_meet
      exact ⟨(-T).toNat, by omega, by rw [show (((-T).toNat : Nat) : Int) = -T by omega], rfl⟩
    · have s1 : decide (T < 0) = false := decide_eq_false hneg
      go_wp2
      go_meet
      exact ⟨T.toNat, by omega, by rw [show ((T.toNat : Nat) : Int) = T by omega], rfl⟩
  case rest =>
  clear hTT hTb z1 z2
  rename_i wd
  obtain ⟨i, hin, rfl, hwx⟩ := hcut
  obtain rfl := hwx.symm
  clear hwx
  obtain ⟨fa, fc, hcs, hof⟩ := HAT.out i hin
  rw [shs_at (by rw [rall_len, ← HN.out]; exact hin)] at hcs hof
  have p4 := hcs 3 _ rfl
  simp only [belS, Cd.sh] at p4 hof
  clear hcs HAT
  have HSZ : Hid ((nth (Rs.all K M d) i).length = Rs.wd K nd) := Lib.hid (by rw [rall_row d (by rw [← HN.out]; exact hin), HDL.out])
  have HWD : Hid (1 ≤ Rs.wd K nd ∧ Rs.wd K nd ≤ 1100) := Lib.hid ⟨wd_pos K nd, by have := rwd_le K nd; omega⟩
  have HRD : Hid (Cd.rd q.p (Rs.wd K nd) (i : Int) (Cd.file q.p (i : Int) (nth (Rs.all K M d) i)) = (nth (Rs.all K M d) i, 0)) := Lib.hid (Cd.rd_file HQL.out (by rw [HSZ.out]; have := HWD.out.2; omega) HSZ.out)
  have HFL : Hid (∀ (p' : Cd.Ptr) (j : Int) (W : Nat), p'.stripe < 18446744073709551616 → ¬ (p'.stripe = q.p.stripe ∧ Cd.u j = Cd.u (i : Int) ∧ Cd.u p'.K = Cd.u q.p.K ∧ Cd.u p'.M = Cd.u q.p.M ∧ Cd.u p'.size = Cd.u q.p.size ∧ p'.sum = q.p.sum) → (Cd.rd p' W j (Cd.file q.p (i : Int) (nth (Rs.all K M d) i))).2 ≠ 0) := Lib.hid fun p' j W h1 h2 => Cd.rd_other HQL.out h1 (by rw [HSZ.out]; have := HWD.out.2; omega) h2
  have HFE : Hid ((Cd.file q.p (i : Int) (nth (Rs.all K M d) i)).length ≤ 2000) := Lib.hid (by
    have h1 := file_len q.p (i : Int) (nth (Rs.all K M d) i) HQL.out (by rw [HSZ.out]; have := HWD.out.2; omega)
    rw [HSZ.out] at h1
    have := HWD.out.2
    omega)
  generalize Cd.file q.p (i : Int) (nth (Rs.all K M d) i) = fl at *
  generalize nth (Rs.all K M d) i = sx at *
  obtain ⟨fn, hfn⟩ : ∃ fn, fn = fl.length := ⟨_, rfl⟩
  rw [← hfn] at p4 hof HFE
  have hfb := HFE.out
  have HPC5 := Lib.hid p4
  have HO5 := Lib.hid hof
  clear p4 hof hfn HFE
  go_upto_region 17 with fail
  refine wp_region_steps [12] 12 12 (by kernel_rfl) (by kernel_rfl) rfl (fun W' => ∃ V : BW w5, W' = V.w) ?_
  have HBD : Hid (Below w5.heap.size w5 w5.drew) := Lib.hid (Below.refl _ _).drew
  generalize w5.drew = wD at *
  refine anyT_pull [0, 1, 2, 3, 4, 5, 6] 12 5 (by intro c a d v w h; cases d <;> exact h) (by kernel_rfl) ⟨⟨_, HBD.out⟩, rfl⟩ ?_
  simp only [opsAt, List.filterMap_cons, List.filterMap_nil, List.getElem?_cons_zero, List.getElem?_cons_succ]
  iterate 7
    apply held_step
    · kernel_rfl
    · rintro _ ⟨V, rfl⟩
      have hp := HP5.out.below V.b
      have c0 := hp.c0
      have c1 := hp.c1
      have c2 := hp.c2
      have c3 := hp.c3
      have c4 := hp.c4
      have c5 := hp.c5
      have c6 := hp.c6
      have c7 := hp.c7
      have c8 := hp.c8
      have e4 := cell_later V.b HPC5.out
      go_simp
      rfl
  refine held_nil ?_
  apply anyT_one 7
  · rfl
  · kernel_rfl
  · kernel_rfl
  intro K' hK
  go_simp
  have hrf := readfile_any q a3 n c3 K M nd (i : Int) fa fn fc fl wD (HO5.out.below HBD.out).bs HFIT.out ⟨by omega, by omega⟩ (by omega)
  rw [HRD.out] at hrf
  unfold Cd.pv at hrf
  refine hrf.mono ?_
  rintro e w6 ⟨a6, n6, k6, rfl, ho6, hb6⟩
  dsimp only at ho6 ⊢
  have hn6 : 1 ≤ n6 := by have h1 := ho6.bs.1; have h2 := HSZ.out; have h3 := HWD.out; omega
  have HB6 := Lib.hid (HBD.out.trans (hb6.mono HBD.out.size))
  refine hK _ _ ⟨⟨_, HB6.out⟩, rfl⟩ ?_
  clear hK hrf ho6 hb6
  refine anyT_pull [8, 9, 10] 12 1 (by intro c a d v w h; cases d <;> exact h) (by kernel_rfl) ⟨⟨_, HB6.out⟩, rfl⟩ ?_
  simp only [opsAt, List.filterMap_cons, List.filterMap_nil, List.getElem?_cons_zero, List.getElem?_cons_succ]
  iterate 3
    apply held_step
    · kernel_rfl
    · rintro _ ⟨V, rfl⟩
      go_simp
      rfl
  refine held_nil ?_
  apply anyT_one 11
  · rfl
  · kernel_rfl
  · kernel_rfl
  intro K' hK
  go_simp
  refine hK _ _ ⟨⟨_, HB6.out⟩, rfl⟩ ?_
  clear hK
  refine anyT_done (by kernel_rfl) ?_
  simp only [opsAt, List.filterMap_cons, List.filterMap_nil, List.getElem?_cons_zero, List.getElem?_cons_succ]
  have HBW := Lib.hid (HB5.out.trans (HB6.out.mono HB5.out.size))
  have HP6 := Lib.hid (HP5.out.below HB6.out)
  have HPC := Lib.hid (cell_later HB6.out HPC5.out)
  have HO6 := Lib.hid (HO5.out.below HB6.out)
  have HX6 := Lib.hid HBW.out.size
  clear HPC5 HO5 HSZ HWD HRD HB6 HB5
  have u1 : ((n6 : Int) == 0) = false := by rw [beq_eq_false_iff_ne]; omega
  go_upto_region 20 with fail
  clear u1
  have hp := HP6.out
  have c0 := hp.c0
  have c1 := hp.c1
  have c2 := hp.c2
  have c3' := hp.c3
  have c4 := hp.c4
  have c5 := hp.c5
  have c6 := hp.c6
  have c7 := hp.c7
  have c8 := hp.c8
  clear hp
  go_upto_region 22 with fail
  have hh7 := heap_alloc_new w6 (.cells (Cd.pcells q a3 n c3) 31)
  have hb7 := below_alloc1 w6 (.cells (Cd.pcells q a3 n c3) 31)
  obtain ⟨b7, hb7e⟩ : ∃ b7, b7 = w6.heap.size := ⟨_, rfl⟩
  unfold Cd.pcells at hh7 hb7
  generalize w6.alloc (.cells #[.string (bstr q.bucket), .string (bstr q.key), .int .u64 q.version, .int .u64 q.p.stripe, .int .i64 q.p.K, .int .i64 q.p.M, .int .i64 q.p.size, .int .u32 (n32 q.p.sum), .slice a3 n c3] 31) = w7 at *
  rw [← hb7e] at hh7 hb7 HX6 ⊢
  have HS7 := Lib.hid hb7e
  have HH7 : Hid (w7.heap[b7]? = some (.cells (Cd.pcells q a3 n c3) 31 (0, 0))) := Lib.hid hh7
  have HB7 := Lib.hid hb7
  clear c0 c1 c2 c3' c4 c5 c6 c7 c8 hb7e hb7
  obtain ⟨c0, c1, c2, c3', c4, c5, c6, c7, c8, kf⟩ := cells9 hh7
  clear hh7
  obtain ⟨t, ht⟩ : ∃ t, t = Int.tmod what 5 := ⟨_, rfl⟩
  have htt := ht.symm
  clear ht
  by_cases ht1 : t = 1
  · subst ht1
    have HQ' : Hid (Cd.pcells q a3 n c3 = #[.string (bstr q.bucket), .string (bstr q.key), .int .u64 q.version, .int .u64 q.p.stripe, .int .i64 q.p.K, .int .i64 q.p.M, .int .i64 q.p.size, .int .u32 (n32 q.p.sum), .slice a3 n c3]) := Lib.hid rfl
    rw [HQ5.out] at c3'
    obtain ⟨q', hq'⟩ : ∃ q', q' = (⟨q.bucket, q.key, q.version, ⟨6, q.p.K, q.p.M, q.p.size, q.p.sum⟩, q.nodes⟩ : Cd.Full) := ⟨_, rfl⟩
    have hf' : Cd.Fit q' K M nd := by
      subst hq'
      exact ⟨⟨HFIT.out.ok.v, ⟨by show 6 < _; omega⟩, HFIT.out.ok.k, HFIT.out.ok.m, HFIT.out.ok.z⟩, HFIT.out.k, HFIT.out.m, HFIT.out.n, HFIT.out.k1, HFIT.out.km, by omega⟩
    have hne : (Cd.rd q'.p (Rs.wd K nd) (i : Int) fl).2 ≠ 0 := by
      have h9 := HFL.out q'.p (i : Int) (Rs.wd K nd) (by subst hq'; show 6 < _; omega) (by subst hq'; intro h; have h1 := h.1; rw [HQ5.out] at h1; have h2 : (6 : Nat) = 5 := h1; omega)
      exact h9
    have h8 := heap_setC (j := 3) (v := .int .u64 6) HH7.out
    have hp8 : Cd.PAt (w7.setCell ⟨b7, 3, none⟩ (.int .u64 6)) b7 q' a3 n c3 := Cd.PAt.of_heap (by subst hq'; rw [h8]; rfl)
    have hb8 : Below b7 w6 (w7.setCell ⟨b7, 3, none⟩ (.int .u64 6)) := HB7.out.setCell (p := ⟨b7, 3, none⟩) (Nat.le_refl _) _
    have HFI := Lib.hid hf'
    clear h8 hf' hq'
    go_upto_region 34 with fail
    generalize w7.setCell ⟨b7, 3, none⟩ (.int .u64 6) = w8 at *
    have HP8 := Lib.hid hp8
    have HB8 := Lib.hid hb8
    have HPC8 := Lib.hid (cell_later (HS7.out ▸ HB8.out : Below w6.heap.size w6 w8) HPC.out)
    have HO8 := Lib.hid (HO6.out.below (HS7.out ▸ HB8.out : Below w6.heap.size w6 w8))
    clear hp8 hb8 c0 c1 c2 c3' c4 c5 c6 c7 c8 kf
    go_upto_region 34 with fail
    refine wp_region_steps [11] 11 11 (by kernel_rfl) (by kernel_rfl) rfl (fun W' => ∃ V : BW w8, W' = V.w) ?_
    have HBD : Hid (Below w8.heap.size w8 w8.drew) := Lib.hid (Below.refl _ _).drew
    generalize w8.drew = wD at *
    refine anyT_pull [0, 1, 2, 3, 4, 5, 6] 11 4 (by intro c a d v w h; cases d <;> exact h) (by kernel_rfl) ⟨⟨_, HBD.out⟩, rfl⟩ ?_
    simp only [opsAt, List.filterMap_cons, List.filterMap_nil, List.getElem?_cons_zero, List.getElem?_cons_succ]
    iterate 7
      apply held_step
      · kernel_rfl
      · rintro _ ⟨V, rfl⟩
        have hp := HP8.out.below V.b
        have c0 := hp.c0
        have c1 := hp.c1
        have c2 := hp.c2
        have c3 := hp.c3
        have c4 := hp.c4
        have c5 := hp.c5
        have c6 := hp.c6
        have c7 := hp.c7
        have c8 := hp.c8
        have e4 := cell_later V.b HPC8.out
        go_simp
        rfl
    refine held_nil ?_
    apply anyT_one 7
    · rfl
    · kernel_rfl
    · kernel_rfl
    intro K' hK
    go_simp
    have hrf := readfile_any q' a3 n c3 K M nd ((i : Int)) fa fn fc fl wD (HO8.out.below HBD.out).bs HFI.out ⟨by omega, by omega⟩ (by omega)
    have HNE := Lib.hid hne
    clear hne
    generalize Cd.rd q'.p (Rs.wd K nd) ((i : Int)) fl = R at *
    obtain ⟨r, er⟩ := R
    unfold Cd.pv at hrf
    refine hrf.mono ?_
    rintro e w9 ⟨a9, n9, k9, rfl, _, hb9⟩
    dsimp only at HNE ⊢
    have HB9 := Lib.hid (HBD.out.trans (hb9.mono HBD.out.size))
    refine hK _ _ ⟨⟨_, HB9.out⟩, rfl⟩ ?_
    clear hK hrf hb9
    have ter : ((er : Int) != 0) = true := by rw [bne_iff_ne]; have := HNE.out; omega
    refine anyT_pull [8, 9, 10] 11 0 (by intro c a d v w h; cases d <;> exact h) (by kernel_rfl) ⟨⟨_, HB9.out⟩, rfl⟩ ?_
    simp only [opsAt, List.filterMap_cons, List.filterMap_nil, List.getElem?_cons_zero, List.getElem?_cons_succ]
    iterate 3
      apply held_step
      · kernel_rfl
      · rintro _ ⟨V, rfl⟩
        go_simp
        rfl
    refine held_nil ?_
    refine anyT_done (by kernel_rfl) ?_
    simp only [opsAt, List.filterMap_cons, List.filterMap_nil, List.getElem?_cons_zero, List.getElem?_cons_succ]
    go_wp2
    go_ret
    exact ⟨rfl, HBW.out.trans ((HB8.out.mono HX6.out).trans (HB9.out.mono (by have h1 := HX6.out; have h2 := HB8.out.size; have h3 := HS7.out; omega)))⟩
  by_cases ht2 : t = 2
  · subst ht2
    have HQ' : Hid (Cd.pcells q a3 n c3 = #[.string (bstr q.bucket), .string (bstr q.key), .int .u64 q.version, .int .u64 q.p.stripe, .int .i64 q.p.K, .int .i64 q.p.M, .int .i64 q.p.size, .int .u32 (n32 q.p.sum), .slice a3 n c3]) := Lib.hid rfl
    have s1 := u32_wrap q.p.sum
    have s2 := u32_mod q.p.sum
    obtain ⟨q', hq'⟩ : ∃ q', q' = (⟨q.bucket, q.key, q.version, ⟨q.p.stripe, q.p.K, q.p.M, q.p.size, q.p.sum + 1⟩, q.nodes⟩ : Cd.Full) := ⟨_, rfl⟩
    have hf' : Cd.Fit q' K M nd := by
      subst hq'
      exact ⟨⟨HFIT.out.ok.v, HFIT.out.ok.s, HFIT.out.ok.k, HFIT.out.ok.m, HFIT.out.ok.z⟩, HFIT.out.k, HFIT.out.m, HFIT.out.n, HFIT.out.k1, HFIT.out.km, by omega⟩
    have hne : (Cd.rd q'.p (Rs.wd K nd) (i : Int) fl).2 ≠ 0 := by
      have h9 := HFL.out q'.p (i : Int) (Rs.wd K nd) (by subst hq'; exact HQL.out) (by subst hq'; intro h; exact u32_next _ h.2.2.2.2.2)
      exact h9
    have h8 := heap_setC (j := 7) (v := .int .u32 (n32 (q.p.sum + 1))) HH7.out
    have hp8 : Cd.PAt (w7.setCell ⟨b7, 7, none⟩ (.int .u32 (n32 (q.p.sum + 1)))) b7 q' a3 n c3 := Cd.PAt.of_heap (by subst hq'; rw [h8]; rfl)
    have hb8 : Below b7 w6 (w7.setCell ⟨b7, 7, none⟩ (.int .u32 (n32 (q.p.sum + 1)))) := HB7.out.setCell (p := ⟨b7, 7, none⟩) (Nat.le_refl _) _
    have HFI := Lib.hid hf'
    clear h8 hf' hq'
    go_upto_region 34 with fail
    generalize w7.setCell ⟨b7, 7, none⟩ (.int .u32 (n32 (q.p.sum + 1))) = w8 at *
    have HP8 := Lib.hid hp8
    have HB8 := Lib.hid hb8
    have HPC8 := Lib.hid (cell_later (HS7.out ▸ HB8.out : Below w6.heap.size w6 w8) HPC.out)
    have HO8 := Lib.hid (HO6.out.below (HS7.out ▸ HB8.out : Below w6.heap.size w6 w8))
    clear hp8 hb8 c0 c1 c2 c3' c4 c5 c6 c7 c8 kf
    go_upto_region 34 with fail
    refine wp_region_steps [11] 11 11 (by kernel_rfl) (by kernel_rfl) rfl (fun W' => ∃ V : BW w8, W' = V.w) ?_
    have HBD : Hid (Below w8.heap.size w8 w8.drew) := Lib.hid (Below.refl _ _).drew
    generalize w8.drew = wD at *
    refine anyT_pull [0, 1, 2, 3, 4, 5, 6] 11 4 (by intro c a d v w h; cases d <;> exact h) (by kernel_rfl) ⟨⟨_, HBD.out⟩, rfl⟩ ?_
    simp only [opsAt, List.filterMap_cons, List.filterMap_nil, List.getElem?_cons_zero, List.getElem?_cons_succ]
    iterate 7
      apply held_step
      · kernel_rfl
      · rintro _ ⟨V, rfl⟩
        have hp := HP8.out.below V.b
        have c0 := hp.c0
        have c1 := hp.c1
        have c2 := hp.c2
        have c3 := hp.c3
        have c4 := hp.c4
        have c5 := hp.c5
        have c6 := hp.c6
        have c7 := hp.c7
        have c8 := hp.c8
        have e4 := cell_later V.b HPC8.out
        go_simp
        rfl
    refine held_nil ?_
    apply anyT_one 7
    · rfl
    · kernel_rfl
    · kernel_rfl
    intro K' hK
    go_simp
    have hrf := readfile_any q' a3 n c3 K M nd ((i : Int)) fa fn fc fl wD (HO8.out.below HBD.out).bs HFI.out ⟨by omega, by omega⟩ (by omega)
    have HNE := Lib.hid hne
    clear hne
    generalize Cd.rd q'.p (Rs.wd K nd) ((i : Int)) fl = R at *
    obtain ⟨r, er⟩ := R
    unfold Cd.pv at hrf
    refine hrf.mono ?_
    rintro e w9 ⟨a9, n9, k9, rfl, _, hb9⟩
    dsimp only at HNE ⊢
    have HB9 := Lib.hid (HBD.out.trans (hb9.mono HBD.out.size))
    refine hK _ _ ⟨⟨_, HB9.out⟩, rfl⟩ ?_
    clear hK hrf hb9
    have ter : ((er : Int) != 0) = true := by rw [bne_iff_ne]; have := HNE.out; omega
    refine anyT_pull [8, 9, 10] 11 0 (by intro c a d v w h; cases d <;> exact h) (by kernel_rfl) ⟨⟨_, HB9.out⟩, rfl⟩ ?_
    simp only [opsAt, List.filterMap_cons, List.filterMap_nil, List.getElem?_cons_zero, List.getElem?_cons_succ]
    iterate 3
      apply held_step
      · kernel_rfl
      · rintro _ ⟨V, rfl⟩
        go_simp
        rfl
    refine held_nil ?_
    refine anyT_done (by kernel_rfl) ?_
    simp only [opsAt, List.filterMap_cons, List.filterMap_nil, List.getElem?_cons_zero, List.getElem?_cons_succ]
    go_wp2
    go_ret
    exact ⟨rfl, HBW.out.trans ((HB8.out.mono HX6.out).trans (HB9.out.mono (by have h1 := HX6.out; have h2 := HB8.out.size; have h3 := HS7.out; omega)))⟩
  by_cases ht3 : t = 3
  · subst ht3
    have HQ' : Hid (Cd.pcells q a3 n c3 = #[.string (bstr q.bucket), .string (bstr q.key), .int .u64 q.version, .int .u64 q.p.stripe, .int .i64 q.p.K, .int .i64 q.p.M, .int .i64 q.p.size, .int .u32 (n32 q.p.sum), .slice a3 n c3]) := Lib.hid rfl
    rw [HFIT.out.n] at c6
    have s1 : IntKind.i64.wrap ((nd : Int) + 1) = (nd : Int) + 1 := by rw [IntKind.wrap_i64]; omega
    obtain ⟨q', hq'⟩ : ∃ q', q' = (⟨q.bucket, q.key, q.version, ⟨q.p.stripe, q.p.K, q.p.M, (nd : Int) + 1, q.p.sum⟩, q.nodes⟩ : Cd.Full) := ⟨_, rfl⟩
    have hf' : Cd.Fit q' K M (nd + 1) := by
      subst hq'
      exact ⟨⟨HFIT.out.ok.v, HFIT.out.ok.s, HFIT.out.ok.k, HFIT.out.ok.m, ⟨by show _ ≤ (nd : Int) + 1; omega, by show (nd : Int) + 1 ≤ _; omega⟩⟩, HFIT.out.k, HFIT.out.m, by show (nd : Int) + 1 = ((nd + 1 : Nat) : Int); omega, HFIT.out.k1, HFIT.out.km, by omega⟩
    have hne : (Cd.rd q'.p (Rs.wd K (nd + 1)) (i : Int) fl).2 ≠ 0 := by
      have h9 := HFL.out q'.p (i : Int) (Rs.wd K (nd + 1)) (by subst hq'; exact HQL.out) (by subst hq'; intro h; have h1 := h.2.2.2.2.1; rw [HFIT.out.n] at h1; unfold Cd.u at h1; dsimp only at h1; omega)
      exact h9
    have h8 := heap_setC (j := 6) (v := .int .i64 ((nd : Int) + 1)) HH7.out
    have hp8 : Cd.PAt (w7.setCell ⟨b7, 6, none⟩ (.int .i64 ((nd : Int) + 1))) b7 q' a3 n c3 := Cd.PAt.of_heap (by subst hq'; rw [h8]; rfl)
    have hb8 : Below b7 w6 (w7.setCell ⟨b7, 6, none⟩ (.int .i64 ((nd : Int) + 1))) := HB7.out.setCell (p := ⟨b7, 6, none⟩) (Nat.le_refl _) _
    have HFI := Lib.hid hf'
    clear h8 hf' hq'
    go_upto_region 34 with fail
    generalize w7.setCell ⟨b7, 6, none⟩ (.int .i64 ((nd : Int) + 1)) = w8 at *
    have HP8 := Lib.hid hp8
    have HB8 := Lib.hid hb8
    have HPC8 := Lib.hid (cell_later (HS7.out ▸ HB8.out : Below w6.heap.size w6 w8) HPC.out)
    have HO8 := Lib.hid (HO6.out.below (HS7.out ▸ HB8.out : Below w6.heap.size w6 w8))
    clear hp8 hb8 c0 c1 c2 c3' c4 c5 c6 c7 c8 kf
    go_upto_region 34 with fail
    refine wp_region_steps [11] 11 11 (by kernel_rfl) (by kernel_rfl) rfl (fun W' => ∃ V : BW w8, W' = V.w) ?_
    have HBD : Hid (Below w8.heap.size w8 w8.drew) := Lib.hid (Below.refl _ _).drew
    generalize w8.drew = wD at *
    refine anyT_pull [0, 1, 2, 3, 4, 5, 6] 11 4 (by intro c a d v w h; cases d <;> exact h) (by kernel_rfl) ⟨⟨_, HBD.out⟩, rfl⟩ ?_
    simp only [opsAt, List.filterMap_cons, List.filterMap_nil, List.getElem?_cons_zero, List.getElem?_cons_succ]
    iterate 7
      apply held_step
      · kernel_rfl
      · rintro _ ⟨V, rfl⟩
        have hp := HP8.out.below V.b
        have c0 := hp.c0
        have c1 := hp.c1
        have c2 := hp.c2
        have c3 := hp.c3
        have c4 := hp.c4
        have c5 := hp.c5
        have c6 := hp.c6
        have c7 := hp.c7
        have c8 := hp.c8
        have e4 := cell_later V.b HPC8.out
        go_simp
        rfl
    refine held_nil ?_
    apply anyT_one 7
    · rfl
    · kernel_rfl
    · kernel_rfl
    intro K' hK
    go_simp
    have hrf := readfile_any q' a3 n c3 K M (nd + 1) ((i : Int)) fa fn fc fl wD (HO8.out.below HBD.out).bs HFI.out ⟨by omega, by omega⟩ (by omega)
    have HNE := Lib.hid hne
    clear hne
    generalize Cd.rd q'.p (Rs.wd K (nd + 1)) ((i : Int)) fl = R at *
    obtain ⟨r, er⟩ := R
    unfold Cd.pv at hrf
    refine hrf.mono ?_
    rintro e w9 ⟨a9, n9, k9, rfl, _, hb9⟩
    dsimp only at HNE ⊢
    have HB9 := Lib.hid (HBD.out.trans (hb9.mono HBD.out.size))
    refine hK _ _ ⟨⟨_, HB9.out⟩, rfl⟩ ?_
    clear hK hrf hb9
    have ter : ((er : Int) != 0) = true := by rw [bne_iff_ne]; have := HNE.out; omega
    refine anyT_pull [8, 9, 10] 11 0 (by intro c a d v w h; cases d <;> exact h) (by kernel_rfl) ⟨⟨_, HB9.out⟩, rfl⟩ ?_
    simp only [opsAt, List.filterMap_cons, List.filterMap_nil, List.getElem?_cons_zero, List.getElem?_cons_succ]
    iterate 3
      apply held_step
      · kernel_rfl
      · rintro _ ⟨V, rfl⟩
        go_simp
        rfl
    refine held_nil ?_
    refine anyT_done (by kernel_rfl) ?_
    simp only [opsAt, List.filterMap_cons, List.filterMap_nil, List.getElem?_cons_zero, List.getElem?_cons_succ]
    go_wp2
    go_ret
    exact ⟨rfl, HBW.out.trans ((HB8.out.mono HX6.out).trans (HB9.out.mono (by have h1 := HX6.out; have h2 := HB8.out.size; have h3 := HS7.out; omega)))⟩
  by_cases ht4 : t = 4
  · subst ht4
    have HQ' : Hid (Cd.pcells q a3 n c3 = #[.string (bstr q.bucket), .string (bstr q.key), .int .u64 q.version, .int .u64 q.p.stripe, .int .i64 q.p.K, .int .i64 q.p.M, .int .i64 q.p.size, .int .u32 (n32 q.p.sum), .slice a3 n c3]) := Lib.hid rfl
    rw [HFIT.out.m] at c5
    have s1 : IntKind.i64.wrap ((M : Int) + 1) = (M : Int) + 1 := by rw [IntKind.wrap_i64]; omega
    obtain ⟨q', hq'⟩ : ∃ q', q' = (⟨q.bucket, q.key, q.version, ⟨q.p.stripe, q.p.K, (M : Int) + 1, q.p.size, q.p.sum⟩, q.nodes⟩ : Cd.Full) := ⟨_, rfl⟩
    have hf' : Cd.Fit q' K (M + 1) nd := by
      subst hq'
      exact ⟨⟨HFIT.out.ok.v, HFIT.out.ok.s, HFIT.out.ok.k, ⟨by show _ ≤ (M : Int) + 1; omega, by show (M : Int) + 1 ≤ _; omega⟩, HFIT.out.ok.z⟩, HFIT.out.k, by show (M : Int) + 1 = ((M + 1 : Nat) : Int); omega, HFIT.out.n, HFIT.out.k1, by omega, by omega⟩
    have hne : (Cd.rd q'.p (Rs.wd K nd) (i : Int) fl).2 ≠ 0 := by
      have h9 := HFL.out q'.p (i : Int) (Rs.wd K nd) (by subst hq'; exact HQL.out) (by subst hq'; intro h; have h1 := h.2.2.2.1; rw [HFIT.out.m] at h1; unfold Cd.u at h1; dsimp only at h1; omega)
      exact h9
    have h8 := heap_setC (j := 5) (v := .int .i64 ((M : Int) + 1)) HH7.out
    have hp8 : Cd.PAt (w7.setCell ⟨b7, 5, none⟩ (.int .i64 ((M : Int) + 1))) b7 q' a3 n c3 := Cd.PAt.of_heap (by subst hq'; rw [h8]; rfl)
    have hb8 : Below b7 w6 (w7.setCell ⟨b7, 5, none⟩ (.int .i64 ((M : Int) + 1))) := HB7.out.setCell (p := ⟨b7, 5, none⟩) (Nat.le_refl _) _
    have HFI := Lib.hid hf'
    clear h8 hf' hq'
    go_upto_region 34 with fail
    generalize w7.setCell ⟨b7, 5, none⟩ (.int .i64 ((M : Int) + 1)) = w8 at *
    have HP8 := Lib.hid hp8
    have HB8 := Lib.hid hb8
    have HPC8 := Lib.hid (cell_later (HS7.out ▸ HB8.out : Below w6.heap.size w6 w8) HPC.out)
    have HO8 := Lib.hid (HO6.out.below (HS7.out ▸ HB8.out : Below w6.heap.size w6 w8))
    clear hp8 hb8 c0 c1 c2 c3' c4 c5 c6 c7 c8 kf
    go_upto_region 34 with fail
    refine wp_region_steps [11] 11 11 (by kernel_rfl) (by kernel_rfl) rfl (fun W' => ∃ V : BW w8, W' = V.w) ?_
    have HBD : Hid (Below w8.heap.size w8 w8.drew) := Lib.hid (Below.refl _ _).drew
    generalize w8.drew = wD at *
    refine anyT_pull [0, 1, 2, 3, 4, 5, 6] 11 4 (by intro c a d v w h; cases d <;> exact h) (by kernel_rfl) ⟨⟨_, HBD.out⟩, rfl⟩ ?_
    simp only [opsAt, List.filterMap_cons, List.filterMap_nil, List.getElem?_cons_zero, List.getElem?_cons_succ]
    iterate 7
      apply held_step
      · kernel_rfl
      · rintro _ ⟨V, rfl⟩
        have hp := HP8.out.below V.b
        have c0 := hp.c0
        have c1 := hp.c1
        have c2 := hp.c2
        have c3 := hp.c3
        have c4 := hp.c4
        have c5 := hp.c5
        have c6 := hp.c6
        have c7 := hp.c7
        have c8 := hp.c8
        have e4 := cell_later V.b HPC8.out
        go_simp
        rfl
    refine held_nil ?_
    apply anyT_one 7
    · rfl
    · kernel_rfl
    · kernel_rfl
    intro K' hK
    go_simp
    have hrf := readfile_any q' a3 n c3 K (M + 1) nd ((i : Int)) fa fn fc fl wD (HO8.out.below HBD.out).bs HFI.out ⟨by omega, by omega⟩ (by omega)
    have HNE := Lib.hid hne
    clear hne
    generalize Cd.rd q'.p (Rs.wd K nd) ((i : Int)) fl = R at *
    obtain ⟨r, er⟩ := R
    unfold Cd.pv at hrf
    refine hrf.mono ?_
    rintro e w9 ⟨a9, n9, k9, rfl, _, hb9⟩
    dsimp only at HNE ⊢
    have HB9 := Lib.hid (HBD.out.trans (hb9.mono HBD.out.size))
    refine hK _ _ ⟨⟨_, HB9.out⟩, rfl⟩ ?_
    clear hK hrf hb9
    have ter : ((er : Int) != 0) = true := by rw [bne_iff_ne]; have := HNE.out; omega
    refine anyT_pull [8, 9, 10] 11 0 (by intro c a d v w h; cases d <;> exact h) (by kernel_rfl) ⟨⟨_, HB9.out⟩, rfl⟩ ?_
    simp only [opsAt, List.filterMap_cons, List.filterMap_nil, List.getElem?_cons_zero, List.getElem?_cons_succ]
    iterate 3
      apply held_step
      · kernel_rfl
      · rintro _ ⟨V, rfl⟩
        go_simp
        rfl
    refine held_nil ?_
    refine anyT_done (by kernel_rfl) ?_
    simp only [opsAt, List.filterMap_cons, List.filterMap_nil, List.getElem?_cons_zero, List.getElem?_cons_succ]
    go_wp2
    go_ret
    exact ⟨rfl, HBW.out.trans ((HB8.out.mono HX6.out).trans (HB9.out.mono (by have h1 := HX6.out; have h2 := HB8.out.size; have h3 := HS7.out; omega)))⟩
  have v1 : (t == 1) = false := by rw [beq_eq_false_iff_ne]; exact ht1
  have v2 : (t == 2) = false := by rw [beq_eq_false_iff_ne]; exact ht2
  have v3 : (t == 3) = false := by rw [beq_eq_false_iff_ne]; exact ht3
  have v4 : (t == 4) = false := by rw [beq_eq_false_iff_ne]; exact ht4
  clear ht1 ht2 ht3 ht4
  by_cases hoi : oth = (i : Int)
  · have s1 : (oth == (i : Int)) = true := by rw [beq_iff_eq]; exact hoi
    clear hoi
    go_wp2
    go_ret
    exact ⟨rfl, HBW.out.trans (HB7.out.mono HX6.out)⟩
  have s1 : (oth == (i : Int)) = false := by rw [beq_eq_false_iff_ne]; exact hoi
  have hne : (Cd.rd q.p (Rs.wd K nd) oth fl).2 ≠ 0 := HFL.out q.p oth (Rs.wd K nd) HQL.out (fun h => hoi (Cd.u_inj ⟨HOO.out.1, HOO.out.2⟩ ⟨by omega, by omega⟩ h.2.1))
  clear hoi
  go_upto_region 34 with fail
  have HP8 : Hid (Cd.PAt w7 b7 q a3 n c3) := Lib.hid (Cd.PAt.of_heap HH7.out)
  have HB8 := HB7
  have HPC8 := Lib.hid (cell_later (HS7.out ▸ HB8.out : Below w6.heap.size w6 w7) HPC.out)
  have HO8 := Lib.hid (HO6.out.below (HS7.out ▸ HB8.out : Below w6.heap.size w6 w7))
  clear c0 c1 c2 c3' c4 c5 c6 c7 c8 kf v1 v2 v3 v4 s1
  go_upto_region 34 with fail
  refine wp_region_steps [11] 11 11 (by kernel_rfl) (by kernel_rfl) rfl (fun W' => ∃ V : BW w7, W' = V.w) ?_
  have HBD : Hid (Below w7.heap.size w7 w7.drew) := Lib.hid (Below.refl _ _).drew
  generalize w7.drew = wD at *
  refine anyT_pull [0, 1, 2, 3, 4, 5, 6] 11 4 (by intro c a d v w h; cases d <;> exact h) (by kernel_rfl) ⟨⟨_, HBD.out⟩, rfl⟩ ?_
  simp only [opsAt, List.filterMap_cons, List.filterMap_nil, List.getElem?_cons_zero, List.getElem?_cons_succ]
  iterate 7
    apply held_step
    · kernel_rfl
    · rintro _ ⟨V, rfl⟩
      have hp := HP8.out.below V.b
      have c0 := hp.c0
      have c1 := hp.c1
      have c2 := hp.c2
      have c3 := hp.c3
      have c4 := hp.c4
      have c5 := hp.c5
      have c6 := hp.c6
      have c7 := hp.c7
      have c8 := hp.c8
      have e4 := cell_later V.b HPC8.out
      go_simp
      rfl
  refine held_nil ?_
  apply anyT_one 7
  · rfl
  · kernel_rfl
  · kernel_rfl
  intro K' hK
  go_simp
  have hrf := readfile_any q a3 n c3 K M nd (oth) fa fn fc fl wD (HO8.out.below HBD.out).bs HFIT.out ⟨HOO.out.1, HOO.out.2⟩ (by omega)
  have HNE := Lib.hid hne
  clear hne
  generalize Cd.rd q.p (Rs.wd K nd) (oth) fl = R at *
  obtain ⟨r, er⟩ := R
  unfold Cd.pv at hrf
  refine hrf.mono ?_
  rintro e w9 ⟨a9, n9, k9, rfl, _, hb9⟩
  dsimp only at HNE ⊢
  have HB9 := Lib.hid (HBD.out.trans (hb9.mono HBD.out.size))
  refine hK _ _ ⟨⟨_, HB9.out⟩, rfl⟩ ?_
  clear hK hrf hb9
  have ter : ((er : Int) != 0) = true := by rw [bne_iff_ne]; have := HNE.out; omega
  refine anyT_pull [8, 9, 10] 11 0 (by intro c a d v w h; cases d <;> exact h) (by kernel_rfl) ⟨⟨_, HB9.out⟩, rfl⟩ ?_
  simp only [opsAt, List.filterMap_cons, List.filterMap_nil, List.getElem?_cons_zero, List.getElem?_cons_succ]
  iterate 3
    apply held_step
    · kernel_rfl
    · rintro _ ⟨V, rfl⟩
      go_simp
      rfl
  refine held_nil ?_
  refine anyT_done (by kernel_rfl) ?_
  simp only [opsAt, List.filterMap_cons, List.filterMap_nil, List.getElem?_cons_zero, List.getElem?_cons_succ]
  go_wp2
  go_ret
  exact ⟨rfl, HBW.out.trans ((HB8.out.mono HX6.out).trans (HB9.out.mono (by have h1 := HX6.out; have h2 := HB8.out.size; have h3 := HS7.out; omega)))⟩
end Go.Proofs.YtfgifndpglgjkaaGreatDoor
