/- The walk of ExtentBack. -/
import Derived.Test.YtkbfefooaajhkaaDoorExSz
set_option maxRecDepth 100000
set_option linter.unusedVariables false
set_option linter.unusedSimpArgs false
namespace Go.Proofs.YtkbfefooaajhkaaDoor
open Go.RowKit

theorem part_not {L : List Wr} {id C R : Nat} {data : List UInt8} (h : Holds L id data C R) (f t : Int) (hno : f < 0 ∨ t < f ∨ (data.length : Int) < t) : Ex.part L id f t = ([], 1) := by
  unfold Ex.part
  rw [h.look]
  exact part_arg L id f t rfl hno
theorem frees_len (id n : Nat) : (Ex.frees id n).length = n + 2 := by
  unfold Ex.frees Ex.freeTo
  simp
theorem getv_some {w : World} {L : List Wr} {key x : List UInt8} {v : Value} (h : GetV w L key v) (hg : Kv.get L key = some x) : ∃ a c, v = .tuple #[.slice a x.length c, .bool true] := by
  rcases h with ⟨h, _⟩ | ⟨a, c, y, h, rfl, _⟩
  · rw [hg] at h; cases h
  · rw [hg] at h; cases h; exact ⟨a, c, rfl⟩
theorem getv_none {w : World} {L : List Wr} {key : List UInt8} {v : Value} (h : GetV w L key v) (hg : Kv.get L key = none) : v = .tuple #[.slice none 0 0, .bool false] := by
  rcases h with ⟨_, h⟩ | ⟨a, c, y, h, _, _⟩
  · exact h
  · rw [hg] at h; cases h
set_option maxHeartbeats 8000000 in
theorem extentBack_walk (id : Nat) (a : Option Addr) (n c : Nat) (data : List UInt8) (z f t mo : Int) (w : World) (hu : U64 id) (h : Bs w a n c data) (bz : -9223372036854775808 ≤ z ∧ z ≤ 9223372036854775807) (bf : -9223372036854775808 ≤ f ∧ f ≤ 9223372036854775807) (bt : -9223372036854775808 ≤ t ∧ t ≤ 9223372036854775807) (bm : -9223372036854775808 ≤ mo ∧ mo ≤ 9223372036854775807) (hL : Laid w) :
    Calls Tryd.prog 7 #[.int .u64 id, .slice a n c, .int .i64 z, .int .i64 f, .int .i64 t, .int .i64 mo] w fun e w' => e = .returned (.bool true) ∧ Below w.heap.size w w' := by
  have HLD := Lib.hid hL
  have HE := Lib.hid h
  have hle := h.le.1
  have HN := Lib.hid h.1
  clear h hL
  go_enter Tryd.func7, Tryd.ntmps7
  go_wp2_with fail
  refine (known_any w HLD.out).mono ?_
  rintro e w1 ⟨rfl, hb1⟩
  have HB1 := Lib.hid hb1
  clear hb1
  by_cases q0 : n ≤ 16384
  case neg =>
    have t0 : decide ((16384 : Int) < (n : Int)) = true := decide_eq_true (by omega)
    go_wp2
    go_ret
    exact ⟨rfl, HB1.out⟩
  have t0 : decide ((16384 : Int) < (n : Int)) = false := decide_eq_false (by omega)
  by_cases q1 : 1 ≤ z
  case neg =>
    have t1 : decide (z < 1) = true := decide_eq_true (by omega)
    go_wp2
    go_ret
    exact ⟨rfl, HB1.out⟩
  have t1 : decide (z < 1) = false := decide_eq_false (by omega)
  by_cases q2 : z ≤ 16777216
  case neg =>
    have t2 : decide ((16777216 : Int) < z) = true := decide_eq_true (by omega)
    go_wp2
    go_ret
    exact ⟨rfl, HB1.out⟩
  have t2 : decide ((16777216 : Int) < z) = false := decide_eq_false (by omega)
  obtain ⟨C, rfl⟩ : ∃ m : Nat, z = (m : Int) := ⟨z.toNat, by omega⟩
  obtain ⟨q, hq⟩ : ∃ q, q = n / C := ⟨_, rfl⟩
  have eq1 : (n : Int) / (C : Int) = (q : Int) := by rw [hq, Int.natCast_ediv]
  have hqb : q ≤ 16384 := Nat.le_trans (by rw [hq]; exact Nat.div_le_self _ _) q0
  have hq0 : ((C : Int) == 0) = false := by simp; omega
  clear hq
  by_cases q3 : q ≤ 2000
  case neg =>
    have t3 : decide ((2000 : Int) < (q : Int)) = true := decide_eq_true (by omega)
    go_wp2
    go_ret
    exact ⟨rfl, HB1.out⟩
  have t3 : decide ((2000 : Int) < (q : Int)) = false := decide_eq_false (by omega)
  have HH := Lib.hid (make_holds [] id data C (by omega) (by omega) (by rw [HN.out]; omega))
  have HKS : Hid (KeysOf (Kv.does [] (Ex.make id data C)) id (Ex.head data C).n) := Lib.hid (keysof_does (keysof_nil _ _) (keysof_make id data C))
  have HFI : Hid ((Kv.does [] (Ex.make id data C)).filter (fun e => !Ex.of id e.key) = []) := Lib.hid (filter_does (Ex.of id) (Ex.make id data C) [] (fun x hx => (make_keys id data C x hx).1))
  have HL1 := Lib.hid (make_len id data C (by omega))
  have HDL := Lib.hid (does_len [] (Ex.make id data C))
  have HNL : Hid ((Ex.head data C).n ≤ 16384) := Lib.hid (by have h1 := n_le data.length C (by omega); have h2 := HN.out; show (data.length + C - 1) / C ≤ _; omega)
  have HB2 : Hid (Below w.heap.size w (w1.alloc (.cells #[.slice none 0 0] 27))) := Lib.hid (HB1.out.alloc HB1.out.size _)
  have HK2 := Lib.hid (keys_new w1)
  have HG : Hid (w.heap.size ≤ w1.heap.size) := Lib.hid HB1.out.size
  go_wp2_with fail
  refine (make_any id a n c data C _ hu (HE.out.below HB2.out) (by omega) (by omega) (by omega) (HLD.out.below HB2.out)).mono ?_
  rintro e w3 ⟨a3, n3, c3, rfl, hm3, hb3⟩
  have HM3 := Lib.hid hm3
  have HB3 := Lib.hid (HB2.out.trans (hb3.mono HB2.out.size))
  have HK3 := Lib.hid (HK2.out.below hb3)
  have hn3 : n3 ≤ 16385 := by have h1 := hm3.len; have h2 := HL1.out; have h3 := HN.out; omega
  clear hm3 hb3
  go_wp2_with fail
  refine (do_any w1.heap.size a3 n3 c3 [] _ _ HK3.out HM3.out.acc.ws (by simp; omega)).mono ?_
  rintro e w4 ⟨rfl, hk4, ho4⟩
  have HB4 := Lib.hid (HB3.out.trans (ho4.below HB3.out.size (fun x hx => by cases hx; exact HG.out)))
  have HK4 := Lib.hid hk4
  have HLE1 : Hid ((Kv.does [] (Ex.make id data C)).length ≤ 16385) := Lib.hid (by have h1 := HDL.out; have h2 := HL1.out; have h3 := HN.out; simp at h1; omega)
  clear hk4 ho4 HDL HL1 HM3
  generalize Kv.does [] (Ex.make id data C) = K1 at *
  obtain ⟨N, hNE⟩ : ∃ N, (Ex.head data C).n = N := ⟨_, rfl⟩
  rw [hNE] at HKS HNL
  have HNE := Lib.hid hNE
  clear hNE
  have HRD := Lib.hid (whole_is HH.out.1 HH.out.2)
  have HH1 := Lib.hid HH.out.1
  have HPN := Lib.hid (fun (hno : f < 0 ∨ t < f ∨ (n : Int) < t) => part_not HH.out.1 f t (by rw [HN.out]; exact hno))
  have HPY := Lib.hid (fun (F T : Nat) (hF : f = F) (hT : t = T) (h1 : F ≤ T) (h2 : T ≤ n) => show Ex.part K1 id f t = ((data.drop F).take (T - F), 0) by
    subst hF hT
    have hn := HN.out
    exact part_is HH.out.1 F T h1 (by omega) (fun k _ hk => HH.out.2 k (by omega)))
  clear HH
  go_wp2_with fail
  have HR := Lib.hid (read_any w1.heap.size id K1 w4 hu HK4.out (HLD.out.below HB4.out))
  unfold src at HR
  refine HR.out.mono ?_
  rw [HRD.out]
  rintro e w5 ⟨a5, n5, c5, rfl, ho5, hb5⟩
  dsimp only at ho5
  have HB5 := Lib.hid (HB4.out.trans (hb5.mono HB4.out.size))
  have HK5 := Lib.hid (HK4.out.below hb5)
  have hcv5 := conv_bytes ho5.bs
  have hcvd := conv_bytes (HE.out.below HB5.out)
  have e1 : ((bstr data).toList == (bstr data).toList) = true := by simp
  clear ho5 hb5 HR
  have HPT := Lib.hid (part_any w1.heap.size id K1 f t w5 hu HK5.out (HLD.out.below HB5.out) bf bt)
  unfold src at HPT
  generalize Ex.part K1 id f t = PP at *
  obtain ⟨pl, pe⟩ := PP
  go_wp2_with fail
  clear hcv5 hcvd e1
  refine HPT.out.mono ?_
  rintro e w6 ⟨a6, n6, c6, rfl, ho6, hb6⟩
  dsimp only at ho6 ⊢
  have HO6 := Lib.hid ho6
  have HB6 := Lib.hid (HB5.out.trans (hb6.mono HB5.out.size))
  have HK6 := Lib.hid (HK5.out.below hb6)
  clear ho6 hb6 HPT
  go_upto_region 14 with fail
  go_cut [98] (fun v wx => v = .bool (decide (0 ≤ f ∧ f ≤ t ∧ t ≤ (n : Int))) ∧ wx = w6)
  case first =>
    by_cases p1 : 0 ≤ f
    case neg =>
      have s1 : decide ((0 : Int) ≤ f) = false := decide_eq_false p1
      go_wp2
      go_meet
      exact ⟨by rw [decide_eq_false (show ¬ (0 ≤ f ∧ f ≤ t ∧ t ≤ (n : Int)) by omega)], rfl⟩
    have s1 : decide ((0 : Int) ≤ f) = true := decide_eq_true p1
    by_cases p2 : f ≤ t
    case neg =>
      have s2 : decide (f ≤ t) = false := decide_eq_false p2
      go_wp2
      go_meet
      exact ⟨by rw [decide_eq_false (show ¬ (0 ≤ f ∧ f ≤ t ∧ t ≤ (n : Int)) by omega)], rfl⟩
    have s2 : decide (f ≤ t) = true := decide_eq_true p2
    by_cases p3 : t ≤ (n : Int)
    case neg =>
      have s3 : decide (t ≤ (n : Int)) = false := decide_eq_false p3
      go_wp2
      go_meet
      exact ⟨by rw [decide_eq_false (show ¬ (0 ≤ f ∧ f ≤ t ∧ t ≤ (n : Int)) by omega)], rfl⟩
    have s3 : decide (t ≤ (n : Int)) = true := decide_eq_true p3
    go_wp2
    go_meet
    exact ⟨by rw [decide_eq_true (show 0 ≤ f ∧ f ≤ t ∧ t ≤ (n : Int) by omega)], rfl⟩
  case rest =>
  obtain ⟨rfl, hwx⟩ := hcut
  obtain rfl := hwx.symm
  clear hwx
  go_upto_if 98 with fail
  go_cut [] (fun wx => Hid (Below w6.heap.size w6 wx))
  case first =>
    by_cases p1 : 0 ≤ f ∧ f ≤ t ∧ t ≤ (n : Int)
    case neg =>
      have hp := HPN.out (by omega)
      cases hp
      have s1 : decide (0 ≤ f ∧ f ≤ t ∧ t ≤ (n : Int)) = false := decide_eq_false p1
      rw [s1]
      go_wp2
      go_meet
      exact Lib.hid (Below.refl _ _)
    have s1 : decide (0 ≤ f ∧ f ≤ t ∧ t ≤ (n : Int)) = true := decide_eq_true p1
    rw [s1]
    clear s1
    obtain ⟨F, rfl⟩ : ∃ F : Nat, f = (F : Int) := ⟨f.toNat, by omega⟩
    obtain ⟨T, rfl⟩ : ∃ T : Nat, t = (T : Int) := ⟨t.toNat, by omega⟩
    have hp := HPY.out F T rfl rfl (by omega) (by omega)
    cases hp
    have hnc := (HE.out).2.1
    have hsl : ∀ W, (Instr.slice 22 (.slice a n c) (some (.int .i64 F)) (some (.int .i64 T)) none).run Tryd.prog W = .ok (.slice (subA a c F) (T - F) (c - F)) W := fun W => slice_lh a n c rfl rfl (by omega) (by omega) W
    have HDS := Lib.hid ((HE.out.below HB6.out).sub (lo := F) (hi := T) (by omega) (by omega))
    have v1 := fun W : BW w6 => conv_bytes (HO6.out.bs.below W.b)
    have v2 := fun W : BW w6 => conv_bytes (HDS.out.below W.b)
    have e1 : ((bstr ((data.drop F).take (T - F))).toList == (bstr ((data.drop F).take (T - F))).toList) = true := by simp
    generalize (data.drop F).take (T - F) = dl at *
    generalize subA a c F = ab at *
    go_wp2_with fail
    refine wp_region_class (w0 := w6) (by kernel_rfl) (by kernel_rfl) (Below.refl _ _) ?_
    repeat (first | go_big_quiet_step (fail))
    refine wpQuiet_nil ?_
    intro w7 hb7; replace hb7 := BW.of hb7
    have HB7 := Lib.hid hb7
    clear hb7 v1 v2
    go_wp2
    go_meet
    exact HB7
  case rest =>
  rename_i wc2
  have HBc := Lib.hid (HB6.out.trans (hcut.out.mono HB6.out.size))
  have HKc := Lib.hid (HK6.out.below hcut.out)
  clear hcut HPN HPY HO6 HB6 HK6 HB5 HK5 HB4 HK4
  obtain ⟨Tm, hTm⟩ : ∃ T, Int.tmod mo 1000 = T := ⟨_, rfl⟩
  have hTb : -1000 < Tm ∧ Tm < 1000 := by
    rw [← hTm, Int.tmod_eq_emod]
    have h1 := Int.emod_nonneg mo (b := 1000) (by omega)
    have h2 := Int.emod_lt_of_pos mo (b := 1000) (by omega)
    split <;> omega
  go_upto_if 116 with fail
  go_cut [5] (fun v wx => ∃ M : Nat, M ≤ 999 ∧ v = .int .i64 M ∧ wx = wc)
  case first =>
    by_cases hneg : Tm < 0
    · have s1 : decide (Tm < 0) = true := decide_eq_true hneg
      go_wp2
      go_meet
      exact ⟨(-Tm).toNat, by omega, by rw [show (((-Tm).toNat : Nat) : Int) = -Tm by omega], rfl⟩
    · have s1 : decide (Tm < 0) = false := decide_eq_false hneg
      go_wp2
      go_meet
      exact ⟨Tm.toNat, by omega, by rw [show ((Tm.toNat : Nat) : Int) = Tm by omega], rfl⟩
  case rest =>
  clear hTm hTb
  rename_i wd
  obtain ⟨M, hM, rfl, hwx⟩ := hcut
  obtain rfl := hwx.symm
  clear hwx
  have HF1 := Lib.hid (ref_is (z := (M : Int)) HH1.out (by omega) (by omega))
  have HQ1 := Lib.hid (refs_holds (R := 1) (R' := 1 + M) (z := (M : Int)) HH1.out (by omega) (by omega))
  have HX1 := Lib.hid (refs_len (Hd.mk' data C 1) id (M : Int))
  have HKS2 := Lib.hid (keysof_does HKS.out (keysof_refs (Hd.mk' data C 1) id N (M : Int)))
  have HFI2 := Lib.hid ((filter_does (Ex.of id) (Ex.refs (Hd.mk' data C 1) id (M : Int)) K1 (fun x hx => refs_of hx)).trans HFI.out)
  have HLE2 := Lib.hid (does_len K1 (Ex.refs (Hd.mk' data C 1) id (M : Int)))
  have HR := Lib.hid (ref_any w1.heap.size id K1 (M : Int) wc hu HKc.out (HLD.out.below HBc.out) (by omega))
  unfold src at HR
  rw [HF1.out] at HR
  dsimp only at HR
  generalize Ex.refs (Hd.mk' data C 1) id (M : Int) = rs1 at *
  go_wp2_with fail
  refine HR.out.mono ?_
  rintro e w11 ⟨a11, n11, c11, rfl, hm11, hb11⟩
  have HM11 := Lib.hid hm11
  have HB11 := Lib.hid (HBc.out.trans (hb11.mono HBc.out.size))
  have HK11 := Lib.hid (HKc.out.below hb11)
  have hn11 : n11 ≤ 2 := by have h1 := hm11.len; have h2 := HX1.out; omega
  clear hm11 hb11 HR
  go_wp2_with fail
  refine (do_any w1.heap.size a11 n11 c11 K1 _ _ HK11.out HM11.out.acc.ws (by have := HLE1.out; omega)).mono ?_
  rintro e w12 ⟨rfl, hk12, ho12⟩
  have HB12 := Lib.hid (HB11.out.trans (ho12.below HB11.out.size (fun x hx => by cases hx; exact HG.out)))
  have HK12 := Lib.hid hk12
  have HLE2 : Hid ((Kv.does K1 rs1).length ≤ 16387) := Lib.hid (by have h1 := HLE2.out; have h2 := HLE1.out; have h3 := HX1.out; omega)
  clear hk12 ho12 HM11 HX1
  generalize Kv.does K1 rs1 = K2 at *
  have HH2 := Lib.hid HQ1.out.1
  clear HQ1 HH1 HF1
  have HFR := Lib.hid (free_not HH2.out (by omega))
  have HR := Lib.hid (free_any w1.heap.size id K2 w12 hu HK12.out (HLD.out.below HB12.out))
  unfold src at HR
  rw [HFR.out] at HR
  dsimp only at HR
  go_wp2_with fail
  refine HR.out.mono ?_
  rintro e w13 ⟨a13, n13, c13, rfl, hm13, hb13⟩
  have HB13 := Lib.hid (HB12.out.trans (hb13.mono HB12.out.size))
  have HK13 := Lib.hid (HK12.out.below hb13)
  clear hm13 hb13 HR
  obtain ⟨zz, hzz⟩ : ∃ zz : Int, zz = 0 - (M : Int) - 1 := ⟨_, rfl⟩
  have hz1 : (0 : Int) - (M : Int) - 1 = zz := hzz.symm
  have hz2 : -(M : Int) - 1 = zz := by omega
  have hzb : -1000 ≤ zz ∧ zz ≤ -1 := by omega
  have HF2 := Lib.hid (ref_is (z := zz) HH2.out (by omega) (by omega))
  have HQ2 := Lib.hid (refs_holds (R := 1 + M) (R' := 0) (z := zz) HH2.out (by omega) (by omega))
  have HX2 := Lib.hid (refs_len (Hd.mk' data C (1 + M)) id zz)
  have HKS3 := Lib.hid (keysof_does HKS2.out (keysof_refs (Hd.mk' data C (1 + M)) id N zz))
  have HFI3 := Lib.hid ((filter_does (Ex.of id) (Ex.refs (Hd.mk' data C (1 + M)) id zz) K2 (fun x hx => refs_of hx)).trans HFI2.out)
  have HLE3 := Lib.hid (does_len K2 (Ex.refs (Hd.mk' data C (1 + M)) id zz))
  have HR := Lib.hid (ref_any w1.heap.size id K2 zz w13 hu HK13.out (HLD.out.below HB13.out) (by omega))
  unfold src at HR
  rw [HF2.out] at HR
  dsimp only at HR
  generalize Ex.refs (Hd.mk' data C (1 + M)) id zz = rs2 at *
  clear hzz
  go_wp2_with fail
  refine HR.out.mono ?_
  rintro e w14 ⟨a14, n14, c14, rfl, hm14, hb14⟩
  have HM14 := Lib.hid hm14
  have HB14 := Lib.hid (HB13.out.trans (hb14.mono HB13.out.size))
  have HK14 := Lib.hid (HK13.out.below hb14)
  have hn14 : n14 ≤ 2 := by have h1 := hm14.len; have h2 := HX2.out; omega
  clear hm14 hb14 HR hz1 hz2 hzb
  go_wp2_with fail
  refine (do_any w1.heap.size a14 n14 c14 K2 _ _ HK14.out HM14.out.acc.ws (by have := HLE2.out; omega)).mono ?_
  rintro e w15 ⟨rfl, hk15, ho15⟩
  have HB15 := Lib.hid (HB14.out.trans (ho15.below HB14.out.size (fun x hx => by cases hx; exact HG.out)))
  have HK15 := Lib.hid hk15
  have HLE3 : Hid ((Kv.does K2 rs2).length ≤ 16389) := Lib.hid (by have h1 := HLE3.out; have h2 := HLE2.out; have h3 := HX2.out; omega)
  clear hk15 ho15 HM14 HX2
  generalize Kv.does K2 rs2 = K3 at *
  have HH3 := Lib.hid HQ2.out.1
  have HMK : Hid (Kv.get K3 (Ex.mark id) = some []) := Lib.hid HQ2.out.2.2
  clear HQ2 HH2 HF2
  go_wp2_with fail
  refine (mark_any id hu w15 (HLD.out.below HB15.out)).mono ?_
  rintro e w16 ⟨rfl, hb16⟩
  have HB16 := Lib.hid (HB15.out.trans (hb16.mono HB15.out.size))
  have HK16 := Lib.hid (HK15.out.below hb16)
  clear hb16
  obtain ⟨v, hv, hg⟩ := get_any w1.heap.size K3 (Ex.mark id) w16 HK16.out
  obtain ⟨am, cm, rfl⟩ := getv_some hv HMK.out
  have HGT := Lib.hid (hg w16 (Below.refl _ _))
  clear hv hg
  go_wp2_with fail
  refine HGT.out.mono ?_
  rintro e w17 ⟨rfl, rfl⟩
  have HFR := Lib.hid ((free_is HH3.out).trans (by rfl))
  have HR := Lib.hid (free_any w1.heap.size id K3 w16 hu HK16.out (HLD.out.below HB16.out))
  unfold src at HR
  rw [HFR.out] at HR
  dsimp only at HR
  go_wp2_with fail
  refine HR.out.mono ?_
  rintro e w18 ⟨a18, n18, c18, rfl, hm18, hb18⟩
  have HM18 := Lib.hid hm18
  have HB18 := Lib.hid (HB16.out.trans (hb18.mono HB16.out.size))
  have HK18 := Lib.hid (HK16.out.below hb18)
  clear hm18 hb18 HR
  have HE4 : Hid (Kv.does K3 (Ex.frees id (Ex.head data C).n) = []) := Lib.hid ((free_left (by rw [HNE.out]; exact HKS3.out)).trans HFI3.out)
  have hn18 : n18 ≤ 16386 := by have h1 := HM18.out.len; have h2 := frees_len id (Ex.head data C).n; have h3 := HNL.out; have h4 := HNE.out; omega
  go_wp2_with fail
  refine (do_any w1.heap.size a18 n18 c18 K3 _ _ HK18.out HM18.out.acc.ws (by have := HLE3.out; omega)).mono ?_
  rintro e w19 ⟨rfl, hk19, ho19⟩
  rw [HE4.out] at hk19
  have HB19 := Lib.hid (HB18.out.trans (ho19.below HB18.out.size (fun x hx => by cases hx; exact HG.out)))
  obtain ⟨al, nl, cl, hbx, hws⟩ := hk19
  have hnl := hws.1
  simp at hnl
  subst hnl
  have k0 := hbx.cell
  clear hws ho19
  go_wp2
  go_ret
  exact ⟨rfl, HB19.out⟩
end Go.Proofs.YtkbfefooaajhkaaDoor
