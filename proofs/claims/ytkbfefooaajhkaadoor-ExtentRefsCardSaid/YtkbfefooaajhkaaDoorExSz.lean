/- The walk of ExtentSizes. -/
import Derived.Test.YtkbfefooaajhkaaDoorExU
import Derived.Test.YtkbfefooaajhkaaDoorExWr
import Derived.Test.YtkbfefooaajhkaaDoorInts
set_option maxRecDepth 100000
set_option linter.unusedVariables false
set_option linter.unusedSimpArgs false
namespace Go.Proofs.YtkbfefooaajhkaaDoor
open Go.RowKit

theorem make_len (id : Nat) (data : List UInt8) (C : Nat) (hC : 1 ≤ C) : (Ex.make id data C).length ≤ data.length + 1 := by
  unfold Ex.make
  rw [List.length_cons, List.length_map, List.length_range]
  have := n_le data.length C hC
  show (data.length + C - 1) / C + 1 ≤ _
  omega
theorem two_hold (d1 d2 : List UInt8) (C1 C2 : Nat) (h1 : 1 ≤ C1) (h1' : C1 ≤ 16777216) (h2 : 1 ≤ C2) (h2' : C2 ≤ 16777216) (g1 : d1.length ≤ 1000000) (g2 : d2.length ≤ 1000000) :
    (Holds (Kv.does (Kv.does [] (Ex.make 1 d1 C1)) (Ex.make 2 d2 C2)) 1 d1 C1 1 ∧ ∀ k, k * C1 < d1.length → ChunkIs (Kv.does (Kv.does [] (Ex.make 1 d1 C1)) (Ex.make 2 d2 C2)) 1 d1 C1 k) ∧
    (Holds (Kv.does (Kv.does [] (Ex.make 1 d1 C1)) (Ex.make 2 d2 C2)) 2 d2 C2 1 ∧ ∀ k, k * C2 < d2.length → ChunkIs (Kv.does (Kv.does [] (Ex.make 1 d1 C1)) (Ex.make 2 d2 C2)) 2 d2 C2 k) := by
  obtain ⟨p1, p2⟩ := make_holds [] 1 d1 C1 h1 h1' g1
  have u1 : U64 1 := ⟨by decide⟩
  have u2 : U64 2 := ⟨by decide⟩
  have hk : ∀ x ∈ Ex.make 2 d2 C2, ∀ y, Ex.of 1 y = true → x.key ≠ y := fun x hx y hy => other_key u2 u1 (by decide) (make_keys 2 d2 C2 x hx).1 hy
  exact ⟨⟨holds_keep p1 (fun x hx => hk x hx _ (of_key 1)), fun k h => chunk_keep (p2 k h) (fun x hx => hk x hx _ (of_ck 1 k))⟩, make_holds _ 2 d2 C2 h2 h2' g2⟩
set_option maxHeartbeats 8000000 in
theorem extentSizes_walk (a : Option Addr) (n c : Nat) (data : List UInt8) (z1 z2 : Int) (ac : Option Addr) (nc cc : Nat) (cuts : List Int) (w : World) (h : Bs w a n c data) (b1 : -9223372036854775808 ≤ z1 ∧ z1 ≤ 9223372036854775807) (b2 : -9223372036854775808 ≤ z2 ∧ z2 ≤ 9223372036854775807) (hcu : Is w ac nc cc cuts) (hL : Laid w) :
    Calls Tryd.prog 4 #[.slice a n c, .int .i64 z1, .int .i64 z2, .slice ac nc cc] w fun e w' => e = .returned (.bool true) ∧ Below w.heap.size w w' := by
  have HLD := Lib.hid hL
  have HE := Lib.hid h
  have HC := Lib.hid hcu
  have hle := h.le.1
  have hlec := hcu.le.1
  have HN := Lib.hid h.1
  clear h hL hcu
  go_enter Tryd.func4, Tryd.ntmps4
  go_wp2_with fail
  refine (known_any w HLD.out).mono ?_
  rintro e w1 ⟨rfl, hb1⟩
  have HB1 := Lib.hid hb1
  clear hb1
  by_cases q0 : n ≤ 2000
  case neg =>
    have t0 : decide ((2000 : Int) < (n : Int)) = true := decide_eq_true (by omega)
    go_wp2
    go_ret
    exact ⟨rfl, HB1.out⟩
  have t0 : decide ((2000 : Int) < (n : Int)) = false := decide_eq_false (by omega)
  by_cases q1 : 1 ≤ z1
  case neg =>
    have t1 : decide (z1 < 1) = true := decide_eq_true (by omega)
    go_wp2
    go_ret
    exact ⟨rfl, HB1.out⟩
  have t1 : decide (z1 < 1) = false := decide_eq_false (by omega)
  by_cases q2 : 1 ≤ z2
  case neg =>
    have t2 : decide (z2 < 1) = true := decide_eq_true (by omega)
    go_wp2
    go_ret
    exact ⟨rfl, HB1.out⟩
  have t2 : decide (z2 < 1) = false := decide_eq_false (by omega)
  by_cases q3 : z1 ≤ 16777216
  case neg =>
    have t3 : decide ((16777216 : Int) < z1) = true := decide_eq_true (by omega)
    go_wp2
    go_ret
    exact ⟨rfl, HB1.out⟩
  have t3 : decide ((16777216 : Int) < z1) = false := decide_eq_false (by omega)
  by_cases q4 : z2 ≤ 16777216
  case neg =>
    have t4 : decide ((16777216 : Int) < z2) = true := decide_eq_true (by omega)
    go_wp2
    go_ret
    exact ⟨rfl, HB1.out⟩
  have t4 : decide ((16777216 : Int) < z2) = false := decide_eq_false (by omega)
  by_cases q5 : nc ≤ 50
  case neg =>
    have t5 : decide ((50 : Int) < (nc : Int)) = true := decide_eq_true (by omega)
    go_wp2
    go_ret
    exact ⟨rfl, HB1.out⟩
  have t5 : decide ((50 : Int) < (nc : Int)) = false := decide_eq_false (by omega)
  obtain ⟨C1, rfl⟩ : ∃ m : Nat, z1 = (m : Int) := ⟨z1.toNat, by omega⟩
  obtain ⟨C2, rfl⟩ : ∃ m : Nat, z2 = (m : Int) := ⟨z2.toNat, by omega⟩
  have HTW := Lib.hid (two_hold data data C1 C2 (by omega) (by omega) (by omega) (by omega) (by rw [HN.out]; omega) (by rw [HN.out]; omega))
  have HL1 := Lib.hid (make_len 1 data C1 (by omega))
  have HL2 := Lib.hid (make_len 2 data C2 (by omega))
  have HDL := Lib.hid (does_len [] (Ex.make 1 data C1))
  have HB2 : Hid (Below w.heap.size w (w1.alloc (.cells #[.slice none 0 0] 27))) := Lib.hid (HB1.out.alloc HB1.out.size _)
  have HK2 := Lib.hid (keys_new w1)
  have HG : Hid (w.heap.size ≤ w1.heap.size) := Lib.hid HB1.out.size
  go_wp2_with fail
  refine (make_any 1 a n c data C1 _ ⟨by decide⟩ (HE.out.below HB2.out) (by omega) (by omega) (by omega) (HLD.out.below HB2.out)).mono ?_
  rintro e w3 ⟨a3, n3, c3, rfl, hm3, hb3⟩
  have HM3 := Lib.hid hm3
  have HB3 := Lib.hid (HB2.out.trans (hb3.mono HB2.out.size))
  have HK3 := Lib.hid (HK2.out.below hb3)
  have hn3 : n3 ≤ 2001 := by have h1 := hm3.len; have h2 := HL1.out; have h3 := HN.out; omega
  clear hm3 hb3
  go_wp2_with fail
  refine (make_any 2 a n c data C2 _ ⟨by decide⟩ (HE.out.below HB3.out) (by omega) (by omega) (by omega) (HLD.out.below HB3.out)).mono ?_
  rintro e w4 ⟨a4, n4, c4, rfl, hm4, hb4⟩
  have HM4 := Lib.hid hm4
  have HM3 := Lib.hid (HM3.out.below hb4)
  have HB4 := Lib.hid (HB3.out.trans (hb4.mono HB3.out.size))
  have HK4 := Lib.hid (HK3.out.below hb4)
  have hn4 : n4 ≤ 2001 := by have h1 := hm4.len; have h2 := HL2.out; have h3 := HN.out; omega
  clear hm4 hb4
  go_wp2_with fail
  refine (do_any w1.heap.size a3 n3 c3 [] _ _ HK4.out HM3.out.acc.ws (by simp; omega)).mono ?_
  rintro e w5 ⟨rfl, hk5, ho5⟩
  have HB5 := Lib.hid (HB4.out.trans (ho5.below HB4.out.size (fun x hx => by cases hx; exact HG.out)))
  have HW5 : Hid (Ws w5 a4 n4 c4 (Ex.make 2 data C2)) := Lib.hid (by obtain ⟨_, _, _, hbx, _⟩ := HK4.out; exact HM4.out.acc.ws.oth ho5 hbx)
  have HK5 := Lib.hid hk5
  clear hk5 ho5
  go_wp2_with fail
  refine (do_any w1.heap.size a4 n4 c4 _ _ _ HK5.out HW5.out (by have h1 := HDL.out; have h2 := HL1.out; have h3 := HN.out; simp at h1; omega)).mono ?_
  rintro e w6 ⟨rfl, hk6, ho6⟩
  have HB6 := Lib.hid (HB5.out.trans (ho6.below HB5.out.size (fun x hx => by cases hx; exact HG.out)))
  have HK6 := Lib.hid hk6
  have HRD1 := Lib.hid (whole_is HTW.out.1.1 HTW.out.1.2)
  have HRD2 := Lib.hid (whole_is HTW.out.2.1 HTW.out.2.2)
  have HPT : Hid (∀ (j p T : Nat), (j = 0 ∨ j = 1) → p ≤ T → T ≤ n → Ex.part (Kv.does (Kv.does [] (Ex.make 1 data C1)) (Ex.make 2 data C2)) (1 + j) p T = ((data.drop p).take (T - p), 0)) := Lib.hid (fun j p T hj h1 h2 => by
    have hn := HN.out
    rcases hj with rfl | rfl
    · exact part_is HTW.out.1.1 p T h1 (by omega) (fun k _ hk => HTW.out.1.2 k (by omega))
    · exact part_is HTW.out.2.1 p T h1 (by omega) (fun k _ hk => HTW.out.2.2 k (by omega)))
  clear hk6 ho6 HTW HDL HL1 HL2 HM3 HM4 HW5 HK5
  generalize Kv.does (Kv.does [] (Ex.make 1 data C1)) (Ex.make 2 data C2) = K at *
  go_wp2_with fail
  have HR := Lib.hid (read_any w1.heap.size 1 K w6 ⟨by decide⟩ HK6.out (HLD.out.below HB6.out))
  unfold src at HR
  refine HR.out.mono ?_
  rw [HRD1.out]
  rintro e w7 ⟨a7, n7, c7, rfl, ho7, hb7⟩
  dsimp only at ho7
  have HO7 := Lib.hid ho7
  have HB7 := Lib.hid (HB6.out.trans (hb7.mono HB6.out.size))
  have HK7 := Lib.hid (HK6.out.below hb7)
  clear ho7 hb7 HR
  go_wp2_with fail
  have HR := Lib.hid (read_any w1.heap.size 2 K w7 ⟨by decide⟩ HK7.out (HLD.out.below HB7.out))
  unfold src at HR
  refine HR.out.mono ?_
  rw [HRD2.out]
  rintro e w8 ⟨a8, n8', c8, rfl, ho8, hb8⟩
  dsimp only at ho8
  have HB8 := Lib.hid (HB7.out.trans (hb8.mono HB7.out.size))
  have HK8 := Lib.hid (HK7.out.below hb8)
  have hcv7 := conv_bytes (HO7.out.below hb8).bs
  have hcv8 := conv_bytes ho8.bs
  have hcvd := conv_bytes (HE.out.below HB8.out)
  have e1 : ((bstr data).toList == (bstr data).toList) = true := by simp
  clear ho8 hb8 HR
  go_wp2_with fail
  go_loopw [16, 17, 18] (fun pv lv iv wr => ∃ (i p m cm : Nat) (am : Option Addr), i ≤ nc + 1 ∧ p ≤ n ∧ (i = nc + 1 → p = n) ∧ m = p ∧ pv = .int .i64 p ∧ lv = .slice am m cm ∧ iv = .int .i64 i ∧ Hid (Own wr w8.heap.size am m cm (data.take p)) ∧ Hid (Below w8.heap.size w8 wr)) (fun _ _ iv _ => nc + 1 - (intOf iv).toNat)
  case atStart => exact ⟨0, 0, 0, 0, none, by omega, by omega, fun h => by omega, rfl, rfl, rfl, rfl, Lib.hid (Own.nil _ _), Lib.hid (Below.refl _ _)⟩
  case round =>
    obtain ⟨i, p, m, cm, am, hi, hp, hpe, rfl, rfl, rfl, rfl, hown, hbl⟩ := hrel
    clear hcv7 hcv8 hcvd
    by_cases hin : i ≤ nc
    case neg =>
      obtain rfl : i = nc + 1 := by omega
      obtain rfl : n = m := (hpe rfl).symm
      have E1 : data.take n = data := by rw [← HN.out, List.take_length]
      rw [E1] at hown
      have hcv1 := conv_bytes hown.out.bs
      have hcv2 := conv_bytes (HE.out.below (HB8.out.trans (hbl.out.mono HB8.out.size)))
      have ti : decide ((nc : Int) + 1 ≤ (nc : Int)) = false := decide_eq_false (by omega)
      go_wp2
      go_ret
      exact ⟨rfl, HB8.out.trans (hbl.out.mono HB8.out.size)⟩
    have ti : decide ((i : Int) ≤ (nc : Int)) = true := decide_eq_true (by omega)
    go_upto_if 117 with fail
    go_cut [19] (fun v wx => ∃ T : Nat, m ≤ T ∧ T ≤ n ∧ (i = nc → T = n) ∧ v = .int .i64 T ∧ wx = wr)
    case first =>
      by_cases hlt : i < nc
      case neg =>
        have t8 : decide (i < nc) = false := decide_eq_false hlt
        go_wp2
        go_meet
        exact ⟨n, hp, Nat.le_refl _, fun _ => rfl, rfl, rfl⟩
      have t8 : decide (i < nc) = true := decide_eq_true hlt
      obtain ⟨b, o, rfl, hci⟩ := (HC.out.below (HB8.out.trans (hbl.out.mono HB8.out.size))).get hlt
      have hzb := HC.out.bd hlt
      have hz1' := hzb.lo
      have hz2' := hzb.hi
      generalize nth cuts i = z at *
      by_cases hz1 : 0 < z
      case neg =>
        have t9 : decide ((0 : Int) < z) = false := decide_eq_false hz1
        go_wp2
        go_meet
        exact ⟨m, Nat.le_refl _, hp, fun h => by omega, rfl, rfl⟩
      have t9 : decide ((0 : Int) < z) = true := decide_eq_true hz1
      by_cases hz2 : z ≤ (n : Int) - (m : Int)
      case neg =>
        have t10 : decide (z ≤ (n : Int) - (m : Int)) = false := decide_eq_false hz2
        go_wp2
        go_meet
        exact ⟨m, Nat.le_refl _, hp, fun h => by omega, rfl, rfl⟩
      have t10 : decide (z ≤ (n : Int) - (m : Int)) = true := decide_eq_true hz2
      go_wp2
      go_meet
      exact ⟨m + z.toNat, by omega, by omega, fun h => by omega, by rw [show ((m + z.toNat : Nat) : Int) = (m : Int) + z by omega], rfl⟩
    case rest =>
    obtain ⟨T, hT1, hT2, hT3, rfl, hwx⟩ := hcut
    obtain rfl := hwx.symm
    clear hwx
    obtain ⟨j, hj⟩ : ∃ j, j = i % 2 := ⟨_, rfl⟩
    have hj2 : j = 0 ∨ j = 1 := by omega
    have em : (i : Int) % 2 = (j : Int) := by omega
    have HPJ := Lib.hid (part_any w1.heap.size (1 + j) K m T wr ⟨by omega⟩ (HK8.out.below hbl.out) (HLD.out.below (HB8.out.trans (hbl.out.mono HB8.out.size))) (by omega) (by omega))
    unfold src at HPJ
    rw [HPT.out j m T hj2 hT1 hT2] at HPJ
    have ej := Lib.hid (show (1 : Int) + (j : Int) = ((1 + j : Nat) : Int) by omega)
    have hj3 : (j : Int) ≤ 1 := by omega
    have hj4 : (0 : Int) ≤ (j : Int) := by omega
    clear hj
    go_wp2_with fail
    try rw [ej.out]
    refine HPJ.out.mono ?_
    rintro e w9 ⟨a9, n9, c9, rfl, ho9, hb9⟩
    dsimp only at ho9
    have hn9 : n9 = T - m := by rw [← ho9.bs.1, List.length_take, List.length_drop, HN.out]; omega
    have hn9b : n9 ≤ 2000 := by omega
    have HN9 := Lib.hid hn9
    clear hn9
    have HO9 := Lib.hid ho9.bs
    have HW9 := Lib.hid (hown.out.below hb9)
    have HB9 := Lib.hid (hbl.out.trans (hb9.mono hbl.out.size))
    clear ho9 hb9 em ej
    go_wp2_with (at_builtin; refine app_own rfl _ _ rfl w8.heap.size rfl HW9.out rfl HO9.out (by omega) HB9.out.size ?_; intro a10 c10 w10 h10 hb10 _; have H10 := Lib.hid h10; have HB10 := Lib.hid (HB9.out.trans hb10); clear h10 hb10)
    have E10 : data.take m ++ (data.drop m).take (T - m) = data.take T := by rw [← List.take_add, show m + (T - m) = T by omega]
    rw [E10] at H10
    go_roundw
    case rel => exact ⟨i + 1, T, m + n9, c10, a10, by omega, hT2, fun h => hT3 (by omega), by have := HN9.out; omega, rfl, rfl, by go_num, H10, HB10⟩
    case measure => simp [intOf]; omega
end Go.Proofs.YtkbfefooaajhkaaDoor
