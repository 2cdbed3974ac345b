/- Make, the reference's; chunks that may not be. -/
import Derived.Test.YtkbfefooaajhkaaDoorExRr
set_option maxRecDepth 100000
set_option linter.unusedVariables false
set_option linter.unusedSimpArgs false
namespace Go.Proofs.YtkbfefooaajhkaaDoor
open Go.RowKit

def Ex.mk (id : Nat) (data : List UInt8) (z : Int) : List Wr × Nat := if z < 1 ∨ 16777216 < z then ([], 1) else (Ex.make id data z.toNat, 0)
theorem mk_bad (id : Nat) (data : List UInt8) (z : Int) (h : z < 1 ∨ 16777216 < z) : Ex.mk id data z = ([], 1) := by unfold Ex.mk; rw [if_pos h]
theorem mk_ok (id : Nat) (data : List UInt8) (c : Nat) (h1 : 1 ≤ c) (h2 : c ≤ 16777216) : Ex.mk id data c = (Ex.make id data c, 0) := by unfold Ex.mk; rw [if_neg (by omega)]; rfl
set_option maxHeartbeats 2000000 in
theorem mk_any (id : Nat) (a : Option Addr) (n c : Nat) (data : List UInt8) (z : Int) (w : World) (hu : U64 id) (h : Bs w a n c data) (hn : n ≤ 1000000) (hL : Laid w) :
    Calls Tryd.prog 10 #[.int .u64 id, .slice a n c, .int .i64 z] w (RetW (Ex.mk id data z).1 ((Ex.mk id data z).2 : Nat) w) := by
  by_cases hz : z < 1 ∨ 16777216 < z
  · rw [mk_bad id data z hz]
    clear h hL
    by_cases hz1 : z < 1
    · have t1 : decide (z < 1) = true := decide_eq_true hz1
      clear hz
      go_enter Tryd.func10, Tryd.ntmps10
      go_wp2
      go_ret2
      exact retw_nil (Below.refl _ _)
    · have t1 : decide (z < 1) = false := decide_eq_false hz1
      have t2 : decide (16777216 < z) = true := decide_eq_true (by omega)
      clear hz
      go_enter Tryd.func10, Tryd.ntmps10
      go_wp2
      go_ret2
      exact retw_nil (Below.refl _ _)
  · obtain ⟨k, rfl⟩ : ∃ k : Nat, z = (k : Int) := ⟨z.toNat, by omega⟩
    rw [mk_ok id data k (by omega) (by omega)]
    exact make_any id a n c data k w hu h (by omega) (by omega) hn hL
set_option maxHeartbeats 8000000 in
theorem rmake_any (id : Nat) (a : Option Addr) (n c : Nat) (data : List UInt8) (chunk : Nat) (w : World) (hu : U64 id) (h : Bs w a n c data) (h1 : 1 ≤ chunk) (h2 : chunk ≤ 16777216) (hn : n ≤ 1000000) :
    Calls Tryd.prog 14 #[.int .u64 id, .slice a n c, .int .i64 chunk] w (RetW (Ex.make id data chunk) 0 w) := by
  have hle := h.le
  have hnc := h.2.1
  have HN := Lib.hid h.1
  have HE := Lib.hid h
  have HOK := Lib.hid (head_ok (data := data) (by rw [h.1]; exact hn) h1 h2)
  have t1 : decide ((chunk : Int) < 1) = false := decide_eq_false (by omega)
  have t2 : decide ((16777216 : Int) < (chunk : Int)) = false := decide_eq_false (by omega)
  have HRS := Lib.hid (fun W (hb : Below w.heap.size w W) => refsum_any a n c data W (HE.out.below hb))
  have HH : Hid (Ex.head data chunk = ⟨n, chunk, 1, Codec.sum data⟩) := Lib.hid (by unfold Ex.head; rw [HN.out])
  obtain ⟨H, hH⟩ : ∃ H : Hd, H = ⟨n, chunk, 1, Codec.sum data⟩ := ⟨_, rfl⟩
  have HHE := Lib.hid (HH.out.trans hH.symm)
  have HOK2 : Hid H.Ok := Lib.hid (by rw [← HHE.out]; exact HOK.out)
  have HVAL : Hid (hval H = .agg #[.int .i64 (n : Int), .int .i64 (chunk : Int), .int .i64 1, .int .u32 (n32 (Codec.sum data))]) := Lib.hid (by rw [hH]; rfl)
  have HSZ : Hid (H.size = n ∧ H.chunk = chunk) := Lib.hid (by rw [hH]; exact ⟨rfl, rfl⟩)
  have HMK : Hid (Ex.make id data chunk = Ex.makeTo id data chunk H.n) := Lib.hid (by unfold Ex.make Ex.makeTo; rw [HHE.out])
  have HPC := Lib.hid (fun k (hk : k < H.n) => round_facts (data := data) (id := id) HN.out HSZ.out.1 HSZ.out.2 h1 hk)
  have HNL := Lib.hid (fun k => n_lt HOK2.out (n := k))
  rw [HSZ.out.1, HSZ.out.2] at HNL
  have hN : H.n ≤ n := by unfold Hd.n; rw [HSZ.out.1, HSZ.out.2]; exact n_le n chunk h1
  have HLE : Hid (∀ k, H.len k = min chunk (n - k * chunk)) := Lib.hid (fun k => by unfold Hd.len; rw [HSZ.out.1, HSZ.out.2])
  have HM0L : Hid (Ex.makeTo id data chunk 0 = [⟨Ex.key id, false, H.bytes⟩]) := Lib.hid (by unfold Ex.makeTo; rw [HHE.out]; rfl)
  clear h hH
  go_enter Tryd.func14, Tryd.ntmps14
  go_wp2_with fail
  refine (rkey_any id hu _).mono ?_
  rintro e w1 ⟨rfl, hb1⟩
  have HB1 := Lib.hid hb1
  clear hb1
  go_wp2_with fail
  refine (HRS.out _ HB1.out).mono ?_
  rintro e w2 ⟨rfl, rfl⟩
  go_wp2_with fail
  rw [← HVAL.out]
  refine (headed_any H _ HOK2.out).mono ?_
  rintro e w3 ⟨a3, n3, c3, rfl, ho3, hb3⟩
  have hl3 : n3 = H.bytes.length := ho3.bs.1.symm
  subst hl3
  have HB3 := Lib.hid (HB1.out.trans (hb3.mono HB1.out.size))
  have HM3 : Hid (MadeW (w3.alloc (.cells #[.string (bstr (Ex.key id)), .bool false, .slice a3 H.bytes.length c3] 33)) w.heap.size (some ⟨w3.heap.size, 0, none⟩) 1 1 (Ex.makeTo id data chunk 0)) := Lib.hid (by
    rw [HM0L.out]
    exact MadeW.one (e := ⟨Ex.key id, false, H.bytes⟩) rfl HB3.out.size (ho3.mono HB1.out.size))
  obtain ⟨w4, hw4⟩ : ∃ w4, (w3.alloc (.cells #[.string (bstr (Ex.key id)), .bool false, .slice a3 H.bytes.length c3] 33)) = w4 := ⟨_, rfl⟩
  rw [hw4] at HM3
  have HB4 : Hid (Below w.heap.size w w4) := Lib.hid (by rw [← hw4]; exact HB3.out.alloc HB3.out.size _)
  have HW4 := Lib.hid hw4
  clear hb3 ho3 hw4
  go_upto_region 4 with fail
  rw [HW4.out]
  clear HW4
  generalize H.n = N at *
  go_wp2_with fail
  go_loopw [8, 9, 10] (fun ov iv qv wr => ∃ (k q co : Nat) (ao : Option Addr), k ≤ N ∧ Hid (q = k * chunk) ∧ q ≤ n + chunk ∧ qv = .int .i64 q ∧ iv = .int .i64 k ∧ ov = .slice ao (k + 1) co ∧ Hid (MadeW wr w.heap.size ao (k + 1) co (Ex.makeTo id data chunk k)) ∧ Hid (Below w.heap.size w wr)) (fun _ iv _ _ => N - (intOf iv).toNat)
  case atStart => exact ⟨0, 0, 1, _, Nat.zero_le _, Lib.hid (by simp), by omega, rfl, rfl, rfl, HM3, HB4⟩
  case round =>
    obtain ⟨k, q, co, ao, hk, HQ, hqb, rfl, rfl, rfl, hac, hbl⟩ := hrel
    by_cases hkn : k < N
    · obtain ⟨m, L, hm, hmL, hLen, hlow, hck, hLe, hpl, hmn⟩ := HPC.out k hkn
      obtain rfl : m = q := by have := HQ.out; rw [this]; exact_mod_cast hm.symm
      have hmlt : m < n := by have := (HNL.out k).1 hkn; rw [← HQ.out] at this; exact this
      have hLm : L = min chunk (n - m) := by rw [← hLen, HLE.out k, ← HQ.out]
      have HLOW := Lib.hid (hlow hn)
      have HCK := Lib.hid hck
      have HPL := Lib.hid hpl
      have HQ2 : Hid (m + chunk = (k + 1) * chunk) := Lib.hid (by rw [Nat.succ_mul, ← HQ.out])
      have hsl : ∀ (E : Nat), E = m + L → ∀ W, (Instr.slice 22 (.slice a n c) (some (.int .i64 (m : Int))) (some (.int .i64 (E : Int))) none).run Tryd.prog W = .ok (.slice (subA a c m) L (c - m)) W := by
        intro E hE W
        have := slice_lh a n c (lo := (m : Int)) (hi := (E : Int)) (lo' := m) (hi' := E) rfl rfl (by omega) (by omega) W
        rw [this, hE, Nat.add_sub_cancel_left]
      have HSL := Lib.hid hsl
      have HBS : Hid (Bs w (subA a c m) L (c - m) (Ex.piece data chunk k)) := Lib.hid (by
        have := HE.out.sub (lo := m) (hi := m + L) (by omega) (by omega)
        rw [Nat.add_sub_cancel_left, HPL.out] at this
        exact this)
      have HWB := Lib.hid (fun (W : World) (q : Option Addr) (z : Nat) => cw_box (id := id) (data := data) (chunk := chunk) (k := k) W q z hLe)
      have HLEc := Lib.hid hLe
      have HCKY := Lib.hid (fun (W : World) => by have := rck_any id (k : Int) hu (by omega) W; rw [HLOW.out] at this; exact this)
      generalize subA a c m = ab at *
      generalize c - m = cb at *
      clear hlow hck hpl hLen hLe hsl hm hmn
      have hwm : decide (m < n) = true := decide_eq_true hmlt
      by_cases hch : chunk < n - m
      · skip
        have t3 : decide ((chunk : Int) < (n : Int) - (m : Int)) = true := decide_eq_true (by omega)
        have hs2 : ∀ W, (Instr.slice 22 (.slice a n c) (some (.int .i64 (m : Int))) (some (.int .i64 ((m : Int) + (chunk : Int)))) none).run Tryd.prog W = .ok (.slice ab L cb) W := fun W => by
          have := HSL.out (m + chunk) (by omega) W
          rw [Int.natCast_add] at this
          exact this
        clear hch hLm
        go_wp2_with fail
        refine (HCKY.out _).mono ?_
        rintro e w6 ⟨rfl, hb6⟩
        have HB6 := Lib.hid hb6
        clear hb6
        go_wp2_with fail
        refine (refsum_any ab L cb (Ex.piece data chunk k) _ (HBS.out.below (hbl.out.trans (HB6.out.mono hbl.out.size)))).mono ?_
        rintro e w7 ⟨rfl, rfl⟩
        go_wp2_with fail
        refine (four_any wr.heap.size none 0 0 [] (Codec.sum (Ex.piece data chunk k)) _ HB6.out.size (Own.nil _ _) (by omega)).mono ?_
        rintro e w10 ⟨a10, n10, c10, rfl, ho10, hb10, hev10⟩
        have hn10 : n10 = 4 := ho10.bs.1.symm
        subst hn10
        rw [List.nil_append] at ho10
        have HO10 := Lib.hid ho10
        have HB10 := Lib.hid (HB6.out.trans hb10)
        have HBS10 := Lib.hid (HBS.out.below (hbl.out.trans (HB10.out.mono hbl.out.size)))
        clear ho10 hb10 hev10 HB6
        go_wp2_with (first
          | (at_builtin; refine app_own rfl _ _ rfl wr.heap.size rfl HO10.out rfl HBS10.out (by omega) HB10.out.size ?_; intro a11 c11 w11 h11 hb11 hev11; have H11 := Lib.hid (cw_own HLEc.out h11); have HB11 := Lib.hid (HB10.out.trans hb11); clear h11 hb11 hev11)
          | (at_builtin; refine app_made (w0 := wr) rfl _ _ rfl w.heap.size rfl hac.out (HB11.out.alloc HB11.out.size _) hbl.out.size rfl (HWB.out _ _ _) (H11.out.alloc _) (by omega) ?_; intro a12 c12 w12 h12 hb12 hev12; have H12 := Lib.hid h12; have HB12 := Lib.hid (hbl.out.trans (((HB11.out.alloc HB11.out.size _).mono hbl.out.size).trans hb12)); clear h12 hb12 hev12))
        go_roundw
        case rel => exact ⟨k + 1, m + chunk, c12, a12, by omega, HQ2, by omega, by go_num, by go_num, rfl, by rw [makeTo_succ]; exact H12, HB12⟩
        case measure => simp [intOf]; omega
      · skip
        have t3 : decide ((chunk : Int) < (n : Int) - (m : Int)) = false := decide_eq_false (by omega)
        have hs2 : ∀ W, (Instr.slice 22 (.slice a n c) (some (.int .i64 (m : Int))) (some (.int .i64 (n : Int))) none).run Tryd.prog W = .ok (.slice ab L cb) W := fun W => by
          have := HSL.out (n) (by omega) W
          skip
          exact this
        clear hch hLm
        go_wp2_with fail
        refine (HCKY.out _).mono ?_
        rintro e w6 ⟨rfl, hb6⟩
        have HB6 := Lib.hid hb6
        clear hb6
        go_wp2_with fail
        refine (refsum_any ab L cb (Ex.piece data chunk k) _ (HBS.out.below (hbl.out.trans (HB6.out.mono hbl.out.size)))).mono ?_
        rintro e w7 ⟨rfl, rfl⟩
        go_wp2_with fail
        refine (four_any wr.heap.size none 0 0 [] (Codec.sum (Ex.piece data chunk k)) _ HB6.out.size (Own.nil _ _) (by omega)).mono ?_
        rintro e w10 ⟨a10, n10, c10, rfl, ho10, hb10, hev10⟩
        have hn10 : n10 = 4 := ho10.bs.1.symm
        subst hn10
        rw [List.nil_append] at ho10
        have HO10 := Lib.hid ho10
        have HB10 := Lib.hid (HB6.out.trans hb10)
        have HBS10 := Lib.hid (HBS.out.below (hbl.out.trans (HB10.out.mono hbl.out.size)))
        clear ho10 hb10 hev10 HB6
        go_wp2_with (first
          | (at_builtin; refine app_own rfl _ _ rfl wr.heap.size rfl HO10.out rfl HBS10.out (by omega) HB10.out.size ?_; intro a11 c11 w11 h11 hb11 hev11; have H11 := Lib.hid (cw_own HLEc.out h11); have HB11 := Lib.hid (HB10.out.trans hb11); clear h11 hb11 hev11)
          | (at_builtin; refine app_made (w0 := wr) rfl _ _ rfl w.heap.size rfl hac.out (HB11.out.alloc HB11.out.size _) hbl.out.size rfl (HWB.out _ _ _) (H11.out.alloc _) (by omega) ?_; intro a12 c12 w12 h12 hb12 hev12; have H12 := Lib.hid h12; have HB12 := Lib.hid (hbl.out.trans (((HB11.out.alloc HB11.out.size _).mono hbl.out.size).trans hb12)); clear h12 hb12 hev12))
        go_roundw
        case rel => exact ⟨k + 1, m + chunk, c12, a12, by omega, HQ2, by omega, by go_num, by go_num, rfl, by rw [makeTo_succ]; exact H12, HB12⟩
        case measure => simp [intOf]; omega
    · obtain rfl : k = N := by omega
      have hwm : decide (q < n) = false := decide_eq_false (by
        intro h
        rw [HQ.out] at h
        exact hkn ((HNL.out k).2 h))
      rw [← HMK.out] at hac
      go_wp2
      go_ret2
      exact ⟨ao, k + 1, co, rfl, hac.out, hbl.out⟩
set_option maxHeartbeats 2000000 in
theorem rmk_any (id : Nat) (a : Option Addr) (n c : Nat) (data : List UInt8) (z : Int) (w : World) (hu : U64 id) (h : Bs w a n c data) (hn : n ≤ 1000000) :
    Calls Tryd.prog 14 #[.int .u64 id, .slice a n c, .int .i64 z] w (RetW (Ex.mk id data z).1 ((Ex.mk id data z).2 : Nat) w) := by
  by_cases hz : z < 1 ∨ 16777216 < z
  · rw [mk_bad id data z hz]
    clear h
    by_cases hz1 : z < 1
    · have t1 : decide (z < 1) = true := decide_eq_true hz1
      clear hz
      go_enter Tryd.func14, Tryd.ntmps14
      go_wp2
      go_ret2
      exact retw_nil (Below.refl _ _)
    · have t1 : decide (z < 1) = false := decide_eq_false hz1
      have t2 : decide (16777216 < z) = true := decide_eq_true (by omega)
      clear hz
      go_enter Tryd.func14, Tryd.ntmps14
      go_wp2
      go_ret2
      exact retw_nil (Below.refl _ _)
  · obtain ⟨k, rfl⟩ : ∃ k : Nat, z = (k : Int) := ⟨z.toNat, by omega⟩
    rw [mk_ok id data k (by omega) (by omega)]
    exact rmake_any id a n c data k w hu h (by omega) (by omega) hn
end Go.Proofs.YtkbfefooaajhkaaDoor
