/- The walk of Make. -/
import Derived.Test.YtkbfefooaajhkaaDoorExM
import Derived.Test.YtkbfefooaajhkaaDoorXdG
set_option maxRecDepth 100000
set_option linter.unusedVariables false
set_option linter.unusedSimpArgs false
namespace Go.Proofs.YtkbfefooaajhkaaDoor
open Go.RowKit

theorem head_ok {data : List UInt8} {chunk : Nat} (hd : data.length ≤ 1000000) (h1 : 1 ≤ chunk) (h2 : chunk ≤ 16777216) : (Ex.head data chunk).Ok := ⟨by show data.length ≤ _; omega, h2, h1, by show 1 ≤ _; omega⟩
theorem wr_boxAt {w : World} {k : Nat} (hk : k = w.heap.size) (e : Wr) (a : Option Addr) (c : Nat) : WrAt (w.alloc (.cells #[.string (bstr e.key), .bool e.gone, .slice a e.val.length c] 33)) k 0 e a c := by subst hk; exact wr_box w e a c
theorem piece_len (data : List UInt8) (chunk k : Nat) (h : k * chunk < data.length) : (data.drop (k * chunk)).take (min chunk (data.length - k * chunk)) = Ex.piece data chunk k := by
  unfold Ex.piece
  rcases Nat.le_total chunk (data.length - k * chunk) with h' | h'
  · rw [Nat.min_eq_left h']
  · rw [Nat.min_eq_right h', List.take_of_length_le (by simp), List.take_of_length_le (by simp; omega)]
theorem n_le (n chunk : Nat) (h : 1 ≤ chunk) : (n + chunk - 1) / chunk ≤ n := by
  rw [← Nat.lt_succ_iff, Nat.div_lt_iff_lt_mul h, Nat.succ_mul]
  have := Nat.mul_le_mul_left n h
  omega
theorem round_facts {data : List UInt8} {id n chunk k : Nat} {H : Hd} (hn : data.length = n) (h1 : H.size = n) (h2 : H.chunk = chunk) (hc : 1 ≤ chunk) (hk : k < H.n) :
    ∃ m L : Nat, (k : Int) * (chunk : Int) = (m : Int) ∧ m + L ≤ n ∧ H.len k = L ∧ (n ≤ 1000000 → Ex.low (k : Int) = k) ∧ Ex.cw id data chunk k = ⟨Ex.ck id k, false, Codec.four (Codec.sum (Ex.piece data chunk k)) ++ Ex.piece data chunk k⟩ ∧ (Ex.cw id data chunk k).val.length = 4 + L ∧
      (data.drop m).take L = Ex.piece data chunk k ∧ k * H.chunk < H.size := by
  have hk' : k * chunk < n := by
    unfold Hd.n at hk; rw [h1, h2] at hk; exact n_mul hc hk
  have hkn : k < n := by have := Nat.mul_le_mul_left k hc; omega
  have hp := piece_len data chunk k (by omega)
  have hpl : (Ex.piece data chunk k).length = min chunk (n - k * chunk) := by unfold Ex.piece; rw [List.length_take, List.length_drop, hn]
  have hL : H.len k = min chunk (n - k * chunk) := by unfold Hd.len; rw [h1, h2]
  refine ⟨k * chunk, min chunk (n - k * chunk), by simp, by omega, hL, fun h => low_nat (by omega), rfl, ?_, ?_, by rw [h1, h2]; exact hk'⟩
  · show (Codec.four _ ++ Ex.piece data chunk k).length = _
    rw [List.length_append, hpl]
    rfl
  · rw [← hn]; exact hp
theorem cw_box {id : Nat} {data : List UInt8} {chunk k L : Nat} (W : World) (a : Option Addr) (c : Nat) (h : (Ex.cw id data chunk k).val.length = 4 + L) :
    WrAt (W.alloc (.cells #[.string (bstr (Ex.ck id k)), .bool false, .slice a (4 + L) c] 33)) W.heap.size 0 (Ex.cw id data chunk k) a c := by
  have := wr_box W (Ex.cw id data chunk k) a c
  rw [h] at this
  exact this
theorem cw_own {id : Nat} {data : List UInt8} {chunk k L B c : Nat} {W : World} {a : Option Addr} (h : (Ex.cw id data chunk k).val.length = 4 + L) (ho : Own W B a (4 + L) c (Codec.four (Codec.sum (Ex.piece data chunk k)) ++ Ex.piece data chunk k)) :
    Own W B a (Ex.cw id data chunk k).val.length c (Ex.cw id data chunk k).val := by rw [h]; exact ho
set_option maxHeartbeats 8000000 in
theorem make_any (id : Nat) (a : Option Addr) (n c : Nat) (data : List UInt8) (chunk : Nat) (w : World) (hu : U64 id) (h : Bs w a n c data) (h1 : 1 ≤ chunk) (h2 : chunk ≤ 16777216) (hn : n ≤ 1000000) (hL : Laid w) :
    Calls Tryd.prog 10 #[.int .u64 id, .slice a n c, .int .i64 chunk] w (RetW (Ex.make id data chunk) 0 w) := by
  have hle := h.le
  have hnc := h.2.1
  have HN := Lib.hid h.1
  have HE := Lib.hid h
  have HLD := Lib.hid hL
  have HOK := Lib.hid (head_ok (data := data) (by rw [h.1]; exact hn) h1 h2)
  have t1 : decide ((chunk : Int) < 1) = false := decide_eq_false (by omega)
  have t2 : decide ((16777216 : Int) < (chunk : Int)) = false := decide_eq_false (by omega)
  clear h hL
  go_enter Tryd.func10, Tryd.ntmps10
  go_wp2_with fail
  refine (sum_any _ 1 1 [data] _ (Bss.one HE.out)).mono ?_
  rintro e w1 ⟨rfl, hb1⟩
  rw [show ([data] : List (List UInt8)).flatten = data by simp]
  have HB1 : Hid (Below w.heap.size w w1) := Lib.hid ((Below.refl _ _).alloc (Nat.le_refl _) _ |>.trans (hb1.mono (le_alloc (Nat.le_refl _))))
  clear hb1
  have HH : Hid (Ex.head data chunk = ⟨n, chunk, 1, Codec.sum data⟩) := Lib.hid (by unfold Ex.head; rw [HN.out])
  obtain ⟨H, hH⟩ : ∃ H : Hd, H = ⟨n, chunk, 1, Codec.sum data⟩ := ⟨_, rfl⟩
  have HHE := Lib.hid (HH.out.trans hH.symm)
  have HOK2 : Hid H.Ok := Lib.hid (by rw [← HHE.out]; exact HOK.out)
  have hcells := hd_cells w1 H 52
  rw [hH] at hcells
  dsimp only at hcells
  rw [show ((1 : Nat) : Int) = 1 from rfl] at hcells
  obtain ⟨w2, hw2⟩ : ∃ w2, w1.alloc (.cells #[.int .i64 (n : Int), .int .i64 (chunk : Int), .int .i64 1, .int .u32 (n32 (Codec.sum data))] 52) = w2 := ⟨_, rfl⟩
  have hb12 : Below w1.heap.size w1 w2 := by rw [← hw2]; exact below_alloc1 _ _
  rw [hw2] at hcells
  have HVAL : Hid (hval H = .agg #[.int .i64 (n : Int), .int .i64 (chunk : Int), .int .i64 1, .int .u32 (n32 (Codec.sum data))]) := Lib.hid (by rw [hH]; rfl)
  have HB2 := Lib.hid (HB1.out.trans (hb12.mono HB1.out.size))
  have VS := Lib.hid (fun (W : World) (k : Below w2.heap.size w2 W) => And.intro (cell_later k hcells.1) (And.intro (cell_later k hcells.2.1) (And.intro (cell_later k hcells.2.2.1) (cell_later k hcells.2.2.2))))
  have HW2 := Lib.hid hw2
  have HLD2 := Lib.hid (HLD.out.below (HB2.out))
  have HLT : Hid (w1.heap.size < w2.heap.size) := Lib.hid (World.block_lt_of_cell? _ _ hcells.1)
  clear hcells hw2 hb12
  have HSZ : Hid (H.size = n ∧ H.chunk = chunk) := Lib.hid (by rw [hH]; exact ⟨rfl, rfl⟩)
  clear hH
  go_upto_region 4 with fail
  rw [HW2.out]
  clear HW2
  obtain ⟨c0, c1, c2, c3⟩ := VS.out w2 (Below.refl _ _)
  refine wp_region_order [0] [2] [1, 3] [4, 5, 6] 4 (by intro c a d v w h; cases d <;> exact h) (by kernel_rfl) (by kernel_rfl) (fun W' => ∃ V : BW w2, W' = V.w) ⟨⟨w2.drew, (Below.refl _ _).drew⟩, rfl⟩ ?_
  simp only [opsAt, List.filterMap_cons, List.filterMap_nil, List.getElem?_cons_zero, List.getElem?_cons_succ]
  apply held_step
  · rfl
  · rintro _ _
    go_simp
    rfl
  refine held_nil ?_
  apply held_step
  · rfl
  · rintro _ ⟨V, rfl⟩
    have m0 := BW.cell c0 V
    have m1 := BW.cell c1 V
    have m2 := BW.cell c2 V
    have m3 := BW.cell c3 V
    go_simp
    rfl
  refine held_nil ?_
  have HBC : Below w2.heap.size w2 w2.drew := (Below.refl _ _).drew
  refine walkS_step rfl (fun K hK => ?_)
  go_simp
  refine (key_any id hu _ (HLD2.out.below HBC)).mono ?_
  rintro e w3 ⟨rfl, hb3⟩
  have HB3 := HBC.trans hb3
  refine hK _ _ ⟨⟨w3, HB3⟩, rfl⟩ ?_
  clear hK
  refine walkS_step rfl (fun K hK => ?_)
  go_simp
  rw [← HVAL.out]
  refine (hbytes_any H _ HOK2.out).mono ?_
  rintro e w4 ⟨a4, n4, k4, rfl, ho4, hb4⟩
  have HB4 := HB3.trans (hb4.mono HB3.size)
  refine hK _ _ ⟨⟨w4, HB4⟩, rfl⟩ ?_
  clear hK
  refine walkS_nil ?_
  have hl4 : n4 = H.bytes.length := ho4.bs.1.symm
  subst hl4
  have HM0 : Hid (MadeW (w4.alloc (.cells #[.string (bstr (Ex.key id)), .bool false, .slice a4 H.bytes.length k4] 33)) w2.heap.size (some ⟨w4.heap.size, 0, none⟩) 1 1 [⟨Ex.key id, false, H.bytes⟩]) :=
    Lib.hid (MadeW.one (e := ⟨Ex.key id, false, H.bytes⟩) rfl HB4.size (ho4.mono HB3.size))
  have HB5 : Hid (Below w2.heap.size w2 (w4.alloc (.cells #[.string (bstr (Ex.key id)), .bool false, .slice a4 H.bytes.length k4] 33))) := Lib.hid (HB4.alloc HB4.size _)
  clear ho4 hb3 hb4 HB3 HB4 HBC c0 c1 c2 c3
  go_upto_region 5 with fail
  obtain ⟨w5, hw5⟩ : ∃ w5, (w4.alloc (.cells #[.string (bstr (Ex.key id)), .bool false, .slice a4 H.bytes.length k4] 33)) = w5 := ⟨_, rfl⟩
  rw [hw5] at HM0 HB5
  rw [hw5]
  clear hw5
  obtain ⟨c0, c1, c2, c3⟩ := VS.out w5 HB5.out
  go_wp2_with fail
  rw [← HVAL.out]
  refine (chunks_any H _ HOK2.out).mono ?_
  rintro e w6 ⟨rfl, hb6⟩
  have HB6 := Lib.hid (HB5.out.trans (hb6.mono HB5.out.size))
  have HMK : Hid (Ex.make id data chunk = Ex.makeTo id data chunk H.n) := Lib.hid (by unfold Ex.make Ex.makeTo; rw [HHE.out])
  have HM6 : Hid (MadeW w6 w2.heap.size (some ⟨w4.heap.size, 0, none⟩) 1 1 (Ex.makeTo id data chunk 0)) := Lib.hid (by
    have e0 : Ex.makeTo id data chunk 0 = [⟨Ex.key id, false, H.bytes⟩] := by unfold Ex.makeTo; rw [HHE.out]; rfl
    rw [e0]; exact HM0.out.below hb6)
  have hN : H.n ≤ n := by unfold Hd.n; rw [HSZ.out.1, HSZ.out.2]; exact n_le n chunk h1
  have HPC := Lib.hid (fun k (hk : k < H.n) => round_facts (data := data) (id := id) HN.out HSZ.out.1 HSZ.out.2 h1 hk)
  clear hb6 HM0 HB5 c0 c1 c2 c3
  generalize hNN : H.n = N at *
  clear hNN
  go_wp2_with fail
  go_loopw [9, 33] (fun ov iv wr => ∃ (k co : Nat) (ao : Option Addr), k ≤ N ∧ iv = .int .i64 k ∧ ov = .slice ao (k + 1) co ∧ Hid (MadeW wr w2.heap.size ao (k + 1) co (Ex.makeTo id data chunk k)) ∧ Hid (Below w2.heap.size w2 wr)) (fun _ iv _ => N - (intOf iv).toNat)
  case atStart => exact ⟨0, 1, _, Nat.zero_le _, rfl, rfl, HM6, HB6⟩
  case round =>
    obtain ⟨k, co, ao, hk, rfl, rfl, hac, hbl⟩ := hrel
    by_cases hkn : k < N
    · have HWR := Lib.hid (HB2.out.trans (hbl.out.mono HB2.out.size))
      obtain ⟨c0, c1, c2, c3⟩ := VS.out wr hbl.out
      obtain ⟨m, L, hm, hmL, hLen, hlow, hck, hLe, hpl, hmn⟩ := HPC.out k hkn
      have HLOW := Lib.hid (hlow hn)
      have HCK := Lib.hid hck
      have HPL := Lib.hid hpl
      have HLEN := Lib.hid hLen
      have HKC := Lib.hid hmn
      obtain ⟨ab, hab⟩ : ∃ ab, ab = subA a c m := ⟨_, rfl⟩
      obtain ⟨cb, hcb⟩ : ∃ cb, cb = c - m := ⟨_, rfl⟩
      have hsl : ∀ W, (Instr.slice 22 (.slice a n c) (some (.int .i64 (m : Int))) (some (.int .i64 ((m : Int) + (L : Int)))) none).run Tryd.prog W = .ok (.slice ab L cb) W := by
        intro W
        have := slice_lh a n c (lo := (m : Int)) (hi := (m : Int) + (L : Int)) (lo' := m) (hi' := m + L) rfl (by simp) (by omega) (by omega) W
        rw [this, hab, hcb, Nat.add_sub_cancel_left]
      have HBS : Hid (Bs w ab L cb (Ex.piece data chunk k)) := Lib.hid (by
        have := HE.out.sub (lo := m) (hi := m + L) (by omega) (by omega)
        rw [← hab, ← hcb, Nat.add_sub_cancel_left, HPL.out] at this
        exact this)
      clear hlow hck hpl hLen hab hcb hmn
      go_wp2_with fail
      rw [← HVAL.out]
      refine (length_any H k _ HOK2.out HKC.out).mono ?_
      rintro e w7 ⟨rfl, hb7⟩
      rw [HLEN.out]
      have HB7 := Lib.hid hb7
      have HBW7 := Lib.hid (HB2.out.trans ((hbl.out.trans (hb7.mono hbl.out.size)).mono HB2.out.size))
      clear hb7 c0 c1 c2 c3
      go_wp2_with fail
      refine (ck_any id (k : Int) hu _ (HLD.out.below HBW7.out)).mono ?_
      rintro e w8 ⟨rfl, hb8⟩
      rw [HLOW.out]
      have HB8 := Lib.hid (HB7.out.trans (hb8.mono HB7.out.size))
      have HBW8 := Lib.hid (HBW7.out.trans (hb8.mono HBW7.out.size))
      clear hb8 HB7 HBW7
      go_wp2_with fail
      refine (sum_any _ 1 1 [Ex.piece data chunk k] _ (Bss.one (HBS.out.below HBW8.out))).mono ?_
      rintro e w9 ⟨rfl, hb9⟩
      rw [show ([Ex.piece data chunk k] : List (List UInt8)).flatten = Ex.piece data chunk k by simp]
      have HB89 := Lib.hid (((Below.refl _ _).alloc (Nat.le_refl _) (.cells #[.slice ab L cb] 22)).trans (hb9.mono (le_alloc (Nat.le_refl _))))
      have HB9 := Lib.hid (HB8.out.trans (HB89.out.mono HB8.out.size))
      have HBW9 := Lib.hid (HBW8.out.trans (HB89.out.mono HBW8.out.size))
      clear hb9 HB8 HBW8 HB89
      go_wp2_with fail
      refine (pfour_any wr.heap.size none 0 0 [] (Codec.sum (Ex.piece data chunk k)) _ HB9.out.size (Own.nil _ _) (by omega)).mono ?_
      rintro e w10 ⟨a10, n10, c10, rfl, ho10, hb10, hev10⟩
      have hn10 : n10 = 4 := ho10.bs.1.symm
      subst hn10
      rw [List.nil_append] at ho10
      have HO10 := Lib.hid ho10
      have HB10 := Lib.hid (HB9.out.trans hb10)
      have HBS10 := Lib.hid (HBS.out.below (HBW9.out.trans (hb10.mono HWR.out.size)))
      clear ho10 hb10 hev10 HB9 HBW9
      have HWB := Lib.hid (fun (W : World) (q : Option Addr) (z : Nat) => cw_box (id := id) (data := data) (chunk := chunk) (k := k) W q z hLe)
      have HLE := Lib.hid hLe
      clear hLe
      go_wp2_with (first
        | (at_builtin; refine app_own rfl _ _ rfl wr.heap.size rfl HO10.out rfl HBS10.out (by omega) HB10.out.size ?_; intro a11 c11 w11 h11 hb11 hev11; have H11 := Lib.hid (cw_own HLE.out h11); have HB11 := Lib.hid (HB10.out.trans hb11); clear h11 hb11 hev11)
        | (at_builtin; refine app_made (w0 := wr) rfl _ _ rfl w2.heap.size rfl hac.out (HB11.out.alloc HB11.out.size _) hbl.out.size rfl (HWB.out _ _ _) (H11.out.alloc _) (by omega) ?_; intro a12 c12 w12 h12 hb12 hev12; have H12 := Lib.hid h12; have HB12 := Lib.hid (hbl.out.trans (((HB11.out.alloc HB11.out.size _).mono hbl.out.size).trans hb12)); clear h12 hb12 hev12))
      go_roundw
      case rel => exact ⟨k + 1, c12, a12, by omega, by go_num, rfl, by rw [makeTo_succ]; exact H12, HB12⟩
      case measure => simp [intOf]; omega
    · obtain rfl : k = N := by omega
      rw [← HMK.out] at hac
      go_wp2
      go_ret2
      exact ⟨ao, k + 1, co, rfl, hac.out.mono HB2.out.size, HB2.out.trans (hbl.out.mono HB2.out.size)⟩
end Go.Proofs.YtkbfefooaajhkaaDoor
