/- Sorted tables: the reference's eight; the indexes. -/
import Derived.Test.YtchdmjnhjonddaaSbC
set_option maxRecDepth 100000
set_option linter.unusedVariables false
set_option linter.unusedSimpArgs false
namespace Go.Proofs.Ytchdmjnhjonddaa
open Go.RowKit

set_option maxHeartbeats 1000000 in
theorem reight_any (B : Nat) (a : Option Addr) (n c : Nat) (l : List UInt8) (v : Nat) (w : World) (hB : B ≤ w.heap.size) (h : Own w B a n c l) (hn : n ≤ 1000000000) (hv : v ≤ 1000000000) :
    Calls Try.prog 77 #[.slice a n c, .int .i64 v] w (RetE w B a (l ++ Codec.low 8 v)) := by
  go_enter Try.func77, Try.ntmps77
  go_wp2_with fail
  go_loopw [0, 5] (fun s i wr => ∃ (a' : Option Addr) (c' m : Nat), m ≤ 8 ∧ i = .int .i64 m ∧ s = .slice a' (n + m) c' ∧ Hid (Own wr B a' (n + m) c' (l ++ Codec.low m v)) ∧ Hid (Below B w wr) ∧ Hid (Evol w a wr a')) (fun _ i _ => 8 - (intOf i).toNat)
  case atStart => exact ⟨a, c, 0, by omega, rfl, rfl, Lib.hid (by simpa [Codec.low] using h), Lib.hid (Below.refl _ _), Lib.hid (Evol.refl _ _)⟩
  case round =>
    obtain ⟨a', c', m, hm, rfl, rfl, HO, HB, HE⟩ := hrel
    have hbz := Nat.le_trans hB HB.out.size
    by_cases hlt : m < 8
    · have t1 : decide (m < 8) = true := decide_eq_true hlt
      have hbyte : (v : Int) / 2 ^ (8 * m) % 256 = n8 (UInt8.ofNat (v / 256 ^ m)) := by
        unfold n8
        rw [UInt8.toNat_ofNat', show (256 : Nat) ^ m = 2 ^ (8 * m) by rw [Nat.pow_mul]]
        simp
      have HQ : Hid (Bs (wr.alloc (.cells #[.int .u8 ((v : Int) / 2 ^ (8 * m) % 256)] 5)) (some ⟨wr.heap.size, 0, none⟩) 1 1 [UInt8.ofNat (v / 256 ^ m)]) := Lib.hid (by rw [hbyte]; exact Bs.one _ _)
      clear hbyte
      go_wp2_with (at_builtin; refine app_own rfl _ _ rfl B rfl (HO.out.alloc _) rfl HQ.out (by omega) (le_alloc hbz) ?_; intro a1 c1 w1 h1 h2 h3; have H1 := Lib.hid h1; have H2 := Lib.hid (HB.out.trans (((Below.refl _ _).alloc hbz _).trans h2)); have H3 := Lib.hid (HE.out.trans ((Evol.alloc _ _ _).trans h3)); clear h1 h2 h3)
      go_roundw
      case rel => exact ⟨a1, c1, m + 1, by omega, by go_num, rfl, by rw [low_snoc, ← List.append_assoc]; exact H1, H2, H3⟩
      case measure => simp [intOf]; omega
    · obtain rfl : m = 8 := by omega
      go_wp2
      go_ret
      exact ⟨_, _, _, rfl, HO.out, HB.out, HE.out⟩
/-- The cells of a block that is read. -/
theorem Rd.bk {w : World} {a : Option Addr} {n c : Nat} {l : List Bk} (h : Rd celB w a n c l) {i : Nat} (hi : i < n) : ∃ b off, a = some ⟨b, off, none⟩ ∧ w.cell? ⟨b, off + i * 3, none⟩ = some (.string (bstr (nth l i).first)) ∧ w.cell? ⟨b, off + i * 3 + 1, none⟩ = some (.int .i64 (nth l i).pos) ∧ w.cell? ⟨b, off + i * 3 + 2, none⟩ = some (.int .i64 (nth l i).len) := by
  obtain ⟨b, off, e, g⟩ := h.2.2.2 i hi
  exact ⟨b, off, e, g 0 _ rfl, g 1 _ rfl, g 2 _ rfl⟩
theorem Rd.br {w : World} {a : Option Addr} {n c : Nat} {l : List Bk} (h : Rd celR w a n c l) {i : Nat} (hi : i < n) : ∃ b off, a = some ⟨b, off, none⟩ ∧ w.cell? ⟨b, off + i * 3, none⟩ = some (.int .i64 (nth l i).pos) ∧ w.cell? ⟨b, off + i * 3 + 1, none⟩ = some (.int .i64 (nth l i).len) ∧ w.cell? ⟨b, off + i * 3 + 2, none⟩ = some (.string (bstr (nth l i).first)) := by
  obtain ⟨b, off, e, g⟩ := h.2.2.2 i hi
  exact ⟨b, off, e, g 0 _ rfl, g 1 _ rfl, g 2 _ rfl⟩
theorem Rd.le {α : Type} [Inhabited α] {C : Cel α} {w : World} {a : Option Addr} {n c : Nat} {l : List α} (h : Rd C w a n c l) : n ≤ 9223372036854775807 ∧ c ≤ 9223372036854775807 := by
  have := h.2.1; have := h.2.2.1; simp only [maxLen] at *; omega
set_option maxHeartbeats 4000000 in
theorem rindex_any (B : Nat) (a : Option Addr) (n c : Nat) (l : List Bk) (w : World) (hB : B ≤ w.heap.size) (h : Rd celR w a n c l) (hok : BkOk l) (hn : n ≤ 1000) :
    Calls Try.prog 75 #[.slice a n c] w (RetB w w.heap.size (Sst.index l)) := by
  have hle := h.le.1
  have HN := Lib.hid h.1
  have HL := Lib.hid h
  have HOK := Lib.hid hok
  clear h hok
  go_enter Try.func75, Try.ntmps75
  go_wp2_with fail
  go_loopw [3, 4] (fun s i wr => ∃ (a' : Option Addr) (m c' k : Nat), k ≤ n ∧ m ≤ k * 100030 ∧ i = .int .i64 k ∧ s = .slice a' m c' ∧ Hid (Own wr w.heap.size a' m c' (Sst.index (l.take k))) ∧ Hid (Below w.heap.size w wr)) (fun _ i _ => n - (intOf i).toNat)
  case atStart => exact ⟨none, 0, 0, 0, by omega, by omega, rfl, rfl, Lib.hid (Own.nil _ _), Lib.hid (Below.refl _ _)⟩
  case round =>
    obtain ⟨a', m, c', k, hk, hm, rfl, rfl, HO, HB⟩ := hrel
    by_cases hlt : k < n
    case neg =>
      obtain rfl : n = k := by omega
      go_wp2
      go_ret
      have e1 : l.take n = l := by rw [← HN.out, List.take_length]
      exact ⟨_, _, _, rfl, by rw [← e1]; exact HO.out, HB.out⟩
    obtain ⟨b, off, rfl, g0, g1, g2⟩ := HL.out.br hlt
    have hsz := HOK.out.at (i := k) (by rw [HN.out]; exact hlt)
    have HSN := Lib.hid (index_snoc l (i := k) (by rw [HN.out]; exact hlt))
    have HIX := Lib.hid (ix_len hsz)
    have HGET := Lib.hid (fun W (hb : Below w.heap.size w W) => And.intro (cell_later hb g0) (And.intro (cell_later hb g1) (cell_later hb g2)))
    have hmb : m ≤ 100030000 := by omega
    have HOL := Lib.hid (fun x (hx : a' = some x) => (HO.out.new x hx).2)
    have hbz : w.heap.size ≤ wr.heap.size := HB.out.size
    have htin : decide (k < n) = true := decide_eq_true hlt
    clear g0 g1 g2
    have HIE : Hid (Sst.ix (nth l k) = Sst.lp (nth l k).first ++ Codec.enc (nth l k).pos ++ Codec.enc (nth l k).len) := Lib.hid rfl
    generalize Sst.ix (nth l k) = ixk at *
    generalize nth l k = x at *
    obtain ⟨fk, pk, lk⟩ := x
    dsimp only at *
    obtain ⟨hs1, hs2, hs3⟩ := hsz
    have c2 := (HGET.out wr HB.out).2.2
    go_wp2_with fail
    clear c2
    have hS : Bs (strW wr fk) (some ⟨wr.heap.size, 0, none⟩) fk.length (strCap wr fk) fk := str_bs wr fk (by simp only [maxLen]; omega)
    have HB2 := Lib.hid (HB.out.trans ((str_below wr fk).mono hbz))
    have HO2 := Lib.hid (HO.out.below (str_below wr fk))
    generalize strW wr fk = w2 at *
    generalize strCap wr fk = sc at *
    refine (refbytes_e w.heap.size a' _ m c' fk.length sc _ fk w2 HB2.out.size HO2.out.app hS (fun _ y z hy hz => by cases hy; have := HOL.out z hz; simp only; omega) ⟨by omega⟩).mono ?_
    rintro en w3 ⟨a3, n3, k3, rfl, ho3, hb3, hev3⟩
    have HB3 := Lib.hid (HB2.out.trans hb3)
    have HO3 := Lib.hid ho3
    have hn3 : n3 ≤ m + 100010 := by
      have h1 := ho3.bs.1
      have h2 := Codec.enc_len10 (v := fk.length) (by omega)
      have h3 := HO.out.bs.1
      simp only [List.length_append] at h1
      omega
    clear hS ho3 hb3 hev3
    have c0 := (HGET.out w3 HB3.out).1
    go_wp2_with fail
    clear c0
    refine (refnumber_any w.heap.size a3 n3 k3 _ pk w3 HB3.out.size HO3.out.app ⟨by omega⟩ ⟨by omega⟩).mono ?_
    rintro en w4 ⟨a4, n4, k4, rfl, ho4, hb4, hev4⟩
    have HB4 := Lib.hid (HB3.out.trans hb4)
    have HO4 := Lib.hid ho4
    have hn4 : n4 ≤ m + 100020 := by
      have h1 := ho4.bs.1
      have h2 := Codec.enc_len10 (v := pk) (by omega)
      have h3 := HO3.out.bs.1
      simp only [List.length_append] at h1 h3
      omega
    clear ho4 hb4 hev4
    have c1 := (HGET.out w4 HB4.out).2.1
    go_wp2_with fail
    clear c1
    refine (refnumber_any w.heap.size a4 n4 k4 _ lk w4 HB4.out.size HO4.out.app ⟨by omega⟩ ⟨by omega⟩).mono ?_
    rintro en w5 ⟨a5, n5, k5, rfl, ho5, hb5, hev5⟩
    have HB5 := Lib.hid (HB4.out.trans hb5)
    have HO5 : Hid (Own w5 w.heap.size a5 n5 k5 (Sst.index (l.take (k + 1)))) := Lib.hid (by
      rw [HSN.out, HIE.out]
      unfold Sst.lp
      simpa [List.append_assoc] using ho5)
    have hn5 : n5 ≤ (k + 1) * 100030 := by
      have h1 := HO5.out.bs.1
      have h2 := index_len HOK.out (k + 1) (by rw [HN.out]; omega)
      omega
    clear ho5 hb5 hev5
    go_wp2
    go_roundw
    case rel => exact ⟨a5, n5, k5, k + 1, by omega, hn5, by go_num, rfl, HO5, HB5⟩
    case measure => simp [intOf]; omega
set_option maxHeartbeats 4000000 in
theorem sindex_any (a : Option Addr) (n c : Nat) (l : List Bk) (w : World) (h : Rd celB w a n c l) (hok : BkOk l) (hn : n ≤ 1000) :
    Calls Try.prog 37 #[.slice a n c] w (RetB w w.heap.size (Sst.index l)) := by
  have hle := h.le.1
  have HN := Lib.hid h.1
  have HL := Lib.hid h
  have HOK := Lib.hid hok
  clear h hok
  go_enter Try.func37, Try.ntmps37
  go_wp2_with fail
  go_loopw [3, 8] (fun s i wr => ∃ (a' : Option Addr) (m c' k : Nat), k ≤ n ∧ m ≤ k * 100030 ∧ i = .int .i64 k ∧ s = .slice a' m c' ∧ Hid (Own wr w.heap.size a' m c' (Sst.index (l.take k))) ∧ Hid (Below w.heap.size w wr)) (fun _ i _ => n - (intOf i).toNat)
  case atStart => exact ⟨none, 0, 0, 0, by omega, by omega, rfl, rfl, Lib.hid (Own.nil _ _), Lib.hid (Below.refl _ _)⟩
  case round =>
    obtain ⟨a', m, c', k, hk, hm, rfl, rfl, HO, HB⟩ := hrel
    by_cases hlt : k < n
    case neg =>
      obtain rfl : n = k := by omega
      go_wp2
      go_ret
      have e1 : l.take n = l := by rw [← HN.out, List.take_length]
      exact ⟨_, _, _, rfl, by rw [← e1]; exact HO.out, HB.out⟩
    obtain ⟨b, off, rfl, g0, g1, g2⟩ := (HL.out.below HB.out).bk hlt
    have hsz := HOK.out.at (i := k) (by rw [HN.out]; exact hlt)
    have HSN := Lib.hid (index_snoc l (i := k) (by rw [HN.out]; exact hlt))
    have HIX := Lib.hid (ix_len hsz)
    have hmb : m ≤ 100030000 := by omega
    have htin : decide (k < n) = true := decide_eq_true hlt
    have HIE : Hid (Sst.ix (nth l k) = Sst.lp (nth l k).first ++ Codec.enc (nth l k).pos ++ Codec.enc (nth l k).len) := Lib.hid rfl
    generalize Sst.ix (nth l k) = ixk at *
    generalize nth l k = x at *
    obtain ⟨fk, pk, lk⟩ := x
    dsimp only at *
    obtain ⟨hs1, hs2, hs3⟩ := hsz
    have hat := heap_alloc_new wr (.cells #[.string (bstr fk), .int .i64 pk, .int .i64 lk] 88)
    obtain ⟨w1, hw1⟩ : ∃ w1, wr.alloc (.cells #[.string (bstr fk), .int .i64 pk, .int .i64 lk] 88) = w1 := ⟨_, rfl⟩
    have hb1 : Below wr.heap.size wr w1 := by rw [← hw1]; exact below_alloc1 _ _
    rw [hw1] at hat
    have c0 : w1.cell? ⟨wr.heap.size, 0, none⟩ = some (.string (bstr fk)) := (cell_of_row _ _ 0 _ _ _ hat).trans rfl
    have c1 : w1.cell? ⟨wr.heap.size, 1, none⟩ = some (.int .i64 pk) := (cell_of_row _ _ 1 _ _ _ hat).trans rfl
    have c2 : w1.cell? ⟨wr.heap.size, 2, none⟩ = some (.int .i64 lk) := (cell_of_row _ _ 2 _ _ _ hat).trans rfl
    have HW1 := Lib.hid hw1
    have HB1 := Lib.hid (HB.out.trans (hb1.mono HB.out.size))
    have HO1 := Lib.hid (HO.out.below hb1)
    have hwp : IntKind.u64.wrap (pk : Int) = (pk : Int) := by rw [IntKind.wrap_u64]; omega
    have hwl : IntKind.u64.wrap (lk : Int) = (lk : Int) := by rw [IntKind.wrap_u64]; omega
    clear hat hw1 hb1
    go_upto_region 5 with fail
    rw [HW1.out]
    clear g0 g1 g2
    refine wp_region_order [] [0, 1, 2, 6, 7, 8, 10, 11, 12] [3, 4, 5, 9, 13] [14] 14 (by intro c a d v w h; cases d <;> exact h) (by kernel_rfl) (by kernel_rfl) (fun W' => ∃ V : BW w1, W' = V.w) ⟨⟨w1.drew, (Below.refl _ _).drew⟩, rfl⟩ ?_
    simp only [opsAt, List.filterMap_cons, List.filterMap_nil, List.getElem?_cons_zero, List.getElem?_cons_succ]
    refine held_nil ?_
    iterate 9
      apply held_step
      · rfl
      · rintro _ ⟨V, rfl⟩
        have m0 := BW.cell c0 V
        have m1 := BW.cell c1 V
        have m2 := BW.cell c2 V
        go_simp
        rfl
    refine held_nil ?_
    have HBC : Below w1.heap.size w1 w1.drew := (Below.refl _ _).drew
    generalize hwd : w1.drew = wD at *
    have hwds : wD.heap.size = w1.heap.size := by rw [← hwd]; rfl
    clear hwd
    refine walkS_step rfl (fun K hK => ?_)
    go_simp
    have hS : Bs (strW wD fk) (some ⟨w1.heap.size, 0, none⟩) fk.length (strCap wD fk) fk := by rw [← hwds]; exact str_bs wD fk (by simp only [maxLen]; omega)
    have HB2 : Below w1.heap.size w1 (strW wD fk) := HBC.trans ((str_below wD fk).mono (Nat.le_of_eq hwds.symm))
    refine hK _ _ ⟨⟨strW wD fk, HB2⟩, rfl⟩ ?_
    clear hK
    generalize strW wD fk = w2 at *
    generalize strCap wD fk = sc at *
    refine walkS_step rfl (fun K hK => ?_)
    go_simp
    have hSS := Bss.one hS
    have HB3 : Below w1.heap.size w1 (w2.alloc (.cells #[.slice (some ⟨w1.heap.size, 0, none⟩) fk.length sc] 55)) := HB2.alloc HB2.size _
    refine hK _ _ ⟨⟨_, HB3⟩, rfl⟩ ?_
    clear hK
    refine walkS_step rfl (fun K hK => ?_)
    go_simp
    refine (bytes_any a' _ m c' _ _ _ [fk] _ (HO1.out.bs.below HB3) hSS ⟨by simp [tot]; omega⟩).mono ?_
    rintro en w4 ⟨a4, n4, k4, rfl, ho4, hb4⟩
    rw [bytes_one] at ho4
    have HB4 := HB3.trans (hb4.mono HB3.size)
    refine hK _ _ ⟨⟨w4, HB4⟩, rfl⟩ ?_
    clear hK
    have hn4 : n4 ≤ m + 100010 := by
      have h1 := ho4.bs.1
      have h2 := Codec.enc_len10 (v := fk.length) (by omega)
      have h3 := HO.out.bs.1
      simp only [List.length_append] at h1
      omega
    refine walkS_step rfl (fun K hK => ?_)
    go_simp
    refine (number_any a4 n4 k4 _ pk _ ho4.bs ⟨by omega⟩ ⟨by omega⟩).mono ?_
    rintro en w5 ⟨a5, n5, k5, rfl, ho5, hb5⟩
    have HB5 := HB4.trans (hb5.mono HB4.size)
    refine hK _ _ ⟨⟨w5, HB5⟩, rfl⟩ ?_
    clear hK
    have hn5 : n5 ≤ m + 100020 := by
      have h1 := ho5.bs.1
      have h2 := Codec.enc_len10 (v := pk) (by omega)
      have h3 := ho4.bs.1
      simp only [List.length_append] at h1 h3
      omega
    refine walkS_step rfl (fun K hK => ?_)
    go_simp
    refine (number_any a5 n5 k5 _ lk _ ho5.bs ⟨by omega⟩ ⟨by omega⟩).mono ?_
    rintro en w6 ⟨a6, n6, k6, rfl, ho6, hb6⟩
    have HB6 := HB5.trans (hb6.mono HB5.size)
    refine hK _ _ ⟨⟨w6, HB6⟩, rfl⟩ ?_
    clear hK
    refine walkS_nil ?_
    have HO6 : Hid (Own w6 w.heap.size a6 n6 k6 (Sst.index (l.take (k + 1)))) := Lib.hid (by
      rw [HSN.out, HIE.out]
      unfold Sst.lp
      simpa [List.append_assoc] using ho6.mono (Nat.le_trans HB1.out.size HB5.size))
    have HB7 := Lib.hid (HB1.out.trans (HB6.mono HB1.out.size))
    have hn6 : n6 ≤ (k + 1) * 100030 := by
      have h1 := HO6.out.bs.1
      have h2 := index_len HOK.out (k + 1) (by rw [HN.out]; omega)
      omega
    clear ho4 hb4 ho5 hb5 ho6 hb6 HB2 HB3 HB4 HB5 HB6 HBC hS hSS c0 c1 c2 hwp hwl hn4 hn5
    go_wp2
    go_roundw
    case rel => exact ⟨a6, n6, k6, k + 1, by omega, hn6, by go_num, rfl, HO6, HB7⟩
    case measure => simp [intOf]; omega
end Go.Proofs.Ytchdmjnhjonddaa
