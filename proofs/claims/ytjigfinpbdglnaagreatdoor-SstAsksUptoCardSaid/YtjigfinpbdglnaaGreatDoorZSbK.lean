/- Sorted tables: the reference's Build. -/
import Derived.Test.YtjigfinpbdglnaaGreatDoorZSbJ
set_option linter.unusedVariables false
set_option linter.unusedSimpArgs false
section
set_option maxRecDepth 100000
set_option linter.unusedVariables false
set_option linter.unusedSimpArgs false
namespace Go.Proofs.YtjigfinpbdglnaaGreatDoor
open Go.RowKit

theorem br_box {w : World} {k : Nat} (hk : k = w.heap.size) (b : Bk) : ∀ j v, (celR.f b)[j]? = some v → (w.alloc (.cells #[.int .i64 b.pos, .int .i64 b.len, .string (bstr b.first)] 76)).cell? ⟨k, j, none⟩ = some v := by
  subst hk
  intro j v hj
  have hh := heap_alloc_new w (.cells #[.int .i64 b.pos, .int .i64 b.len, .string (bstr b.first)] 76)
  exact (cell_of_row _ _ j _ _ _ hh).trans (by rw [← hj]; simp [celR])
def Sst.foot' (no n4 n : Nat) : List UInt8 := Codec.low 8 no ++ Codec.low 8 n4 ++ Codec.low 8 n
theorem foot'_len (a b c : Nat) : (Sst.foot' a b c).length = 24 := by unfold Sst.foot'; simp only [List.length_append, Codec.low_len]
set_option maxHeartbeats 8000000 in
theorem rending_any (B : Nat) (ao : Option Addr) (no co : Nat) (out : List UInt8) (ab : Option Addr) (nb cb : Nat) (bl : List Bk) (a : Option Addr) (n c : Nat) (l : List Ent) (w : World) (hB : B ≤ w.heap.size) (ho : Own w B ao no co out) (hbl : Rd celR w ab nb cb bl) (hok : BkOk bl) (hnb : nb ≤ 400) (hlen : l.length = n) (hl : ∀ W, Below B w W → Es W a n c l) (hkl : ∀ e ∈ l, e.key.length ≤ 1000000) (hn : n ≤ 400) (hno : no ≤ 150000) :
    Calls Tryz.prog 33 #[.slice ao no co, .slice ab nb cb, .slice a n c] w (RetB w B (out ++ Codec.frame (Sst.index bl) ++ Codec.frame (Sst.filter l) ++ (Sst.foot' no (out ++ Codec.frame (Sst.index bl)).length n ++ Codec.four (Codec.sum (Sst.foot' no (out ++ Codec.frame (Sst.index bl)).length n))))) := by
  have HL := Lib.hid hl
  have HIXL : Hid ((Sst.index bl).length ≤ 41000000) := Lib.hid (by
    have h1 := index_len hok bl.length (Nat.le_refl _)
    rw [List.take_length, hbl.1] at h1
    omega)
  have HFLN := Lib.hid (filter_len l (by rw [hlen]; omega))
  have HFRL := Lib.hid (frame_le (p := Sst.index bl) (by have := HIXL.out; omega))
  have HFRF := Lib.hid (frame_le (p := Sst.filter l) (by have := HFLN.out; omega))
  have HSX := Lib.hid (rindex_any B ab nb cb bl w hB hbl hok (by omega))
  have HSF := Lib.hid (fun W (he : Es W a n c l) => rfilter_any a n c l W he hkl (by omega))
  have HO := Lib.hid ho
  have HOL := Lib.hid (fun x (hx : ao = some x) => (ho.new x hx).2)
  have HON := Lib.hid ho.bs.1
  have HBZ := Lib.hid hB
  have HPST : Hid (∀ x, RetB w B (out ++ Codec.frame (Sst.index bl) ++ Codec.frame (Sst.filter l) ++ x) = RetB w B (out ++ Codec.frame (Sst.index bl) ++ Codec.frame (Sst.filter l) ++ x)) := Lib.hid (fun _ => rfl)
  have hle := (hl w (Below.refl _ _)).le.1
  clear ho hbl hok hl hkl HPST
  generalize Sst.index bl = IX at *
  generalize Sst.filter l = FI at *
  go_enter Tryz.func33, Tryz.ntmps33
  go_wp2_with fail
  refine HSX.out.mono ?_
  rintro en w3 ⟨a3, n3, c3, rfl, ho3, hb3⟩
  have HB3 := Lib.hid (hb3.mono hB)
  have HO3 := Lib.hid (HO.out.below hb3)
  have HI3 := Lib.hid ho3.bs
  have HNE3 := Lib.hid (fun y z (hy : a3 = some y) (hz : ao = some z) => (show y.block ≠ z.block by have h1 := (ho3.new y hy).1; have h2 := HOL.out z hz; omega))
  have hn3 : n3 ≤ 41000000 := by rw [← ho3.bs.1]; exact HIXL.out
  have hz3 : B ≤ w3.heap.size := Nat.le_trans hB hb3.size
  clear ho3 hb3 HSX
  go_wp2_with fail
  refine (refframe_e B ao a3 no co n3 c3 out IX w3 hz3 HO3.out.app HI3.out (fun _ => HNE3.out) ⟨by omega⟩).mono ?_
  rintro en w4 ⟨a4, n4, c4, rfl, ho4, hb4, _⟩
  have HB4 := Lib.hid (HB3.out.trans hb4)
  have HO4 := Lib.hid ho4
  have HN4 : Hid ((out ++ Codec.frame IX).length = n4) := Lib.hid ho4.bs.1
  have hn4 : n4 ≤ 42000000 := by
    have h1 := HN4.out
    have h2 := HFRL.out
    have h3 := HIXL.out
    have h4 := HON.out
    rw [List.length_append] at h1
    omega
  have hz4 : B ≤ w4.heap.size := Nat.le_trans hz3 hb4.size
  have HOL4 := Lib.hid (fun x (hx : a4 = some x) => (ho4.new x hx).2)
  clear ho4 hb4
  go_wp2_with fail
  refine (HSF.out w4 (HL.out w4 HB4.out)).mono ?_
  rintro en w5 ⟨a5, n5, c5, rfl, ho5, hb5⟩
  have HB5 := Lib.hid (HB4.out.trans (hb5.mono hz4))
  have HO5 := Lib.hid (HO4.out.below hb5)
  have HI5 := Lib.hid ho5.bs
  have HNE5 := Lib.hid (fun y z (hy : a5 = some y) (hz : a4 = some z) => (show y.block ≠ z.block by have h1 := (ho5.new y hy).1; have h2 := HOL4.out z hz; omega))
  have hn5 : n5 ≤ 1300 := by rw [← ho5.bs.1]; exact HFLN.out
  have hz5 : B ≤ w5.heap.size := Nat.le_trans hz4 hb5.size
  clear ho5 hb5 HSF
  go_wp2_with fail
  refine (refframe_e B a4 a5 n4 c4 n5 c5 _ FI w5 hz5 HO5.out.app HI5.out (fun _ => HNE5.out) ⟨by omega⟩).mono ?_
  rintro en w6 ⟨a6, n6, c6, rfl, ho6, hb6, _⟩
  have HB6 := Lib.hid (HB5.out.trans hb6)
  have HO6 := Lib.hid ho6
  have hn6 : n6 ≤ 43000000 := by
    have h1 := ho6.bs.1
    have h2 := HFRF.out
    have h3 := HFLN.out
    have h4 := HN4.out
    rw [List.length_append] at h1
    omega
  have hz6 : B ≤ w6.heap.size := Nat.le_trans hz5 hb6.size
  clear ho6 hb6
  go_wp2_with fail
  refine (reight_any w6.heap.size none 0 0 [] no w6 (Nat.le_refl _) (Own.nil _ _) (by omega) (by omega)).mono ?_
  rintro en w7 ⟨a7, n7, c7, rfl, ho7, hb7, _⟩
  rw [List.nil_append] at ho7
  have HE7 := Lib.hid ho7
  have HB7 := Lib.hid hb7
  have hn7 : n7 = 8 := by rw [← ho7.bs.1, Codec.low_len]
  clear ho7 hb7
  subst hn7
  go_wp2_with fail
  refine (reight_any w6.heap.size a7 8 c7 _ n4 w7 HB7.out.size HE7.out (by omega) (by omega)).mono ?_
  rintro en w8 ⟨a8, n8', c8, rfl, ho8, hb8, _⟩
  have HE8 := Lib.hid ho8
  have HB8 := Lib.hid (HB7.out.trans hb8)
  have hn8 : n8' = 16 := by rw [← ho8.bs.1, List.length_append, Codec.low_len, Codec.low_len]
  clear ho8 hb8
  subst hn8
  go_wp2_with fail
  refine (reight_any w6.heap.size a8 16 c8 _ n w8 HB8.out.size HE8.out (by omega) (by omega)).mono ?_
  rintro en w9 ⟨a9, n9, c9, rfl, ho9, hb9, _⟩
  have HE9 : Hid (Own w9 w6.heap.size a9 n9 c9 (Sst.foot' no n4 n)) := Lib.hid ho9
  have HB9 := Lib.hid (HB8.out.trans hb9)
  have hn9 : n9 = 24 := by rw [← HE9.out.bs.1]; exact foot'_len _ _ _
  clear ho9 hb9
  subst hn9
  go_wp2_with fail
  refine (refsum_any _ _ _ _ w9 HE9.out.bs).mono ?_
  rintro en w10 ⟨rfl, rfl⟩
  go_wp2_with fail
  refine (four_any w6.heap.size a9 24 c9 _ (Codec.sum (Sst.foot' no n4 n)) w9 HB9.out.size HE9.out (by omega)).mono ?_
  rintro en w11 ⟨a11, n11, c11, rfl, ho11, hb11, _⟩
  have HE11 := Lib.hid ho11.bs
  have HB11 := Lib.hid (HB9.out.trans hb11)
  have hn11 : n11 = 28 := by rw [← ho11.bs.1, List.length_append, foot'_len]; rfl
  have HO11 := Lib.hid (HO6.out.below HB11.out)
  have HB11W := Lib.hid (HB6.out.trans (HB11.out.mono hz6))
  have hz11 : B ≤ w11.heap.size := Nat.le_trans hz6 HB11.out.size
  clear ho11 hb11
  subst hn11
  go_wp2_with (at_builtin; refine app_own rfl _ _ rfl B rfl HO11.out rfl HE11.out (by omega) hz11 ?_; intro a12 c12 w12 h12 hb12 _; have HO12 := Lib.hid h12; have HB12 := Lib.hid (HB11W.out.trans hb12); clear h12 hb12)
  go_ret
  exact ⟨_, _, _, rfl, by rw [HN4.out]; exact HO12.out, HB12.out⟩
end Go.Proofs.YtjigfinpbdglnaaGreatDoor
end

section
set_option maxRecDepth 100000
set_option linter.unusedVariables false
set_option linter.unusedSimpArgs false
namespace Go.Proofs.YtjigfinpbdglnaaGreatDoor
open Go.RowKit

theorem ent_ne {e : Ent} (hs : U64 e.seq) (h : e.key.length + e.val.length ≤ 1000000000) : Sst.ent e ≠ [] := fun h0 => by
  have := (ent_len hs h).1
  rw [h0] at this
  simp at this
set_option maxHeartbeats 8000000 in
theorem rbuild_any (a : Option Addr) (n c : Nat) (l : List Ent) (z : Int) (w : World) (h : Es w a n c l) (ok : Sst.Ok l) (hz : -9223372036854775808 ≤ z ∧ z ≤ 9223372036854775807) :
    Calls Tryz.prog 9 #[.slice a n c, .int .i64 z] w (RetP (Sst.build l z) w) := by
  have hle := h.le.1
  have HN := Lib.hid h.1
  have HL := Lib.hid h
  have HOK := Lib.hid ok
  have hn4 : n ≤ 400 := by rw [← h.1]; exact ok.n
  have HRT := Lib.hid (refright_any a n c l w h)
  clear h ok
  by_cases q1 : 1 ≤ z
  case neg =>
    have HP := Lib.hid (build_arg (l := l) (z := z) (by omega))
    have t1 : decide (z < 1) = true := decide_eq_true (by omega)
    go_enter Tryz.func9, Tryz.ntmps9
    go_wp2
    go_ret2
    rw [HP.out]
    exact retp_nil (Below.refl _ _)
  by_cases q2 : z ≤ 67108864
  case neg =>
    have HP := Lib.hid (build_arg (l := l) (z := z) (by omega))
    have t1 : decide (z < 1) = false := decide_eq_false (by omega)
    have t2 : decide ((67108864 : Int) < z) = true := decide_eq_true (by omega)
    go_enter Tryz.func9, Tryz.ntmps9
    go_wp2
    go_ret2
    rw [HP.out]
    exact retp_nil (Below.refl _ _)
  have t1 : decide (z < 1) = false := decide_eq_false (by omega)
  have t2 : decide ((67108864 : Int) < z) = false := decide_eq_false (by omega)
  obtain ⟨C, rfl⟩ : ∃ m : Nat, z = (m : Int) := ⟨z.toNat, by omega⟩
  by_cases hr : Ent.rightB l = false
  case pos =>
    have HP := Lib.hid (build_order (l := l) (z := (C : Int)) (by omega) hr)
    rw [hr] at HRT
    go_enter Tryz.func9, Tryz.ntmps9
    go_wp2_with fail
    refine HRT.out.mono ?_
    rintro e w1 ⟨rfl, hb1⟩
    have HB1 := Lib.hid hb1
    clear hb1
    go_wp2
    go_ret2
    rw [HP.out]
    exact retp_nil HB1.out
  have HPL := Lib.hid (fun h3 => build_long (l := l) (z := (C : Int)) (by omega) hr h3)
  have HPO := Lib.hid (fun h3 => build_ok (l := l) (C := C) (by omega) hr h3)
  rw [show Ent.rightB l = true by simpa using hr] at HRT
  generalize hbd : Sst.build l (C : Int) = BD at *
  clear hbd hr
  go_enter Tryz.func9, Tryz.ntmps9
  go_wp2_with fail
  refine HRT.out.mono ?_
  rintro e w1 ⟨rfl, hb1⟩
  have HB1 := Lib.hid hb1
  clear hb1 HRT
  go_wp2_with fail
  go_loopw [6] (fun iv wr => ∃ i : Nat, i ≤ n ∧ iv = .int .i64 i ∧ wr = w1 ∧ Hid (∀ j, j < i → ¬ Sst.long (nth l j))) (fun iv _ => n - (intOf iv).toNat)
  case atStart => exact ⟨0, Nat.zero_le _, rfl, rfl, Lib.hid (fun j hj => by omega)⟩
  case round =>
    obtain ⟨i, hi, rfl, hwr, HLG⟩ := hrel
    obtain rfl := hwr.symm
    clear hwr
    by_cases hlt : i < n
    · have htin : decide (i < n) = true := decide_eq_true hlt
      obtain ⟨b, off, ae, ce, rfl, he, hv⟩ := (HL.out.below HB1.out).vals hlt
      have hok := HOK.out.at (i := i) (by rw [HN.out]; exact hlt)
      have HMEM : Hid (nth l i ∈ l) := Lib.hid (by rw [nth_eq l (by rw [HN.out]; exact hlt)]; exact List.getElem_mem _)
      have HLG2 : Hid (¬ Sst.long (nth l i) → ∀ j, j < i + 1 → ¬ Sst.long (nth l j)) := Lib.hid (fun h j hj => by
        by_cases e : j = i
        · rw [e]; exact h
        · exact HLG.out j (by omega))
      have p0 := he.key
      have p3 := he.val
      generalize nth l i = x at *
      clear he hv
      have hkv : x.key.length + x.val.length ≤ 131072 := hok.2
      clear hok
      have hs := bstr_size x.key
      by_cases hlk : 65535 < x.key.length
      case pos =>
        have HP := Lib.hid (HPL.out ⟨x, HMEM.out, .inl hlk⟩)
        have t3 : decide ((65535 : Int) < (x.key.length : Int)) = true := decide_eq_true (by omega)
        go_wp2
        go_ret2
        rw [HP.out]
        exact retp_nil HB1.out
      have hlv : ¬ 33554432 < x.val.length := by omega
      have HNL : Hid (¬ Sst.long x) := Lib.hid (fun h => by rcases h with h | h <;> omega)
      have t3 : decide ((65535 : Int) < (x.key.length : Int)) = false := decide_eq_false (by omega)
      have t4 : decide ((33554432 : Int) < (x.val.length : Int)) = false := decide_eq_false (by omega)
      go_wp2
      go_roundw
      case rel => exact ⟨i + 1, by omega, by go_num, (by first | rfl | trivial), Lib.hid (HLG2.out HNL.out)⟩
      case measure => simp [intOf]; omega
    obtain rfl : n = i := by omega
    have HNLG : Hid (∀ e ∈ l, ¬ Sst.long e) := Lib.hid (fun e he => by
      obtain ⟨j, hj, rfl⟩ := List.getElem_of_mem he
      rw [← nth_eq _ hj]
      exact HLG.out j (by rw [← HN.out]; exact hj))
    have HP := Lib.hid (HPO.out (by rintro ⟨e, he, h⟩; exact HNLG.out e he h))
    have HU0 : Hid (Sst.upto l C 0 = ⟨[], [], [], []⟩) := Lib.hid rfl
    have HUS : Hid (∀ i, Sst.upto l C (i + 1) = Sst.step C (decide (i + 1 = n)) (Sst.upto l C i) (nth l i)) := Lib.hid (fun i => by rw [← HN.out]; rfl)
    have HSM := Lib.hid (fun i (hi : i ≤ n) => upto_small (size := C) HOK.out (i := i) (by rw [HN.out]; exact hi))
    have HBK := Lib.hid (upto_bk (size := C) HOK.out HNLG.out l.length (Nat.le_refl _)).1
    have HFN : Hid (Sst.fin l C = (Sst.upto l C n).out ++ Codec.frame (Sst.index (Sst.upto l C n).bl) ++ Codec.frame (Sst.filter l) ++ (Sst.foot' (Sst.upto l C n).out.length ((Sst.upto l C n).out ++ Codec.frame (Sst.index (Sst.upto l C n).bl)).length n ++ Codec.four (Codec.sum (Sst.foot' (Sst.upto l C n).out.length ((Sst.upto l C n).out ++ Codec.frame (Sst.index (Sst.upto l C n).bl)).length n)))) := Lib.hid (by rw [← HN.out]; rfl)
    rw [HN.out] at HBK
    have HKL : Hid (∀ e ∈ l, e.key.length ≤ 1000000) := Lib.hid (fun e he => by
      obtain ⟨j, hj, rfl⟩ := List.getElem_of_mem he
      have h1 := (HOK.out.at hj).2
      rw [nth_eq _ hj] at h1
      omega)
    generalize Sst.upto l C = UP at *
    clear HPL HPO HLG
    go_wp2_with fail
    go_loopw [7, 8, 9, 10, 11] (fun ov pv bv fv iv wr => ∃ (i no co np cp nb cb f : Nat) (ao ap ab : Option Addr) (wp : World), i ≤ n ∧ f ≤ n ∧ iv = .int .i64 i ∧ ov = .slice ao no co ∧ pv = .slice ap np cp ∧ bv = .slice ab nb cb ∧ fv = .int .i64 f ∧ Hid (((UP i).pay = [] → f = i) ∧ ((UP i).pay ≠ [] → f < n ∧ (nth l f).key = (UP i).fk)) ∧ Hid (Own wp w.heap.size ao no co (UP i).out) ∧ Hid (Acc celR 76 wp w.heap.size ab nb cb (UP i).bl) ∧ Hid (Below w.heap.size w wp) ∧ Hid (Below wp.heap.size wp wr) ∧ Hid (Own wr wp.heap.size ap np cp (UP i).pay)) (fun _ _ _ _ iv _ => n - (intOf iv).toNat)
    case atStart => exact ⟨0, 0, 0, 0, 0, 0, 0, 0, none, none, none, w1, Nat.zero_le _, Nat.zero_le _, rfl, rfl, rfl, rfl, rfl, Lib.hid ⟨fun _ => rfl, fun h => by rw [HU0.out] at h; exact absurd rfl h⟩, by rw [HU0.out]; exact Lib.hid (Own.nil _ _), by rw [HU0.out]; exact Lib.hid (Acc.nil _ _ _ _), HB1, Lib.hid (Below.refl _ _), by rw [HU0.out]; exact Lib.hid (Own.nil _ _)⟩
    case round =>
      obtain ⟨i, no, co, np, cp, nb, cb, f, ao, ap, ab, wp, hi, hf, rfl, rfl, rfl, rfl, rfl, HF, HOP, HACP, HBP, HWR, HPY⟩ := hrel
      have HO := Lib.hid (HOP.out.below HWR.out)
      have HAC := Lib.hid (HACP.out.below HWR.out)
      have HB := Lib.hid (HBP.out.trans (HWR.out.mono HBP.out.size))
      have hsm := HSM.out i hi
      have hno : no ≤ 150000 := by rw [← HO.out.bs.1]; exact hsm.1
      have hnp : np ≤ 150000 := by rw [← HPY.out.bs.1]; exact hsm.2.1
      have hnb : nb ≤ 400 := by rw [← HAC.out.1]; exact hsm.2.2
      clear hsm
      by_cases hlt : i < n
      case neg =>
        obtain rfl : n = i := by omega
        have htin : decide (n < n) = false := decide_eq_false (by omega)
        have HED := Lib.hid (rending_any w.heap.size ao no co (UP n).out ab nb cb (UP n).bl a n c l wr HB.out.size HO.out (HAC.out.rd (by decide)) HBK.out hnb HN.out (fun W hW => HL.out.below (HB.out.trans hW)) HKL.out hn4 hno)
        have HN1 : Hid ((UP n).out.length = no) := Lib.hid HO.out.bs.1
        go_wp2_with fail
        refine HED.out.mono ?_
        rintro en w9 ⟨a9, n9, c9, rfl, ho9, hb9⟩
        have HO9 := Lib.hid ho9
        have HB9 := Lib.hid (HB.out.trans hb9)
        clear ho9 hb9
        go_wp2
        go_ret2
        rw [HP.out]
        exact ⟨_, _, _, rfl, by rw [HFN.out, HN1.out]; exact HO9.out, HB9.out⟩
      have htin : decide (i < n) = true := decide_eq_true hlt
      obtain ⟨b, off, ae, ce, rfl, he0, hv0⟩ := HL.out.vals hlt
      have HVO := Lib.hid (fun (h0 : 0 < (nth l i).val.length) => hv0.old h0)
      have he := he0.below HB.out
      have hv := hv0.below HB.out
      have hok := HOK.out.at (i := i) (by rw [HN.out]; exact hlt)
      have HUI := Lib.hid (HUS.out i)
      have HNX : Hid (nth l i = nth l i) := Lib.hid rfl
      have p0 := he.key
      have p1 := he.seq
      have p2 := he.gone
      have p3 := he.val
      have HV := Lib.hid hv
      clear he hv he0 hv0
      have hkv : (nth l i).key.length + (nth l i).val.length ≤ 131072 := hok.2
      have HSEQ := Lib.hid hok.1
      clear hok
      have HEN := Lib.hid (ent_len HSEQ.out (by omega))
      have HENE := Lib.hid (ent_ne HSEQ.out (by omega))
      obtain ⟨FK, hFK⟩ : ∃ FK, FK = Sst.fk' (UP i) (nth l i) := ⟨_, rfl⟩
      have HFF : Hid (f < n ∧ (nth l f).key = FK) := Lib.hid (by
        by_cases h0 : (UP i).pay = []
        · have h1 := HF.out.1 h0
          subst h1
          exact ⟨hlt, by rw [hFK]; unfold Sst.fk'; rw [if_pos h0]⟩
        · have h1 := HF.out.2 h0
          exact ⟨h1.1, by rw [hFK]; unfold Sst.fk'; rw [if_neg h0]; exact h1.2⟩)
      have HFK := Lib.hid hFK
      clear hFK HF
      have HNEP : Hid (0 < (nth l i).val.length → ∀ y z, ae = some y → ap = some z → y.block ≠ z.block) := Lib.hid (fun h0 y z hy hz => by
        have h1 := HVO.out h0 y hy
        have h2 := (HPY.out.new z hz).1
        have h3 := HBP.out.size
        omega)
      have HSE := Lib.hid (rent_any wp.heap.size ap np cp (UP i).pay (nth l i) ae ce wr HWR.out.size HPY.out HV.out HNEP.out HSEQ.out (by omega))
      unfold ev at HSE
      generalize UP i = st at *
      generalize hx : nth l i = x at *
      have HXE := Lib.hid hx
      clear hx HNX
      go_wp2_with fail
      refine HSE.out.mono ?_
      rintro en w3 ⟨a3, n3, c3, rfl, ho3, hb3, hev3⟩
      have HWR3 := Lib.hid (HWR.out.trans hb3)
      have HPY3 := Lib.hid ho3
      have HB3 := Lib.hid (HBP.out.trans (HWR3.out.mono HBP.out.size))
      have HO3 := Lib.hid (HOP.out.below HWR3.out)
      have HAC3 := Lib.hid (HACP.out.below HWR3.out)
      have HN3 := Lib.hid ho3.bs.1
      have hn3 : n3 ≤ 300000 := by
        have h1 := HN3.out
        have h2 := HEN.out
        have h3 := HPY.out.bs.1
        rw [List.length_append] at h1
        omega
      clear ho3 hb3 hev3 p0 p1 p2 p3 HSE
      by_cases hfl : C ≤ n3 ∨ i + 1 = n
      case neg =>
        have HST : Hid (UP (i + 1) = ⟨st.out, st.pay ++ Sst.ent x, st.bl, FK⟩) := Lib.hid (by
          rw [HUI.out, HFK.out, step_keep]
          rw [HN3.out]
          simpa using hfl)
        have t6 : decide ((C : Int) ≤ (n3 : Int)) = false := decide_eq_false (by omega)
        have t6' : decide (C ≤ n3) = false := decide_eq_false (by omega)
        have t7 : ((i : Int) == (n : Int) - 1) = false := by rw [beq_eq_false_iff_ne]; omega
        clear hfl
        go_wp2
        go_roundw
        case rel => exact ⟨i + 1, no, co, n3, c3, nb, cb, f, ao, a3, ab, wp, by omega, hf, by go_num, rfl, rfl, rfl, rfl, Lib.hid ⟨fun h => by rw [HST.out] at h; exact absurd (List.append_eq_nil_iff.1 h).2 HENE.out, fun _ => by rw [HST.out]; exact HFF.out⟩, by rw [HST.out]; exact HOP, by rw [HST.out]; exact HACP, HBP, HWR3, by rw [HST.out]; exact HPY3⟩
        case measure => simp [intOf]; omega
      have HST : Hid (UP (i + 1) = ⟨st.out ++ Codec.frame (st.pay ++ Sst.ent x), [], st.bl ++ [⟨FK, st.out.length, (Codec.frame (st.pay ++ Sst.ent x)).length⟩], FK⟩) := Lib.hid (by
        rw [HUI.out, HFK.out, step_flush]
        rw [HN3.out]
        simpa using hfl)
      have HON : Hid (st.out.length = no) := Lib.hid HO.out.bs.1
      go_upto_region 18 with fail
      go_cut [66] (fun v wx => v = .bool true ∧ wx = w3)
      case first =>
        by_cases hC : C ≤ n3
        · have t6 : decide ((C : Int) ≤ (n3 : Int)) = true := decide_eq_true (by omega)
          have t6' : decide (C ≤ n3) = true := decide_eq_true hC
          clear hfl hC
          go_wp2
          go_meet
          exact ⟨rfl, rfl⟩
        · have t6 : decide ((C : Int) ≤ (n3 : Int)) = false := decide_eq_false (by omega)
          have t6' : decide (C ≤ n3) = false := decide_eq_false hC
          have t7 : ((i : Int) == (n : Int) - 1) = true := by rw [beq_iff_eq]; omega
          clear hfl hC
          go_wp2
          go_meet
          exact ⟨rfl, rfl⟩
      case rest =>
      obtain ⟨rfl, hwx⟩ := hcut
      obtain rfl := hwx.symm
      clear hwx hfl
      have HFR := Lib.hid (refframe_e w.heap.size ao a3 no co n3 c3 st.out (st.pay ++ Sst.ent x) w3 HB3.out.size HO3.out.app HPY3.out.bs (fun _ y z hy hz => by
        have h1 := (HPY3.out.new y hy).1
        have h2 := (HOP.out.new z hz).2
        omega) ⟨by omega⟩)
      have HFL := Lib.hid (frame_le (p := st.pay ++ Sst.ent x) (by rw [HN3.out]; omega))
      have HNEB := Lib.hid (own_ne HAC3.out.2 HO3.out (by decide))
      generalize Codec.frame (st.pay ++ Sst.ent x) = fr at *
      go_wp2_with fail
      refine HFR.out.mono ?_
      rintro en w4 ⟨a4, n4, c4, rfl, ho4, hb4, hev4⟩
      have HB4 := Lib.hid (HB3.out.trans hb4)
      have HO4 := Lib.hid ho4
      have HAC4 := Lib.hid (HAC3.out.evol hev4 HNEB.out)
      have hN4 : n4 = no + fr.length := by rw [← ho4.bs.1, List.length_append, HON.out]
      obtain ⟨fl, hflen⟩ : ∃ fl, fr.length = fl := ⟨_, rfl⟩
      have hflb : fl ≤ 300014 := by
        have h2 := HFL.out
        have h3 := HN3.out
        omega
      have HFLE := Lib.hid hflen
      have en4 : (n4 : Int) - (no : Int) = (fl : Int) := by omega
      have hn4b : n4 ≤ 500000 := by omega
      have HN4 : Hid (n4 = no + fl) := Lib.hid (by omega)
      clear ho4 hb4 hev4 HFR hN4 hflen
      obtain ⟨bf, off2, af, cf, ea, hef, _⟩ := (HL.out.below HB4.out).vals HFF.out.1
      cases ea
      have pk := hef.key
      rw [HFF.out.2] at pk
      have hfn := HFF.out.1
      clear hef
      go_wp2_with (at_builtin; refine app_cel celR rfl _ _ 44 76 rfl Tryz.underlying44 infoBr rfl (by decide) (by decide) w.heap.size rfl (HAC4.out.below (below_alloc1 _ _)) (e := ⟨FK, no, fl⟩) rfl (br_box (by first | rfl | simp) ⟨FK, no, fl⟩) (by omega) (le_alloc HB4.out.size) ?_; intro a5 c5 w5 h5 hb5 hev5; have HA5 := Lib.hid h5; have HB5 := Lib.hid (HB4.out.trans (((Below.refl _ _).alloc HB4.out.size _).trans hb5)); have HE5 := Lib.hid ((Evol.alloc _ _ _).trans hev5); have HO5 := Lib.hid (HO4.out.evolNe HE5.out (own_ne HO4.out HAC4.out.2 (by decide))); clear h5 hb5 hev5)
      go_roundw
      case rel => exact ⟨i + 1, n4, c4, 0, 0, nb + 1, c5, i + 1, a4, none, a5, w5, by omega, by omega, by go_num, rfl, rfl, by go_num, by go_num, Lib.hid ⟨fun _ => rfl, fun h => by rw [HST.out] at h; exact absurd rfl h⟩, by rw [HST.out]; exact HO5, by rw [HST.out, HON.out, HFLE.out]; exact HA5, HB5, Lib.hid (Below.refl _ _), by rw [HST.out]; exact Lib.hid (Own.nil _ _)⟩
      case measure => simp [intOf]; omega
end Go.Proofs.YtjigfinpbdglnaaGreatDoor
end

section
set_option maxRecDepth 100000
set_option linter.unusedVariables false
set_option linter.unusedSimpArgs false
namespace Go.Proofs.YtjigfinpbdglnaaGreatDoor
open Go.RowKit

def Sst.num : List UInt8 → Nat
  | [] => 0
  | b :: l => b.toNat + 256 * Sst.num l
theorem num_lt : ∀ l : List UInt8, Sst.num l < 256 ^ l.length
  | [] => by simp [Sst.num]
  | b :: l => by
    have h1 := num_lt l
    have h2 := b.toNat_lt
    rw [Sst.num, List.length_cons, Nat.pow_succ]
    omega
theorem or8_64 {v : Nat} {x : UInt8} (hv : v < 72057594037927936) : bits .or .u64 ((v : Int) * 256) (x.toNat : Int) = ((x.toNat + 256 * v : Nat) : Int) := by
  have hx := x.toNat_lt
  rw [show (v : Int) * 256 = ((v * 256 : Nat) : Int) by omega, u64_or_nat _ _ (by omega) (by omega)]
  congr 1
  rw [show v * 256 = v <<< 8 by rw [Nat.shiftLeft_eq], ← Nat.shiftLeft_add_eq_or_of_lt (by omega : x.toNat < 2 ^ 8), Nat.shiftLeft_eq]
  omega
set_option maxHeartbeats 1000000 in
theorem snumber_any (a : Option Addr) (n c : Nat) (l : List UInt8) (w : World) (h : Bs w a n c l) (hn : n ≤ 8) :
    Calls Tryz.prog 46 #[.slice a n c] w fun e w' => e = .returned (.int .u64 (Sst.num l : Nat)) ∧ w = w' := by
  have HN := Lib.hid h.1
  have HL := Lib.hid h
  clear h
  go_enter Tryz.func46, Tryz.ntmps46
  go_wp2_with fail
  go_loop [3, 4] (fun vv iv => ∃ k : Nat, k ≤ n ∧ iv = .int .i64 ((k : Int) - 1) ∧ vv = .int .u64 (Sst.num (l.drop k) : Nat)) (fun _ iv => (intOf iv + 1).toNat)
  case atStart => exact ⟨n, Nat.le_refl _, rfl, by rw [List.drop_of_length_le (by rw [HN.out]; exact Nat.le_refl _)]; rfl⟩
  case round =>
    obtain ⟨k, hk, rfl, rfl⟩ := hrel
    have hnl := num_lt (l.drop k)
    rw [List.length_drop, HN.out] at hnl
    by_cases h0 : k = 0
    · subst h0
      have t1 : decide ((0 : Int) ≤ ((0 : Nat) : Int) - 1) = false := decide_eq_false (by omega)
      generalize hv : Sst.num (l.drop 0) = v at *
      have HV : Hid (Sst.num l = v) := Lib.hid hv
      clear hv
      go_wp2
      go_ret
      exact ⟨by rw [HV.out]; rfl, rfl⟩
    · obtain ⟨i, rfl⟩ : ∃ i, k = i + 1 := ⟨k - 1, by omega⟩
      obtain ⟨b, off, rfl, hb⟩ := HL.out.2.2.2.byte (i := i) (by rw [HN.out]; omega)
      have HD : Hid (Sst.num (l.drop i) = (nth l i).toNat + 256 * Sst.num (l.drop (i + 1))) := Lib.hid (by
        rw [nth_eq l (by rw [HN.out]; omega), List.drop_eq_getElem_cons (by rw [HN.out]; omega), Sst.num])
      have hpw : 256 ^ (n - (i + 1)) ≤ 256 ^ 7 := Nat.pow_le_pow_right (by decide) (by omega)
      have hby := (nth l i).toNat_lt
      generalize Sst.num (l.drop (i + 1)) = v at *
      have hvb : v < 72057594037927936 := by omega
      generalize nth l i = x at *
      clear hnl hpw h0
      have t1 : decide ((0 : Int) ≤ ((i + 1 : Nat) : Int) - 1) = true := decide_eq_true (by omega)
      go_wp2
      refine ⟨⟨i, by omega, rfl, by rw [or8_64 hvb, HD.out]⟩, ?_⟩
      simp [intOf] <;> omega
theorem cell_oth {w w' : World} {bk b o : Nat} {v : Value} (k : Oth (some ⟨bk, 0, none⟩) w w') (hc : w.cell? ⟨b, o, none⟩ = some v) (hne : b ≠ bk) : w'.cell? ⟨b, o, none⟩ = some v :=
  (World.cell?_of_block (k.block b (World.block_lt_of_cell? _ _ hc) (fun x hx => by cases hx; exact Ne.symm hne))).trans hc
theorem Bs.notin {w w' : World} {a : Option Addr} {n c g : Nat} {l : List UInt8} {t : TypeId} {cs : Array Value} (h : Bs w a n c l) (ko : Oth (some ⟨g, 0, none⟩) w w') (hb : w.heap[g]? = some (.cells cs t (0, 0))) (hno : ∀ v ∈ cs.toList, ∀ z, v ≠ .int .u8 z) : Bs w' a n c l := by
  refine ⟨h.1, h.2.1, h.2.2.1, fun j v hj => ?_⟩
  obtain ⟨b, off, rfl, hc⟩ := h.2.2.2 j v hj
  have := List.mem_of_getElem? hj
  unfold vs at this
  obtain ⟨x, _, hx⟩ := List.mem_map.1 this
  subst hx
  refine ⟨b, off, rfl, cell_oth ko hc (fun e => ?_)⟩
  subst e
  rw [cell_of_row _ _ _ _ _ _ hb] at hc
  exact hno _ (by simpa using Array.mem_of_getElem? hc) _ rfl
/-- What Look has in memory: the result, the reader, the head. -/
theorem slice_lhm (a : Option Addr) (n c : Nat) {lo hi mx : Int} {lo' hi' mx' : Nat} (hlo : lo = lo') (hhi : hi = hi') (hmx : mx = mx') (h1 : lo' ≤ hi') (h2 : hi' ≤ mx') (h3 : mx' ≤ c) (w : World) :
    (Instr.slice 22 (.slice a n c) (some (.int .i64 lo)) (some (.int .i64 hi)) (some (.int .i64 mx))).run Tryz.prog w = .ok (.slice (subA a mx' lo') (hi' - lo') (mx' - lo')) w := by
  obtain ⟨i, hi0, _, g1, _⟩ := info_parts info8
  subst hlo hhi hmx
  have e1 : lo' ≤ mx' := Nat.le_trans h1 h2
  simp [Instr.slice, run_underlying Tryz.underlying22, sizeOf, typeInfo, hi0, g1, Instr.sliceBounds, run_sliceBound, h1, h2, h3, e1]
  unfold subA
  by_cases e : mx' = lo'
  · subst e; simp
  · cases a <;> simp [e]
/-- A reader: what is left of its bytes. -/
def RS (w : World) (bk : Nat) (l : List UInt8) : Prop := ∃ a n c, w.heap[bk]? = some (.cells #[.slice a n c, .bool false] 143 (0, 0)) ∧ Bs w a n c l
theorem RS.below {w w' : World} {bk : Nat} {l : List UInt8} (h : RS w bk l) (k : Below w.heap.size w w') : RS w' bk l := by
  obtain ⟨a, n, c, h1, h2⟩ := h
  exact ⟨a, n, c, (k.block bk (Array.getElem?_eq_some_iff.1 h1).1).trans h1, h2.below k⟩
theorem no_rd {a : Option Addr} {n c : Nat} {b : Bool} : ∀ v ∈ [Value.slice a n c, .bool b], ∀ z, v ≠ .int .u8 z := by
  intro v hv z e
  simp only [List.mem_cons, List.not_mem_nil, or_false] at hv
  rcases hv with rfl | rfl <;> cases e
/-- Bytes that are read beside a reader. -/
theorem RS.keep {w w' : World} {bk : Nat} {l x : List UInt8} {a : Option Addr} {n c : Nat} (h : RS w bk l) (k : Oth (some ⟨bk, 0, none⟩) w w') (hx : Bs w a n c x) : Bs w' a n c x := by
  obtain ⟨a', n', c', h1, _⟩ := h
  exact hx.notin k h1 no_rd
theorem Bs.dropm {w : World} {a : Option Addr} {n c : Nat} {l : List UInt8} (h : Bs w a n c l) {k : Nat} (hk : k ≤ n) : Bs w (subA a n k) (n - k) (n - k) (l.drop k) := by
  refine ⟨by rw [List.length_drop, h.1], Nat.le_refl _, by have := h.2.1; have := h.2.2.1; omega, ?_⟩
  rw [vs_drop]
  exact h.2.2.2.subA k n (by rw [vs_len, h.1]; exact Nat.le_refl _)
theorem cells2 {w : World} {b : Nat} {t : TypeId} {v0 v1 : Value} (h : w.heap[b]? = some (.cells #[v0, v1] t (0, 0))) :
    w.cell? ⟨b, 0, none⟩ = some v0 ∧ w.cell? ⟨b, 1, none⟩ = some v1 ∧ ∀ j, w.frozen? ⟨b, j, none⟩ = false :=
  ⟨(cell_of_row _ _ 0 _ _ _ h).trans rfl, (cell_of_row _ _ 1 _ _ _ h).trans rfl, fun j => by simp [World.frozen?, h]⟩
set_option maxHeartbeats 2000000 in
theorem take_ok (bk k : Nat) (l : List UInt8) (w : World) (h : RS w bk l) (hk : k ≤ l.length) :
    Calls Tryz.prog 99 #[.pointer (some ⟨bk, 0, none⟩), .int .i64 k, .int .i64 0] w fun e w' => e = .returned (.tuple #[]) ∧ RS w' bk (l.drop k) ∧ Oth (some ⟨bk, 0, none⟩) w w' := by
  obtain ⟨a, n, c, h1, h2⟩ := h
  have hn := h2.1
  have hle := h2.le.1
  have hnc : n ≤ c := h2.2.1
  have HH := Lib.hid h1
  have HB := Lib.hid h2
  obtain ⟨c0, c1, cf⟩ := cells2 h1
  rw [hn] at hk
  have hsl : ∀ W, (Instr.slice 22 (.slice a n c) (some (.int .i64 k)) (some (.int .i64 n)) (some (.int .i64 n))).run Tryz.prog W = .ok (.slice (subA a n k) (n - k) (n - k)) W := fun W => slice_lhm a n c rfl rfl rfl hk (Nat.le_refl _) hnc W
  have HD := Lib.hid (h2.dropm hk)
  have HS1 : Hid ((w.setCell ⟨bk, 1, none⟩ (.bool false)).heap[bk]? = some (.cells #[.slice a n c, .bool false] 143 (0, 0))) := Lib.hid (heap_set h1)
  have HO1 : Hid (Oth (some ⟨bk, 0, none⟩) w (w.setCell ⟨bk, 1, none⟩ (.bool false))) := Lib.hid ((Oth.refl _ w).set (p := ⟨bk, 1, none⟩) (x := ⟨bk, 0, none⟩) rfl rfl _)
  generalize subA a n k = ab at *
  generalize hm : n - k = m at *
  clear h1 h2 hn hm
  go_enter Tryz.func99, Tryz.ntmps99
  go_upto_region 1 with fail
  have hw1 : ∃ w1, w.setCell ⟨bk, 1, none⟩ (.bool false) = w1 := ⟨_, rfl⟩
  obtain ⟨w1, hw1⟩ := hw1
  rw [hw1] at HS1 HO1
  have HW1 := Lib.hid hw1
  try rw [HW1.out]
  clear hw1 c0 c1 cf
  obtain ⟨c0, c1, cf⟩ := cells2 HS1.out
  go_upto_region 2 with fail
  refine wp_region_still_tail 17 (by kernel_rfl) (by kernel_rfl) ?_
  simp only [List.take_succ_cons, List.take_zero, List.drop_succ_cons, List.drop_zero]
  repeat still_step
  refine wpStill_nil ?_
  have hb2 : Below w1.heap.size w1 w1.drew := (Below.refl _ _).drew
  have hs2 := (hb2.block bk (Array.getElem?_eq_some_iff.1 HS1.out).1).trans HS1.out
  have HP : Hid (RS (w1.drew.setCell ⟨bk, 0, none⟩ (.slice ab m m)) bk (l.drop k) ∧ Oth (some ⟨bk, 0, none⟩) w (w1.drew.setCell ⟨bk, 0, none⟩ (.slice ab m m))) := Lib.hid (by
    have ho : Oth (some ⟨bk, 0, none⟩) w1 (w1.drew.setCell ⟨bk, 0, none⟩ (.slice ab m m)) := (Oth.of_below hb2).set (p := ⟨bk, 0, none⟩) (x := ⟨bk, 0, none⟩) rfl rfl _
    exact ⟨⟨ab, m, m, heap_set hs2, (HD.out.notin HO1.out HH.out no_rd).notin ho HS1.out no_rd⟩, HO1.out.trans ho⟩)
  clear hb2 hs2
  go_wp2
  go_end0
  exact ⟨rfl, HP.out⟩
end Go.Proofs.YtjigfinpbdglnaaGreatDoor
end
