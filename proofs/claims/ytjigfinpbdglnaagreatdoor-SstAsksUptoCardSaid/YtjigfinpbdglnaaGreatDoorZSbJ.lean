/- Sorted tables: the program's Build. -/
import Derived.Test.YtjigfinpbdglnaaGreatDoorZSbI
set_option linter.unusedVariables false
set_option linter.unusedSimpArgs false
set_option maxRecDepth 100000
set_option linter.unusedVariables false
set_option linter.unusedSimpArgs false
namespace Go.Proofs.YtjigfinpbdglnaaGreatDoor
open Go.RowKit

def RetP (r : List UInt8 × Nat) (w : World) (e : Ending) (w' : World) : Prop := ∃ a n c, e = .returned (.tuple #[.slice a n c, .int .i64 r.2]) ∧ Own w' w.heap.size a n c r.1 ∧ Below w.heap.size w w'
theorem retp_nil {w w' : World} {k : Nat} (h : Below w.heap.size w w') : RetP ([], k) w (.returned (.tuple #[.slice none 0 0, .int .i64 k])) w' := ⟨none, 0, 0, rfl, Own.nil _ _, h⟩
theorem build_arg {l : List Ent} {z : Int} (h : z < 1 ∨ 67108864 < z) : Sst.build l z = ([], 1) := by unfold Sst.build; rw [if_pos h]
theorem build_order {l : List Ent} {z : Int} (h : ¬ (z < 1 ∨ 67108864 < z)) (h2 : Ent.rightB l = false) : Sst.build l z = ([], 15) := by unfold Sst.build; rw [if_neg h, if_pos h2]
theorem build_long {l : List Ent} {z : Int} (h : ¬ (z < 1 ∨ 67108864 < z)) (h2 : ¬ Ent.rightB l = false) (h3 : ∃ e ∈ l, Sst.long e) : Sst.build l z = ([], 3) := by unfold Sst.build; rw [if_neg h, if_neg h2, if_pos h3]
theorem build_ok {l : List Ent} {C : Nat} (h : ¬ ((C : Int) < 1 ∨ 67108864 < (C : Int))) (h2 : ¬ Ent.rightB l = false) (h3 : ¬ ∃ e ∈ l, Sst.long e) : Sst.build l C = (Sst.fin l C, 0) := by unfold Sst.build; rw [if_neg h, if_neg h2, if_neg h3]; rfl
theorem step_flush {size : Nat} {b : Bool} {s : Sst.St} {e : Ent} (h : size ≤ (s.pay ++ Sst.ent e).length ∨ b = true) : Sst.step size b s e = ⟨s.out ++ Codec.frame (s.pay ++ Sst.ent e), [], s.bl ++ [⟨Sst.fk' s e, s.out.length, (Codec.frame (s.pay ++ Sst.ent e)).length⟩], Sst.fk' s e⟩ := by unfold Sst.step; rw [if_pos h]
theorem step_keep {size : Nat} {b : Bool} {s : Sst.St} {e : Ent} (h : ¬ (size ≤ (s.pay ++ Sst.ent e).length ∨ b = true)) : Sst.step size b s e = ⟨s.out, s.pay ++ Sst.ent e, s.bl, Sst.fk' s e⟩ := by unfold Sst.step; rw [if_neg h]
theorem bk_box {w : World} {k : Nat} (hk : k = w.heap.size) (b : Bk) : ∀ j v, (celB.f b)[j]? = some v → (w.alloc (.cells #[.string (bstr b.first), .int .i64 b.pos, .int .i64 b.len] 93)).cell? ⟨k, j, none⟩ = some v := by
  subst hk
  intro j v hj
  have hh := heap_alloc_new w (.cells #[.string (bstr b.first), .int .i64 b.pos, .int .i64 b.len] 93)
  exact (cell_of_row _ _ j _ _ _ hh).trans (by rw [← hj]; simp [celB])
set_option maxHeartbeats 8000000 in
theorem sbuild_any (a : Option Addr) (n c : Nat) (l : List Ent) (z : Int) (w : World) (h : Es w a n c l) (ok : Sst.Ok l) (hz : -9223372036854775808 ≤ z ∧ z ≤ 9223372036854775807) :
    Calls Tryz.prog 18 #[.slice a n c, .int .i64 z] w (RetP (Sst.build l z) w) := by
  have hle := h.le.1
  have HN := Lib.hid h.1
  have HL := Lib.hid h
  have HOK := Lib.hid ok
  have hn4 : n ≤ 400 := by rw [← h.1]; exact ok.n
  have HRT := Lib.hid (mright_any a n c l w h)
  clear h ok
  by_cases q1 : 1 ≤ z
  case neg =>
    have HP := Lib.hid (build_arg (l := l) (z := z) (by omega))
    have t1 : decide (z < 1) = true := decide_eq_true (by omega)
    go_enter Tryz.func18, Tryz.ntmps18
    go_wp2
    go_ret2
    rw [HP.out]
    exact retp_nil (Below.refl _ _)
  by_cases q2 : z ≤ 67108864
  case neg =>
    have HP := Lib.hid (build_arg (l := l) (z := z) (by omega))
    have t1 : decide (z < 1) = false := decide_eq_false (by omega)
    have t2 : decide ((67108864 : Int) < z) = true := decide_eq_true (by omega)
    go_enter Tryz.func18, Tryz.ntmps18
    go_wp2
    go_ret2
    rw [HP.out]
    exact retp_nil (Below.refl _ _)
  have t1 : decide (z < 1) = false := decide_eq_false (by omega)
  have t2 : decide ((67108864 : Int) < z) = false := decide_eq_false (by omega)
  obtain ⟨C, rfl⟩ : ∃ m : Nat, z = (m : Int) := ⟨z.toNat, by omega⟩
  by_cases hr : Ent.rightB l = false
  case pos =>
    have HP := Lib.hid (build_order (l := l) (z := (C : Int)) (by omega) hr)
    rw [hr] at HRT
    go_enter Tryz.func18, Tryz.ntmps18
    go_wp2_with fail
    refine HRT.out.mono ?_
    rintro e w1 ⟨rfl, hb1⟩
    have HB1 := Lib.hid hb1
    clear hb1
    go_wp2
    go_ret2
    rw [HP.out]
    exact retp_nil HB1.out
  have HPL := Lib.hid (fun h3 => build_long (l := l) (z := (C : Int)) (by omega) hr h3)
  have HPO := Lib.hid (fun h3 => build_ok (l := l) (C := C) (by omega) hr h3)
  rw [show Ent.rightB l = true by simpa using hr] at HRT
  generalize hbd : Sst.build l (C : Int) = BD at *
  clear hbd hr
  go_enter Tryz.func18, Tryz.ntmps18
  go_wp2_with fail
  refine HRT.out.mono ?_
  rintro e w1 ⟨rfl, hb1⟩
  have HB1 := Lib.hid hb1
  clear hb1
  go_wp2_with fail
  have HU0 : Hid (Sst.upto l C 0 = ⟨[], [], [], []⟩) := Lib.hid rfl
  have HUS : Hid (∀ i, Sst.upto l C (i + 1) = Sst.step C (decide (i + 1 = n)) (Sst.upto l C i) (nth l i)) := Lib.hid (fun i => by rw [← HN.out]; rfl)
  have HSM := Lib.hid (fun i (hi : i ≤ n) => upto_small (size := C) HOK.out (i := i) (by rw [HN.out]; exact hi))
  have HTWO := Lib.hid (fun hl => two_le (size := C) HOK.out hl)
  have HBK := Lib.hid (fun hl => (upto_bk (size := C) HOK.out hl l.length (Nat.le_refl _)).1)
  have HFN : Hid (Sst.fin l C = Sst.two l C ++ Codec.frame (Sst.filter l) ++ (Sst.foot l C ++ Codec.four (Codec.sum (Sst.foot l C)))) := Lib.hid rfl
  have HTW : Hid (Sst.two l C = (Sst.upto l C n).out ++ Codec.frame (Sst.index (Sst.upto l C n).bl)) := Lib.hid (by rw [← HN.out]; rfl)
  have HFT : Hid (Sst.foot l C = Codec.low 8 (Sst.upto l C n).out.length ++ Codec.low 8 (Sst.two l C).length ++ Codec.low 8 n) := Lib.hid (by rw [← HN.out]; rfl)
  rw [HN.out] at HBK HTWO
  generalize Sst.upto l C = UP at *
  go_loopw [6, 7, 8, 9, 29] (fun ov pv bv fv iv wr => ∃ (i no co np cp nb cb : Nat) (ao ap ab : Option Addr), i ≤ n ∧ iv = .int .i64 i ∧ ov = .slice ao no co ∧ pv = .slice ap np cp ∧ bv = .slice ab nb cb ∧ fv = .string (bstr (UP i).fk) ∧ Hid (Own wr w.heap.size ao no co (UP i).out) ∧ Hid (Own wr w.heap.size ap np cp (UP i).pay) ∧ Hid (Acc celB 93 wr w.heap.size ab nb cb (UP i).bl) ∧ Hid (Below w.heap.size w wr) ∧ Hid (∀ j, j < i → ¬ Sst.long (nth l j))) (fun _ _ _ _ iv _ => n - (intOf iv).toNat)
  case atStart => exact ⟨0, 0, 0, 0, 0, 0, 0, none, none, none, Nat.zero_le _, rfl, rfl, rfl, rfl, by rw [HU0.out]; rfl, by rw [HU0.out]; exact Lib.hid (Own.nil _ _), by rw [HU0.out]; exact Lib.hid (Own.nil _ _), by rw [HU0.out]; exact Lib.hid (Acc.nil _ _ _ _), HB1, Lib.hid (fun j hj => by omega)⟩
  case round =>
    obtain ⟨i, no, co, np, cp, nb, cb, ao, ap, ab, hi, rfl, rfl, rfl, rfl, rfl, HO, HPY, HAC, HB, HLG⟩ := hrel
    have hsm := HSM.out i hi
    have hno : no ≤ 150000 := by rw [← HO.out.bs.1]; exact hsm.1
    have hnp : np ≤ 150000 := by rw [← HPY.out.bs.1]; exact hsm.2.1
    have hnb : nb ≤ 400 := by rw [← HAC.out.1]; exact hsm.2.2
    clear hsm
    by_cases hlt : i < n
    case neg =>
      obtain rfl : n = i := by omega
      have HNLG : Hid (∀ e ∈ l, ¬ Sst.long e) := Lib.hid (fun e he => by
        obtain ⟨j, hj, rfl⟩ := List.getElem_of_mem he
        rw [← nth_eq _ hj]
        exact HLG.out j (by rw [← HN.out]; exact hj))
      have HP := Lib.hid (HPO.out (by rintro ⟨e, he, h⟩; exact HNLG.out e he h))
      have HTL := Lib.hid (HTWO.out HNLG.out)
      have HSX := Lib.hid (sindex_any ab nb cb (UP n).bl wr (HAC.out.rd (by decide)) (HBK.out HNLG.out) (by omega))
      have HSF := Lib.hid (fun W (hb : Below w.heap.size w W) => sfilter_any a n c l W (HL.out.below hb) (fun e he => by
        obtain ⟨j, hj, rfl⟩ := List.getElem_of_mem he
        have h1 := (HOK.out.at hj).2
        rw [nth_eq _ hj] at h1
        omega) (by omega))
      have HFLN := Lib.hid (filter_len l (by rw [HN.out]; omega))
      have HIXL : Hid ((Sst.index (UP n).bl).length ≤ 41000000) := Lib.hid HTL.out.1
      have HTWL : Hid ((Sst.two l C).length ≤ 42000000) := Lib.hid HTL.out.2
      have HFRL := Lib.hid (frame_le (p := Sst.index (UP n).bl) (by have := HIXL.out; omega))
      have HFRF := Lib.hid (frame_le (p := Sst.filter l) (by have := HFLN.out; omega))
      clear HTL HTWO HBK HPL HUS HSM HU0
      generalize Sst.index (UP n).bl = IX at *
      generalize Sst.filter l = FI at *
      go_wp2_with fail
      refine HSX.out.mono ?_
      rintro en w3 ⟨a3, n3, c3, rfl, ho3, hb3⟩
      have HB3 := Lib.hid (HB.out.trans (hb3.mono HB.out.size))
      have HO3 := Lib.hid (HO.out.below hb3)
      have HI3 := Lib.hid ho3.bs
      have hn3 : n3 ≤ 41000000 := by rw [← ho3.bs.1]; exact HIXL.out
      clear ho3 hb3 HSX
      go_wp2_with fail
      refine (frame_any a3 n3 c3 IX w3 HI3.out ⟨by omega⟩).mono ?_
      rintro en w4 ⟨a4, n4, c4, rfl, ho4, hb4⟩
      have HB4 := Lib.hid (HB3.out.trans (hb4.mono HB3.out.size))
      have HO4 := Lib.hid (HO3.out.below hb4)
      have HF4 := Lib.hid ho4.bs
      have hn4 : n4 ≤ 41000014 := by rw [← ho4.bs.1]; have := HFRL.out; have := HIXL.out; omega
      clear ho4 hb4
      go_wp2_with (at_builtin; refine app_own rfl _ _ rfl w.heap.size rfl HO4.out rfl HF4.out (by omega) HB4.out.size ?_; intro a5 c5 w5 h5 hb5 _; have HO5 : Hid (Own w5 w.heap.size a5 (no + n4) c5 (Sst.two l C)) := Lib.hid (by rw [HTW.out]; exact h5); have HB5 := Lib.hid (HB4.out.trans hb5); clear h5 hb5)
      have HN2 : Hid ((Sst.two l C).length = no + n4) := Lib.hid HO5.out.bs.1
      have HN1 : Hid ((UP n).out.length = no) := Lib.hid HO.out.bs.1
      have hn5 : no + n4 ≤ 42000000 := by rw [← HN2.out]; exact HTWL.out
      refine (HSF.out w5 HB5.out).mono ?_
      rintro en w6 ⟨a6, n6, c6, rfl, ho6, hb6⟩
      have HB6 := Lib.hid (HB5.out.trans (hb6.mono HB5.out.size))
      have HO6 := Lib.hid (HO5.out.below hb6)
      have HI6 := Lib.hid ho6.bs
      have hn6 : n6 ≤ 1300 := by rw [← ho6.bs.1]; exact HFLN.out
      clear ho6 hb6 HSF
      go_wp2_with fail
      refine (frame_any a6 n6 c6 FI w6 HI6.out ⟨by omega⟩).mono ?_
      rintro en w7 ⟨a7, n7, c7, rfl, ho7, hb7⟩
      have HB7 := Lib.hid (HB6.out.trans (hb7.mono HB6.out.size))
      have HO7 := Lib.hid (HO6.out.below hb7)
      have HF7 := Lib.hid ho7.bs
      have hn7 : n7 ≤ 1400 := by rw [← ho7.bs.1]; have := HFRF.out; have := HFLN.out; omega
      clear ho7 hb7
      go_wp2_with (at_builtin; refine app_own rfl _ _ rfl w.heap.size rfl HO7.out rfl HF7.out (by omega) HB7.out.size ?_; intro a8 c8 w8 h8 hb8 _; have HO8 := Lib.hid h8; have HB8 := Lib.hid (HB7.out.trans hb8); clear h8 hb8)
      refine (slow_any w8.heap.size none 0 0 [] no 8 w8 (Nat.le_refl _) (Own.nil _ _) (by omega)).mono ?_
      rintro en w9 ⟨a9, n9, c9, rfl, ho9, hb9, _⟩
      rw [List.nil_append] at ho9
      have HE9 := Lib.hid ho9
      have HB9 := Lib.hid hb9
      have hn9 : n9 = 8 := by rw [← ho9.bs.1, Codec.low_len]
      clear ho9 hb9
      subst hn9
      go_wp2_with fail
      rw [show (no : Int) + (n4 : Int) = ((no + n4 : Nat) : Int) by omega]
      refine (slow_any w8.heap.size a9 8 c9 _ (no + n4) 8 w9 HB9.out.size HE9.out (by omega)).mono ?_
      rintro en w10 ⟨a10, n10, c10, rfl, ho10, hb10, _⟩
      have HE10 := Lib.hid ho10
      have HB10 := Lib.hid (HB9.out.trans hb10)
      have hn10 : n10 = 16 := by rw [← ho10.bs.1, List.length_append, Codec.low_len, Codec.low_len]
      clear ho10 hb10
      subst hn10
      go_wp2_with fail
      refine (slow_any w8.heap.size a10 16 c10 _ n 8 w10 HB10.out.size HE10.out (by omega)).mono ?_
      rintro en w11 ⟨a11, n11, c11, rfl, ho11, hb11, _⟩
      have HE11 : Hid (Own w11 w8.heap.size a11 n11 c11 (Sst.foot l C)) := Lib.hid (by rw [HFT.out, HN2.out, HN1.out]; exact ho11)
      have HB11 := Lib.hid (HB10.out.trans hb11)
      have hn11 : n11 = 24 := by rw [← HE11.out.bs.1]; exact foot_len l C
      clear ho11 hb11
      subst hn11
      have HO11 := Lib.hid (HO8.out.below HB11.out)
      have HB11W := Lib.hid (HB8.out.trans (HB11.out.mono HB8.out.size))
      have HOB := Lib.hid (fun x (hx : a8 = some x) => (HO8.out.new x hx).2)
      have HEB := Lib.hid (fun x (hx : a11 = some x) => (HE11.out.new x hx).1)
      go_wp2_with (at_builtin; refine app_own rfl _ _ rfl w.heap.size rfl HO11.out rfl HE11.out.bs (by omega) HB11W.out.size ?_; intro a12 c12 w12 h12 hb12 hev12; have HO12 := Lib.hid h12; have HB12 := Lib.hid (HB11W.out.trans hb12); have HE12 := Lib.hid (HE11.out.bs.evol hev12 (fun _ y x hy hx => by have h1 := HEB.out y hy; have h2 := HOB.out x hx; omega)); clear h12 hb12 hev12)
      refine (sum_any _ 1 1 [Sst.foot l C] _ (Bss.one HE12.out)).mono ?_
      rintro en w13 ⟨rfl, hb13⟩
      rw [show ([Sst.foot l C] : List (List UInt8)).flatten = Sst.foot l C by simp, n32_toNat]
      have hb123 := (below_alloc1 w12 (.cells #[.slice a11 24 c11] 22)).trans (hb13.mono (le_alloc (Nat.le_refl _)))
      have HB13 := Lib.hid (HB12.out.trans (hb123.mono HB12.out.size))
      have HO13 := Lib.hid (HO12.out.below hb123)
      have hsb := (Codec.sum (Sst.foot l C)).toNat_lt
      have HF4E := Lib.hid (Codec.four_eq (Codec.sum (Sst.foot l C)))
      clear hb13 hb123
      generalize hsu : (Codec.sum (Sst.foot l C)).toNat = SU at *
      clear hsu
      go_wp2_with fail
      refine (slow_any w13.heap.size none 0 0 [] SU 4 w13 (Nat.le_refl _) (Own.nil _ _) (by omega)).mono ?_
      rintro en w14 ⟨a14, n14, c14, rfl, ho14, hb14, _⟩
      rw [List.nil_append, HF4E.out] at ho14
      have HB14 := Lib.hid (HB13.out.trans (hb14.mono HB13.out.size))
      have HO14 := Lib.hid (HO13.out.below hb14)
      have HF14 := Lib.hid ho14.bs
      have hn14 : n14 = 4 := by rw [← ho14.bs.1]; rfl
      clear ho14 hb14
      subst hn14
      go_wp2_with (at_builtin; refine app_own rfl _ _ rfl w.heap.size rfl HO14.out rfl HF14.out (by omega) HB14.out.size ?_; intro a15 c15 w15 h15 hb15 _; have HO15 := Lib.hid h15; have HB15 := Lib.hid (HB14.out.trans hb15); clear h15 hb15)
      go_ret2
      rw [HP.out]
      exact ⟨_, _, _, rfl, by rw [HFN.out]; simpa [List.append_assoc] using HO15.out, HB15.out⟩
    have htin : decide (i < n) = true := decide_eq_true hlt
    obtain ⟨b, off, ae, ce, rfl, he, hv⟩ := (HL.out.below HB.out).vals hlt
    have hok := HOK.out.at (i := i) (by rw [HN.out]; exact hlt)
    have HUI := Lib.hid (HUS.out i)
    have HMEM : Hid (nth l i ∈ l) := Lib.hid (by rw [nth_eq l (by rw [HN.out]; exact hlt)]; exact List.getElem_mem _)
    have HLG2 : Hid (¬ Sst.long (nth l i) → ∀ j, j < i + 1 → ¬ Sst.long (nth l j)) := Lib.hid (fun h j hj => by
      by_cases e : j = i
      · rw [e]; exact h
      · exact HLG.out j (by omega))
    have p0 := he.key
    have p1 := he.seq
    have p2 := he.gone
    have p3 := he.val
    have HV := Lib.hid hv
    generalize nth l i = x at *
    generalize UP i = st at *
    clear he hv
    have hkv : x.key.length + x.val.length ≤ 131072 := hok.2
    have HSEQ := Lib.hid hok.1
    clear hok
    have HEN := Lib.hid (ent_len HSEQ.out (by omega))
    by_cases hlk : 65535 < x.key.length
    case pos =>
      have HP := Lib.hid (HPL.out ⟨x, HMEM.out, .inl hlk⟩)
      have hs := bstr_size x.key
      have t3 : decide ((65535 : Int) < (x.key.length : Int)) = true := decide_eq_true (by omega)
      go_wp2
      go_ret2
      rw [HP.out]
      exact retp_nil (HB.out.alloc HB.out.size _)
    have hlv : ¬ 33554432 < x.val.length := by omega
    have HNL : Hid (¬ Sst.long x) := Lib.hid (fun h => by rcases h with h | h <;> omega)
    have hs := bstr_size x.key
    have t3 : decide ((65535 : Int) < (x.key.length : Int)) = false := decide_eq_false (by omega)
    have t4 : decide ((33554432 : Int) < (x.val.length : Int)) = false := decide_eq_false (by omega)
    have HBX := Lib.hid (ent_box (w := wr) rfl x ae ce)
    obtain ⟨w2, hw2⟩ : ∃ w2, wr.alloc (.cells #[.string (bstr x.key), .int .u64 x.seq, .bool x.gone, .slice ae x.val.length ce] 37) = w2 := ⟨_, rfl⟩
    rw [hw2] at HBX
    have hb2 : Below wr.heap.size wr w2 := by rw [← hw2]; exact below_alloc1 _ _
    have HO2 := Lib.hid (HO.out.below hb2)
    have HPY2 := Lib.hid (HPY.out.below hb2)
    have HAC2 := Lib.hid (HAC.out.below hb2)
    have HB2 := Lib.hid (HB.out.trans (hb2.mono HB.out.size))
    have HV2 := Lib.hid (HV.out.below hb2)
    have HW2 := Lib.hid hw2
    clear hw2 hb2
    go_upto_region 11 with fail
    rw [HW2.out]
    clear p0 p1 p2 p3
    have p0 := HBX.out.key
    have p1 := HBX.out.seq
    have p2 := HBX.out.gone
    have p3 := HBX.out.val
    obtain ⟨FK, hFK⟩ : ∃ FK, FK = Sst.fk' st x := ⟨_, rfl⟩
    have HFP : Hid (np = 0 → FK = x.key) := Lib.hid (fun h0 => by
      have h1 := HPY.out.bs.1
      rw [h0] at h1
      rw [hFK]; unfold Sst.fk'; rw [if_pos (List.length_eq_zero_iff.1 h1)])
    have HFN2 : Hid (np ≠ 0 → FK = st.fk) := Lib.hid (fun h0 => by
      have h1 := HPY.out.bs.1
      rw [hFK]; unfold Sst.fk'; rw [if_neg (fun e => h0 (by rw [← h1, e]; rfl))])
    have HFK := Lib.hid hFK
    clear hFK
    go_upto_if 46 with fail
    go_cut [9] (fun v wx => v = .string (bstr FK) ∧ wx = w2)
    case first =>
      by_cases h0 : np = 0
      · have t5 : ((np : Int) == 0) = true := by rw [beq_iff_eq]; omega
        have hf := HFP.out h0
        clear h0
        go_wp2
        go_meet
        exact ⟨by rw [hf], rfl⟩
      · have t5 : ((np : Int) == 0) = false := by rw [beq_eq_false_iff_ne]; omega
        have hf := HFN2.out h0
        clear h0
        go_wp2
        go_meet
        exact ⟨by rw [hf], rfl⟩
    case rest =>
    obtain ⟨rfl, hwx⟩ := hcut
    obtain rfl := hwx.symm
    clear hwx t3 t4
    have HSE := Lib.hid (sent_any ap np cp st.pay x ae ce w2 HPY2.out.bs HV2.out HSEQ.out (by omega))
    unfold ev at HSE
    go_wp2_with fail
    refine HSE.out.mono ?_
    rintro en w3 ⟨a3, n3, c3, rfl, ho3, hb3⟩
    have HB3 := Lib.hid (HB2.out.trans (hb3.mono HB2.out.size))
    have HPY3 := Lib.hid (ho3.mono HB2.out.size)
    have HO3 := Lib.hid (HO2.out.below hb3)
    have HAC3 := Lib.hid (HAC2.out.below hb3)
    have HN3 := Lib.hid ho3.bs.1
    have hn3 : n3 ≤ 300000 := by
      have h1 := HN3.out
      have h2 := HEN.out
      have h3 := HPY.out.bs.1
      rw [List.length_append] at h1
      omega
    clear ho3 hb3 p0 p1 p2 p3 HSE
    by_cases hfl : C ≤ n3 ∨ i + 1 = n
    case neg =>
      have HST : Hid (UP (i + 1) = ⟨st.out, st.pay ++ Sst.ent x, st.bl, FK⟩) := Lib.hid (by
        rw [HUI.out, HFK.out, step_keep]
        rw [HN3.out]
        simpa using hfl)
      have t6 : decide ((C : Int) ≤ (n3 : Int)) = false := decide_eq_false (by omega)
      have t6' : decide (C ≤ n3) = false := decide_eq_false (by omega)
      have t7 : ((i : Int) == (n : Int) - 1) = false := by rw [beq_eq_false_iff_ne]; omega
      clear hfl
      go_wp2
      go_roundw
      case rel => exact ⟨i + 1, no, co, n3, c3, nb, cb, ao, a3, ab, by omega, by go_num, rfl, rfl, rfl, by rw [HST.out], by rw [HST.out]; exact HO3, by rw [HST.out]; exact HPY3, by rw [HST.out]; exact HAC3, HB3, Lib.hid (HLG2.out HNL.out)⟩
      case measure => simp [intOf]; omega
    have HST : Hid (UP (i + 1) = ⟨st.out ++ Codec.frame (st.pay ++ Sst.ent x), [], st.bl ++ [⟨FK, st.out.length, (Codec.frame (st.pay ++ Sst.ent x)).length⟩], FK⟩) := Lib.hid (by
      rw [HUI.out, HFK.out, step_flush]
      rw [HN3.out]
      simpa using hfl)
    have HON : Hid (st.out.length = no) := Lib.hid HO.out.bs.1
    go_upto_region 16 with fail
    go_cut [62] (fun v wx => v = .bool true ∧ wx = w3)
    case first =>
      by_cases hC : C ≤ n3
      · have t6 : decide ((C : Int) ≤ (n3 : Int)) = true := decide_eq_true (by omega)
        have t6' : decide (C ≤ n3) = true := decide_eq_true hC
        clear hfl hC
        go_wp2
        go_meet
        exact ⟨rfl, rfl⟩
      · have t6 : decide ((C : Int) ≤ (n3 : Int)) = false := decide_eq_false (by omega)
        have t6' : decide (C ≤ n3) = false := decide_eq_false hC
        have t7 : ((i : Int) == (n : Int) - 1) = true := by rw [beq_iff_eq]; omega
        clear hfl hC
        go_wp2
        go_meet
        exact ⟨rfl, rfl⟩
    case rest =>
    obtain ⟨rfl, hwx⟩ := hcut
    obtain rfl := hwx.symm
    clear hwx hfl
    have HFR := Lib.hid (frame_any a3 n3 c3 (st.pay ++ Sst.ent x) w3 HPY3.out.bs ⟨by omega⟩)
    have HFL := Lib.hid (frame_le (p := st.pay ++ Sst.ent x) (by rw [HN3.out]; omega))
    generalize Codec.frame (st.pay ++ Sst.ent x) = fr at *
    go_wp2_with fail
    refine HFR.out.mono ?_
    rintro en w4 ⟨a4, n4, c4, rfl, ho4, hb4⟩
    have HB4 := Lib.hid (HB3.out.trans (hb4.mono HB3.out.size))
    have HO4 := Lib.hid (HO3.out.below hb4)
    have HAC4 := Lib.hid (HAC3.out.below hb4)
    have HF4 := Lib.hid (ho4.mono HB3.out.size)
    have HN4 := Lib.hid ho4.bs.1
    have hn4b : n4 ≤ 300014 := by
      have h1 := HN4.out
      have h2 := HFL.out
      have h3 := HN3.out
      omega
    clear ho4 hb4 HFR
    go_wp2_with (first
      | (at_builtin; refine app_cel celB rfl _ _ 90 93 rfl Tryz.underlying90 infoBk rfl (by decide) (by decide) w.heap.size rfl (HAC4.out.below (below_alloc1 _ _)) (e := ⟨FK, no, n4⟩) rfl (bk_box (by first | rfl | simp) ⟨FK, no, n4⟩) (by omega) (le_alloc HB4.out.size) ?_; intro a5 c5 w5 h5 hb5 hev5; have HA5 := Lib.hid h5; have HB5 := Lib.hid (HB4.out.trans (((Below.refl _ _).alloc HB4.out.size _).trans hb5)); have HE5 := Lib.hid ((Evol.alloc _ _ _).trans hev5); have HO5 := Lib.hid (HO4.out.evolNe HE5.out (own_ne HO4.out HAC4.out.2 (by decide))); have HF5 := Lib.hid (HF4.out.evolNe HE5.out (own_ne HF4.out HAC4.out.2 (by decide))); clear h5 hb5 hev5)
      | (at_builtin; refine app_own rfl _ _ rfl w.heap.size rfl HO5.out rfl HF5.out.bs (by omega) HB5.out.size ?_; intro a6 c6 w6 h6 hb6 hev6; have HO6 := Lib.hid h6; have HB6 := Lib.hid (HB5.out.trans hb6); have HA6 := Lib.hid (HA5.out.evol hev6 (own_ne HA5.out.2 HO5.out (by decide))); clear h6 hb6 hev6))
    go_roundw
    case rel => exact ⟨i + 1, no + n4, c6, 0, 0, nb + 1, c5, a6, none, a5, by omega, by go_num, by go_num, rfl, by go_num, by rw [HST.out], by rw [HST.out]; exact HO6, by rw [HST.out]; exact Lib.hid (Own.nil _ _), by rw [HST.out, HON.out, HN4.out]; exact HA6, HB6, Lib.hid (HLG2.out HNL.out)⟩
    case measure => simp [intOf]; omega
end Go.Proofs.YtjigfinpbdglnaaGreatDoor
