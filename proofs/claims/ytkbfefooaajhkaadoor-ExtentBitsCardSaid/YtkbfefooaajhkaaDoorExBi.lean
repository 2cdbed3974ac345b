/- The walk of ExtentBits. -/
import Derived.Test.YtkbfefooaajhkaaDoorExBk
import Derived.Test.YtkbfefooaajhkaaDoorExWr
import Derived.Test.YtkbfefooaajhkaaDoorExQ
set_option maxRecDepth 100000
set_option linter.unusedVariables false
set_option linter.unusedSimpArgs false
namespace Go.Proofs.YtkbfefooaajhkaaDoor
open Go.RowKit

theorem bit_xor (y : UInt8) (r : Nat) : bits .xor .u8 (n8 y) ((2 : Int) ^ r % 256) = n8 (y ^^^ UInt8.ofNat (2 ^ r)) := by
  have e : (2 : Int) ^ r % 256 = n8 (UInt8.ofNat (2 ^ r)) := by
    unfold n8
    rw [UInt8.toNat_ofNat']
    simp
  rw [e, xor8]
theorem u64_3 : U64 3 := ⟨by decide⟩
theorem nth_make {id : Nat} {data : List UInt8} {C n : Nat} (hn : n < (Ex.head data C).n) : nth (Ex.make id data C) (n + 1) = Ex.cw id data C n := by
  unfold nth
  rw [List.getD_eq_getElem?_getD, make_at hn]
  rfl
theorem keys_set {w : World} {bk g j : Nat} {v : Value} (h : KeysAt w bk []) (hne : bk ≠ g) : KeysAt (w.setCell ⟨g, j, none⟩ v) bk [] := by
  obtain ⟨a, n, c, h1, h2⟩ := h
  have h3 := h2.1
  have h4 := h2.2.1
  have h5 := h2.2.2.1
  simp at h3
  subst h3
  exact ⟨a, 0, c, (Below.heap_setCell _ _ _ _ hne).trans h1, rfl, h4, h5, fun i hi => by omega⟩
theorem tmod_in (z m : Int) (hm : 0 < m) : -m < Int.tmod z m ∧ Int.tmod z m < m := by
  rw [Int.tmod_eq_emod]
  have h1 := Int.emod_nonneg z (b := m) (by omega)
  have h2 := Int.emod_lt_of_pos z (b := m) hm
  split <;> omega
set_option maxHeartbeats 8000000 in
theorem extentBits_walk (a : Option Addr) (n c : Nat) (data : List UInt8) (z zn za : Int) (cu : Bool) (w : World) (h : Bs w a n c data) (bz : -9223372036854775808 ≤ z ∧ z ≤ 9223372036854775807) (bn : -9223372036854775808 ≤ zn ∧ zn ≤ 9223372036854775807) (ba : -9223372036854775808 ≤ za ∧ za ≤ 9223372036854775807) (hL : Laid w) :
    Calls Tryd.prog 3 #[.slice a n c, .int .i64 z, .int .i64 zn, .int .i64 za, .bool cu] w fun e w' => e = .returned (.bool true) ∧ Below w.heap.size w w' := by
  have HLD := Lib.hid hL
  have HE := Lib.hid h
  have hle := h.le.1
  have HN := Lib.hid h.1
  clear h hL
  go_enter Tryd.func3, Tryd.ntmps3
  go_wp2_with fail
  refine (known_any w HLD.out).mono ?_
  rintro e w1 ⟨rfl, hb1⟩
  have HB1 := Lib.hid hb1
  clear hb1
  by_cases q9 : n = 0
  case pos =>
    have t9 : ((n : Int) == 0) = true := by rw [beq_iff_eq]; omega
    clear q9
    go_wp2
    go_ret
    exact ⟨rfl, HB1.out⟩
  have t9 : ((n : Int) == 0) = false := by rw [beq_eq_false_iff_ne]; omega
  by_cases q0 : n ≤ 2000
  case neg =>
    have t0 : decide ((2000 : Int) < (n : Int)) = true := decide_eq_true (by omega)
    go_wp2
    go_ret
    exact ⟨rfl, HB1.out⟩
  have t0 : decide ((2000 : Int) < (n : Int)) = false := decide_eq_false (by omega)
  by_cases q1 : 1 ≤ z
  case neg =>
    have t1 : decide (z < 1) = true := decide_eq_true (by omega)
    go_wp2
    go_ret
    exact ⟨rfl, HB1.out⟩
  have t1 : decide (z < 1) = false := decide_eq_false (by omega)
  by_cases q2 : z ≤ 16777216
  case neg =>
    have t2 : decide ((16777216 : Int) < z) = true := decide_eq_true (by omega)
    go_wp2
    go_ret
    exact ⟨rfl, HB1.out⟩
  have t2 : decide ((16777216 : Int) < z) = false := decide_eq_false (by omega)
  obtain ⟨C, rfl⟩ : ∃ m : Nat, z = (m : Int) := ⟨z.toNat, by omega⟩
  have hn1 : 1 ≤ n := by omega
  clear q9
  have HLM : Hid ((Ex.make 3 data C).length = (Ex.head data C).n + 1) := Lib.hid (by
    unfold Ex.make
    rw [List.length_cons, List.length_map, List.length_range])
  have HNI := Lib.hid (fun k => n_iff data C k (by omega))
  have HNB : Hid ((Ex.head data C).n ≤ 2000) := Lib.hid (by have h1 := n_le data.length C (by omega); have h2 := HN.out; show (data.length + C - 1) / C ≤ _; omega)
  have HNP : Hid (0 < (Ex.head data C).n) := Lib.hid ((HNI.out 0).2 (by have := HN.out; omega))
  have HNM := Lib.hid (fun k (hk : k < (Ex.head data C).n) => nth_make (id := 3) hk)
  have HSP := Lib.hid (fun k v (hk : k < (Ex.head data C).n) => spoilt_holds 3 data C k v (by omega) (by omega) (by rw [HN.out]; omega) hk)
  obtain ⟨N, hNN⟩ : ∃ N, (Ex.head data C).n = N := ⟨_, rfl⟩
  rw [hNN] at HLM HNI HNB HNP HNM HSP
  clear hNN
  have hnb := HNB.out
  have hnp := HNP.out
  have HB2 : Hid (Below w.heap.size w (w1.alloc (.cells #[.slice none 0 0] 27))) := Lib.hid (HB1.out.alloc HB1.out.size _)
  have HK2 := Lib.hid (keys_new w1)
  have HG : Hid (w.heap.size ≤ w1.heap.size) := Lib.hid HB1.out.size
  go_wp2_with fail
  refine (make_any 3 a n c data C _ u64_3 (HE.out.below HB2.out) (by omega) (by omega) (by omega) (HLD.out.below HB2.out)).mono ?_
  rintro e w3 ⟨a3, n3, c3, rfl, hm3, hb3⟩
  have HB3 := Lib.hid (HB2.out.trans (hb3.mono HB2.out.size))
  have HK3 := Lib.hid (HK2.out.below hb3)
  have hn3 : n3 = N + 1 := by rw [← hm3.len]; exact HLM.out
  have hm3' := hm3.mono (B' := w1.heap.size + 1) (by simp)
  have HM3 := Lib.hid hm3'
  have hmn : (n3 : Int) - 1 = (N : Int) := by omega
  have hn3b : n3 ≤ 2001 ∧ 2 ≤ n3 := by omega
  have HN3 := Lib.hid hn3
  have t7 : decide ((n3 : Int) < 2) = false := decide_eq_false (by omega)
  have t8 : ((N : Int) == 0) = false := by rw [beq_eq_false_iff_ne]; omega
  clear hm3 hm3' hb3 hn3
  obtain ⟨T, hT⟩ : ∃ T, Int.tmod zn (N : Int) = T := ⟨_, rfl⟩
  have hTb := tmod_in zn (N : Int) (by omega)
  rw [hT] at hTb
  go_upto_if 57 with fail
  go_cut [2] (fun v wx => ∃ k : Nat, k < N ∧ v = .int .i64 k ∧ wx = w3)
  case first =>
    by_cases hneg : T < 0
    · have s1 : decide (T < 0) = true := decide_eq_true hneg
      go_wp2
      go_meet
      exact ⟨(T + (N : Int)).toNat, by omega, by rw [show (((T + (N : Int)).toNat : Nat) : Int) = T + (N : Int) by omega], rfl⟩
    · have s1 : decide (T < 0) = false := decide_eq_false hneg
      go_wp2
      go_meet
      exact ⟨T.toNat, by omega, by rw [show ((T.toNat : Nat) : Int) = T by omega], rfl⟩
  case rest =>
  clear hT hTb
  obtain ⟨k, hk, rfl, hwx⟩ := hcut
  obtain rfl := hwx.symm
  clear hwx
  have HKC := Lib.hid ((HNI.out k).1 hk)
  obtain ⟨p, hp⟩ : ∃ p, p = Ex.piece data C k := ⟨_, rfl⟩
  have hlen : p.length = min C (n - k * C) := by rw [hp]; unfold Ex.piece; rw [List.length_take, List.length_drop, HN.out]
  have hkc := HKC.out
  rw [HN.out] at hkc
  obtain ⟨V, hV⟩ : ∃ V, V = 4 + p.length := ⟨_, rfl⟩
  have hVb : 5 ≤ V ∧ V ≤ 2004 := by omega
  have HVE : Hid ((Ex.sealed p).length = V) := Lib.hid (by rw [sealed_len, hV])
  have hnm := HNM.out k hk
  have hval : (nth (Ex.make 3 data C) (k + 1)).val = Ex.sealed p := by rw [hnm, hp]; rfl
  obtain ⟨g, q, ci, rfl, hgB, hqB, hgq, hfg, hfq, hat, hbs, hcutw, hsetw⟩ := HM3.out.at (i := k + 1) (by have := HN3.out; omega) (by rw [hval, HVE.out]; omega)
  have hvc := hat.val
  rw [hval, HVE.out] at hvc
  have HCW : Hid (∀ j, j ≤ V → Ws (w3.setCell ⟨g, (k + 1) * 3 + 2, none⟩ (.slice (some ⟨q, 0, none⟩) j ci)) (some ⟨g, 0, none⟩) n3 c3 (Ex.spoilt 3 data C k ((Ex.sealed p).take j))) := Lib.hid (fun j hj => by
    have := hcutw j (by rw [hval, HVE.out]; exact hj)
    rw [hval, hnm] at this
    exact this)
  have HSW : Hid (∀ j y, j < V → Ws (w3.setCell ⟨q, j, none⟩ (.int .u8 (n8 y))) (some ⟨g, 0, none⟩) n3 c3 (Ex.spoilt 3 data C k ((Ex.sealed p).set j y))) := Lib.hid (fun j y hj => by
    have := hsetw j y (by rw [hval, HVE.out]; exact hj)
    rw [hval, hnm] at this
    exact this)
  have HBV : Hid (Bs w3 (some ⟨q, 0, none⟩) V ci (Ex.sealed p)) := Lib.hid (by rw [hval, HVE.out] at hbs; exact hbs)
  have HCB : Hid (∀ j, j < V → ¬ Ex.good (Hd.mk' data C 1) k ((Ex.sealed p).take j)) := Lib.hid (fun j hj => cut_bad (by rw [hp]; exact len_piece data C k) (by omega))
  have HFB : Hid (∀ j y, j < V → y ≠ nth (Ex.sealed p) j → ¬ Ex.good (Hd.mk' data C 1) k ((Ex.sealed p).set j y)) := Lib.hid (fun j y hj hy => flip_bad (by rw [HVE.out]; exact hj) (by rw [nth_eq _ (by rw [HVE.out]; exact hj)] at hy; exact hy))
  have HQV := Lib.hid HBV.out.2.1
  have hVci := HBV.out.2.1
  obtain ⟨k1, hk1⟩ : ∃ k1 : Nat, (k : Int) + 1 = (k1 : Int) := ⟨k + 1, by omega⟩
  have hk1b : k1 < n3 := by have := HN3.out; omega
  have HK1 : Hid (k1 = k + 1) := Lib.hid (by omega)
  rw [show k + 1 = k1 by omega] at hvc HCW
  have hf1 := hfg (k1 * 3 + 2)
  have HGB : Hid (w1.heap.size + 1 ≤ g ∧ w1.heap.size + 1 ≤ q) := Lib.hid ⟨hgB, hqB⟩
  have HFQ := Lib.hid hfq
  have hVz : ((8 * (V : Int)) == 0) = false := by rw [beq_eq_false_iff_ne]; omega
  clear hat hbs hcutw hsetw hnm hval hfg hfq hp hlen hV hgB hqB hgq hkc
  obtain ⟨T, hT⟩ : ∃ T, Int.tmod za (8 * (V : Int)) = T := ⟨_, rfl⟩
  have hTb := tmod_in za (8 * (V : Int)) (by omega)
  rw [hT] at hTb
  go_upto_if 73 with fail
  go_cut [3] (fun v wx => ∃ A : Nat, A < 8 * V ∧ v = .int .i64 A ∧ wx = w3)
  case first =>
    by_cases hneg : T < 0
    · have s1 : decide (T < 0) = true := decide_eq_true hneg
      go_wp2
      go_meet
      exact ⟨(T + 8 * (V : Int)).toNat, by omega, by rw [show (((T + 8 * (V : Int)).toNat : Nat) : Int) = T + 8 * (V : Int) by omega], rfl⟩
    · have s1 : decide (T < 0) = false := decide_eq_false hneg
      go_wp2
      go_meet
      exact ⟨T.toNat, by omega, by rw [show ((T.toNat : Nat) : Int) = T by omega], rfl⟩
  case rest =>
  obtain ⟨A, hA, rfl, hwx⟩ := hcut
  obtain rfl := hwx.symm
  clear hwx hT hTb
  go_upto_if 79 with fail
  go_cut [] (fun wx => Hid (∃ v', (¬ Ex.good (Hd.mk' data C 1) k v') ∧ Ws wx (some ⟨g, 0, none⟩) n3 c3 (Ex.spoilt 3 data C k v') ∧ KeysAt wx w1.heap.size [] ∧ Below w.heap.size w wx))
  case first =>
    have hA8 : A / 8 < V := by omega
    cases cu with
    | true =>
      have hsh : ∀ W, (Instr.slice 22 (.slice (some ⟨q, 0, none⟩) V ci) none (some (.int .i64 ((A : Int) / 8))) none).run Tryd.prog W = .ok (.slice (some ⟨q, 0, none⟩) (A / 8) ci) W := fun W => slice_h _ V ci (hi := (A : Int) / 8) (hi' := A / 8) (by omega) (by omega) W
      have HPOST : Hid (∃ v', (¬ Ex.good (Hd.mk' data C 1) k v') ∧ Ws (w3.setCell ⟨g, k1 * 3 + 2, none⟩ (.slice (some ⟨q, 0, none⟩) (A / 8) ci)) (some ⟨g, 0, none⟩) n3 c3 (Ex.spoilt 3 data C k v') ∧ KeysAt (w3.setCell ⟨g, k1 * 3 + 2, none⟩ (.slice (some ⟨q, 0, none⟩) (A / 8) ci)) w1.heap.size [] ∧ Below w.heap.size w (w3.setCell ⟨g, k1 * 3 + 2, none⟩ (.slice (some ⟨q, 0, none⟩) (A / 8) ci))) := Lib.hid
        ⟨_, HCB.out _ hA8, HCW.out _ (by omega), keys_set HK3.out (by have := HGB.out; omega), HB3.out.setCell (p := ⟨g, k1 * 3 + 2, none⟩) (by have := HGB.out; have := HG.out; show w.heap.size ≤ g; omega) _⟩
      go_wp2
      go_meet
      exact HPOST
    | false =>
      have hbit := bit_xor (nth (Ex.sealed p) (A / 8)) (A % 8)
      have c1 : w3.cell? ⟨q, A / 8, none⟩ = some (.int .u8 (n8 (nth (Ex.sealed p) (A / 8)))) := by
        obtain ⟨b', o', e, hc⟩ := HBV.out.2.2.2.byte (i := A / 8) (by rw [HVE.out]; exact hA8)
        cases e
        rw [Nat.zero_add] at hc
        exact hc
      have f1 := HFQ.out (A / 8)
      have hilt : (A : Int) / 8 < (V : Int) := by omega
      have hi0 : 0 ≤ (A : Int) / 8 := by omega
      have HPOST : Hid (∃ v', (¬ Ex.good (Hd.mk' data C 1) k v') ∧ Ws (w3.setCell ⟨q, A / 8, none⟩ (.int .u8 (n8 (nth (Ex.sealed p) (A / 8) ^^^ UInt8.ofNat (2 ^ (A % 8)))))) (some ⟨g, 0, none⟩) n3 c3 (Ex.spoilt 3 data C k v') ∧ KeysAt (w3.setCell ⟨q, A / 8, none⟩ (.int .u8 (n8 (nth (Ex.sealed p) (A / 8) ^^^ UInt8.ofNat (2 ^ (A % 8)))))) w1.heap.size [] ∧ Below w.heap.size w (w3.setCell ⟨q, A / 8, none⟩ (.int .u8 (n8 (nth (Ex.sealed p) (A / 8) ^^^ UInt8.ofNat (2 ^ (A % 8))))))) := Lib.hid
        ⟨_, HFB.out _ _ hA8 (Codec.xor_ne (Codec.bit_ne _ (by omega))), HSW.out _ _ hA8, keys_set HK3.out (by have := HGB.out; omega), HB3.out.setCell (p := ⟨q, A / 8, none⟩) (by have := HGB.out; have := HG.out; show w.heap.size ≤ q; omega) _⟩
      have HI := Lib.hid hbit
      clear hbit
      go_wp2
      go_meet
      rw [HI.out]
      exact HPOST
  case rest =>
  clear hvc hf1 hVz
  obtain ⟨v', hbad, hws, hks, hbw⟩ := hcut.out
  have HS := Lib.hid (HSP.out k v' hk)
  have HBAD := Lib.hid hbad
  have HWS := Lib.hid hws
  have HKS := Lib.hid hks
  have HBW := Lib.hid hbw
  clear hcut hbad hws hks hbw HCW HSW HBV HCB HFB HK3 HB3 HM3 HSP
  have HRB := Lib.hid (rd_bad HS.out.1 HKC.out (chunk_bad HS.out.2.2 HBAD.out))
  have hkc := HKC.out
  rw [HN.out] at hkc
  obtain ⟨m1, hm1⟩ : ∃ m1, m1 = k * C := ⟨_, rfl⟩
  obtain ⟨m2, hm2⟩ : ∃ m2, m2 = (k + 1) * C := ⟨_, rfl⟩
  have em1 : (k : Int) * (C : Int) = (m1 : Int) := by rw [hm1, Int.natCast_mul]
  have em2 : (k1 : Int) * (C : Int) = (m2 : Int) := by rw [hm2, ← HK1.out, Int.natCast_mul]
  have HP1 : Hid (Ex.part (Kv.does [] (Ex.spoilt 3 data C k v')) 3 0 (m1 : Int) = (data.take m1, 0)) := Lib.hid (by
    have e := part_is HS.out.1 0 m1 (Nat.zero_le _) (by rw [HN.out]; omega) (fun j h1 h2 => HS.out.2.1 j (by
      rintro rfl
      omega) (by rw [HN.out]; omega))
    rw [List.drop_zero, Nat.sub_zero] at e
    exact e)
  have HP2 : Hid (m2 ≤ n → Ex.part (Kv.does [] (Ex.spoilt 3 data C k v')) 3 (m2 : Int) (n : Int) = (data.drop m2, 0)) := Lib.hid (fun hmn => by
    have e := part_is HS.out.1 m2 n hmn (by rw [HN.out]; exact Nat.le_refl _) (fun j h1 h2 => HS.out.2.1 j (by
      rintro rfl
      omega) (by rw [HN.out]; omega))
    rw [e, List.take_of_length_le (by rw [List.length_drop, HN.out]; omega)])
  have HM2 : Hid (k1 ≠ N → m2 < n) := Lib.hid (fun hne => by
    have h1 := (HNI.out (k + 1)).1 (by have := HK1.out; omega)
    rw [HN.out] at h1
    omega)
  have hm1b : m1 < n := by omega
  have HLS : Hid ((Ex.spoilt 3 data C k v').length ≤ 2001) := Lib.hid (by
    unfold Ex.spoilt
    rw [List.length_set, HLM.out]
    omega)
  clear hm1 hm2 hkc HS
  generalize Ex.spoilt 3 data C k v' = sp at *
  go_wp2_with fail
  refine (do_any w1.heap.size _ n3 c3 [] _ _ HKS.out HWS.out (by simp; omega)).mono ?_
  rintro e w5 ⟨rfl, hk5, ho5⟩
  have HB5 := Lib.hid (HBW.out.trans (ho5.below HBW.out.size (fun x hx => by cases hx; exact HG.out)))
  have HK5 := Lib.hid hk5
  clear hk5 ho5 HWS HKS
  generalize Kv.does [] sp = K at *
  have HR := Lib.hid (read_any w1.heap.size 3 K w5 u64_3 HK5.out (HLD.out.below HB5.out))
  unfold src at HR
  rw [HRB.out] at HR
  try dsimp only at HR
  go_wp2_with fail
  refine HR.out.mono ?_
  rintro e w6 ⟨a6, n6, c6, rfl, ho6, hb6⟩
  have HB6 := Lib.hid (HB5.out.trans (hb6.mono HB5.out.size))
  have HK6 := Lib.hid (HK5.out.below hb6)
  clear ho6 hb6 HR
  have HR := Lib.hid (part_any w1.heap.size 3 K 0 (m1 : Int) w6 u64_3 HK6.out (HLD.out.below HB6.out) (by omega) (by omega))
  unfold src at HR
  rw [HP1.out] at HR
  try dsimp only at HR
  go_wp2_with fail
  refine HR.out.mono ?_
  rintro e w7 ⟨a7, n7, c7, rfl, ho7, hb7⟩
  try dsimp only at ho7
  have HO7 := Lib.hid ho7
  have HB7 := Lib.hid (HB6.out.trans (hb7.mono HB6.out.size))
  have HK7 := Lib.hid (HK6.out.below hb7)
  clear ho7 hb7 HR
  have hnc := (HE.out).2.1
  have hsl : ∀ W, (Instr.slice 22 (.slice a n c) none (some (.int .i64 m1)) none).run Tryd.prog W = .ok (.slice a m1 c) W := fun W => slice_h a n c rfl (by omega) W
  have HDS := Lib.hid ((HE.out.below HB7.out).take (k := m1) (by omega))
  have v1 := fun W : BW w7 => conv_bytes (HO7.out.bs.below W.b)
  have v2 := fun W : BW w7 => conv_bytes (HDS.out.below W.b)
  have e1 : ((bstr (data.take m1)).toList == (bstr (data.take m1)).toList) = true := by simp
  generalize data.take m1 = dl at *
  go_wp2_with fail
  refine wp_region_class (w0 := w7) (by kernel_rfl) (by kernel_rfl) (Below.refl _ _) ?_
  repeat (first | go_big_quiet_step (fail))
  refine wpQuiet_nil ?_
  intro w8 hb8; replace hb8 := BW.of hb8
  have HB8 := Lib.hid (HB7.out.trans (hb8.mono HB7.out.size))
  have HK8 := Lib.hid (HK7.out.below hb8)
  clear hb8 v1 v2 hsl e1
  by_cases hlast : k1 = N
  · have t20 : ((k1 : Int) == (N : Int)) = true := by rw [beq_iff_eq]; omega
    have t20' : decide (k1 = N) = true := decide_eq_true hlast
    clear hlast
    go_wp2
    go_ret
    exact ⟨rfl, HB8.out⟩
  have t20 : ((k1 : Int) == (N : Int)) = false := by rw [beq_eq_false_iff_ne]; omega
  have t20' : decide (k1 = N) = false := decide_eq_false hlast
  have hm2b := HM2.out hlast
  have HR := Lib.hid (part_any w1.heap.size 3 K (m2 : Int) (n : Int) w8 u64_3 HK8.out (HLD.out.below HB8.out) (by omega) (by omega))
  unfold src at HR
  rw [HP2.out (by omega)] at HR
  try dsimp only at HR
  clear hlast
  go_wp2_with fail
  refine HR.out.mono ?_
  rintro e w9 ⟨a9, n9, c9, rfl, ho9, hb9⟩
  try dsimp only at ho9
  have HO9 := Lib.hid ho9
  have HB9 := Lib.hid (HB8.out.trans (hb9.mono HB8.out.size))
  clear ho9 hb9 HR
  have hsl : ∀ W, (Instr.slice 22 (.slice a n c) (some (.int .i64 m2)) none none).run Tryd.prog W = .ok (.slice (subA a c m2) (n - m2) (c - m2)) W := fun W => slice_l a n c rfl (by omega) W
  have HDS2 := Lib.hid ((HE.out.below HB9.out).drop (k := m2) (by omega))
  have v1 := fun W : BW w9 => conv_bytes (HO9.out.bs.below W.b)
  have v2 := fun W : BW w9 => conv_bytes (HDS2.out.below W.b)
  have e1 : ((bstr (data.drop m2)).toList == (bstr (data.drop m2)).toList) = true := by simp
  generalize data.drop m2 = dl2 at *
  generalize subA a c m2 = ab at *
  go_wp2_with fail
  refine wp_region_class (w0 := w9) (by kernel_rfl) (by kernel_rfl) (Below.refl _ _) ?_
  repeat (first | go_big_quiet_step (fail))
  refine wpQuiet_nil ?_
  intro w10 hb10; replace hb10 := BW.of hb10
  have HB10 := Lib.hid (HB9.out.trans (hb10.mono HB9.out.size))
  clear hb10 v1 v2
  go_wp2
  go_ret
  exact ⟨rfl, HB10.out⟩
end Go.Proofs.YtkbfefooaajhkaaDoor
