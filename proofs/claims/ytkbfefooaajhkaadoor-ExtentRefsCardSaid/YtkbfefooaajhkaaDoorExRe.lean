/- References are counted, plain; the walk of ExtentRefs. -/
import Derived.Test.YtkbfefooaajhkaaDoorExBk
import Derived.Test.YtkbfefooaajhkaaDoorExWr
import Derived.Test.YtkbfefooaajhkaaDoorInts
import Derived.Lib.SlBytesConst
set_option maxRecDepth 100000
set_option linter.unusedVariables false
set_option linter.unusedSimpArgs false
namespace Go.Proofs.YtkbfefooaajhkaaDoor
open Go.RowKit

def Ex.one : List UInt8 := [111, 110, 101]
def Ex.two : List UInt8 := [116, 119, 111]
/-- What holds while references are counted. -/
structure RInv (L : List Wr) (C n : Nat) : Prop where
  h1 : Holds L 1 Ex.one C n
  mrk : Kv.get L (Ex.mark 1) = if n = 0 then some [] else none
  ks : KeysOf L 1 (Ex.head Ex.one C).n
  rest : L.filter (fun e => !Ex.of 1 e.key) = Ex.make 2 Ex.two C
theorem u64_1 : U64 1 := ⟨by decide⟩
theorem u64_2 : U64 2 := ⟨by decide⟩
theorem make2_not {C : Nat} {x : Wr} (hx : x ∈ Ex.make 2 Ex.two C) : Ex.of 1 x.key = false := of_other u64_2 u64_1 (by decide) (make_keys 2 Ex.two C x hx).1
theorem rinv_init {C : Nat} (h1 : 1 ≤ C) (h2 : C ≤ 16777216) : RInv (Kv.does (Kv.does [] (Ex.make 1 Ex.one C)) (Ex.make 2 Ex.two C)) C 1 := by
  have e1 : Kv.does [] (Ex.make 1 Ex.one C) = Ex.make 1 Ex.one C := by
    rw [does_fresh _ [] (make_pair 1 Ex.one C h1 (by decide)) (fun x hx => (make_keys 1 Ex.one C x hx).2) (fun e he => by simp at he)]
    rfl
  have e2 : Kv.does (Ex.make 1 Ex.one C) (Ex.make 2 Ex.two C) = Ex.make 1 Ex.one C ++ Ex.make 2 Ex.two C :=
    does_fresh _ _ (make_pair 2 Ex.two C h1 (by decide)) (fun x hx => (make_keys 2 Ex.two C x hx).2) (fun e he x hx => other_key u64_1 u64_2 (by decide) (make_keys 1 Ex.one C e he).1 (make_keys 2 Ex.two C x hx).1)
  refine ⟨(two_hold Ex.one Ex.two C C h1 h2 h1 h2 (by decide) (by decide)).1.1, ?_, ?_, ?_⟩
  · rw [if_neg (by decide), get_notin _ _ _ (fun x hx => other_key u64_2 u64_1 (by decide) (make_keys 2 Ex.two C x hx).1 (of_mark 1)), get_notin]
    · rfl
    · intro x hx
      unfold Ex.make at hx
      rcases List.mem_cons.1 hx with rfl | hx
      · exact key_mark 1 1
      · obtain ⟨k, _, rfl⟩ := List.mem_map.1 hx
        exact (mark_ck 1 k 1).symm
  · exact keysof_does (keysof_does (keysof_nil _ _) (keysof_make 1 Ex.one C)) (keysof_other u64_1 u64_2 (by decide) (fun x hx => (make_keys 2 Ex.two C x hx).1))
  · rw [e1, e2, List.filter_append, filter_all (fun x hx => (make_keys 1 Ex.one C x hx).1), List.nil_append, List.filter_eq_self.2 (fun x hx => by rw [make2_not hx]; rfl)]
theorem rinv_step {L : List Wr} {C n n' : Nat} {z : Int} (h : RInv L C n) (hz : (n : Int) + z = n') (hn : n' ≤ 1073741824) : Ex.ref L 1 z = (Ex.refs (Hd.mk' Ex.one C n) 1 z, 0) ∧ RInv (Kv.does L (Ex.refs (Hd.mk' Ex.one C n) 1 z)) C n' := by
  obtain ⟨q1, _, q3⟩ := refs_holds h.h1 hz hn
  refine ⟨ref_is h.h1 (by omega) (by omega), q1, ?_, keysof_does h.ks (keysof_refs _ _ _ _), (filter_does (Ex.of 1) _ L (fun x hx => refs_of hx)).trans h.rest⟩
  rw [q3]
  by_cases h0 : n' = 0
  · rw [if_pos h0, if_pos h0]
  · rw [if_neg h0, if_neg h0]
    by_cases h1 : n = 0
    · rw [if_pos h1]
    · rw [if_neg h1, h.mrk, if_neg h1]
theorem rinv_free {L : List Wr} {C : Nat} (h : RInv L C 0) : Ex.free L 1 = (Ex.frees 1 (Ex.head Ex.one C).n, 0) ∧ Kv.does L (Ex.frees 1 (Ex.head Ex.one C).n) = Ex.make 2 Ex.two C :=
  ⟨free_is h.h1, (free_left h.ks).trans h.rest⟩
theorem rinv_two {C : Nat} (h1 : 1 ≤ C) (h2 : C ≤ 16777216) : Ex.rd (Ex.make 2 Ex.two C) 2 = (Ex.two, 0) := by
  obtain ⟨p1, p2⟩ := make_holds [] 2 Ex.two C h1 h2 (by decide)
  have e1 : Kv.does [] (Ex.make 2 Ex.two C) = Ex.make 2 Ex.two C := by
    rw [does_fresh _ [] (make_pair 2 Ex.two C h1 (by decide)) (fun x hx => (make_keys 2 Ex.two C x hx).2) (fun e he => by simp at he)]
    rfl
  rw [e1] at p1 p2
  exact whole_is p1 p2
theorem getv_mark {w : World} {L : List Wr} {key : List UInt8} {v : Value} {n : Nat} (h : GetV w L key v) (hg : Kv.get L key = if n = 0 then some [] else none) : ∃ a c, v = .tuple #[.slice a 0 c, .bool (decide (n = 0))] := by
  by_cases h0 : n = 0
  · rw [if_pos h0] at hg
    obtain ⟨a, c, rfl⟩ := getv_some h hg
    exact ⟨a, c, by rw [decide_eq_true h0]; rfl⟩
  · rw [if_neg h0] at hg
    exact ⟨none, 0, by rw [getv_none h hg, decide_eq_false h0]⟩
theorem tmod4 (z : Int) : -4 < Int.tmod z 4 ∧ Int.tmod z 4 < 4 := by
  rw [Int.tmod_eq_emod]
  have h1 := Int.emod_nonneg z (b := 4) (by omega)
  have h2 := Int.emod_lt_of_pos z (b := 4) (by omega)
  split <;> omega
set_option maxHeartbeats 8000000 in
theorem extentRefs_walk (ac : Option Addr) (nc cc : Nat) (bys : List Int) (z : Int) (w : World) (hcu : Is w ac nc cc bys) (bz : -9223372036854775808 ≤ z ∧ z ≤ 9223372036854775807) (hL : Laid w) :
    Calls Tryd.prog 8 #[.slice ac nc cc, .int .i64 z] w fun e w' => e = .returned (.bool true) ∧ Below w.heap.size w w' := by
  have HLD := Lib.hid hL
  have HC := Lib.hid hcu
  have hlec := hcu.le.1
  clear hL hcu
  go_enter Tryd.func8, Tryd.ntmps8
  go_wp2_with fail
  refine (known_any w HLD.out).mono ?_
  rintro e w1 ⟨rfl, hb1⟩
  have HB1 := Lib.hid hb1
  clear hb1
  by_cases q0 : nc ≤ 60
  case neg =>
    have t0 : decide ((60 : Int) < (nc : Int)) = true := decide_eq_true (by omega)
    go_wp2
    go_ret
    exact ⟨rfl, HB1.out⟩
  have t0 : decide ((60 : Int) < (nc : Int)) = false := decide_eq_false (by omega)
  by_cases q1 : 1 ≤ z
  case neg =>
    have t1 : decide (z < 1) = true := decide_eq_true (by omega)
    go_wp2
    go_ret
    exact ⟨rfl, HB1.out⟩
  have t1 : decide (z < 1) = false := decide_eq_false (by omega)
  by_cases q2 : z ≤ 16777216
  case neg =>
    have t2 : decide ((16777216 : Int) < z) = true := decide_eq_true (by omega)
    go_wp2
    go_ret
    exact ⟨rfl, HB1.out⟩
  have t2 : decide ((16777216 : Int) < z) = false := decide_eq_false (by omega)
  obtain ⟨C, rfl⟩ : ∃ m : Nat, z = (m : Int) := ⟨z.toNat, by omega⟩
  have HIN := Lib.hid (rinv_init (C := C) (by omega) (by omega))
  have HTW := Lib.hid (rinv_two (C := C) (by omega) (by omega))
  have HL1 := Lib.hid (make_len 1 Ex.one C (by omega))
  have HL2 := Lib.hid (make_len 2 Ex.two C (by omega))
  have HDL := Lib.hid (does_len [] (Ex.make 1 Ex.one C))
  have HDM := Lib.hid (does_len (Kv.does [] (Ex.make 1 Ex.one C)) (Ex.make 2 Ex.two C))
  have HNF : Hid ((Ex.head Ex.one C).n ≤ 3) := Lib.hid (n_le Ex.one.length C (by omega))
  have HB2 : Hid (Below w.heap.size w (w1.alloc (.cells #[.slice none 0 0] 27))) := Lib.hid (HB1.out.alloc HB1.out.size _)
  have HK2 := Lib.hid (keys_new w1)
  have HG : Hid (w.heap.size ≤ w1.heap.size) := Lib.hid HB1.out.size
  have kc := fun (w : World) (C : Array Value) (n c : Nat) => Lib.run_convert_bytes_const (P := Tryd.prog) w 22 5 C n c Tryd.underlying22 Tryd.underlying5
  obtain ⟨w2, hw2⟩ : ∃ w2, w1.alloc (.cells #[.slice none 0 0] 27) = w2 := ⟨_, rfl⟩
  rw [hw2] at HB2 HK2
  have HW2 := Lib.hid hw2
  clear hw2
  go_upto_region 6 with fail
  rw [HW2.out]
  go_wp2_with fail
  refine (make_any 1 _ _ _ Ex.one C _ u64_1 (Bs.litAt [111, 110, 101] (3, 4) rfl (by simp [maxLen])) (by omega) (by omega) (by decide) (HLD.out.below (HB2.out.trans (below_alloc1 _ _ |>.mono HB2.out.size)))).mono ?_
  rintro e w3 ⟨a3, n3, c3, rfl, hm3, hb3⟩
  have hb23 := (below_alloc1 w2 _).trans (hb3.mono (le_alloc (Nat.le_refl _)))
  have HM3 := Lib.hid hm3
  have HB3 := Lib.hid (HB2.out.trans (hb23.mono HB2.out.size))
  have HK3 := Lib.hid (HK2.out.below hb23)
  have hn3 : n3 ≤ 4 := by have h1 := hm3.len; have h2 := HL1.out; have h3 : Ex.one.length = 3 := rfl; omega
  clear hm3 hb3 hb23
  go_wp2_with fail
  refine (make_any 2 _ _ _ Ex.two C _ u64_2 (Bs.litAt [116, 119, 111] (3, 4) rfl (by simp [maxLen])) (by omega) (by omega) (by decide) (HLD.out.below (HB3.out.trans (below_alloc1 _ _ |>.mono HB3.out.size)))).mono ?_
  rintro e w4 ⟨a4, n4, c4, rfl, hm4, hb4⟩
  have hb34 := (below_alloc1 w3 _).trans (hb4.mono (le_alloc (Nat.le_refl _)))
  have HM4 := Lib.hid hm4
  have HM3 := Lib.hid (HM3.out.below hb34)
  have HB4 := Lib.hid (HB3.out.trans (hb34.mono HB3.out.size))
  have HK4 := Lib.hid (HK3.out.below hb34)
  have hn4 : n4 ≤ 4 := by have h1 := hm4.len; have h2 := HL2.out; have h3 : Ex.two.length = 3 := rfl; omega
  have HN4 : Hid ((Ex.make 2 Ex.two C).length = n4) := Lib.hid hm4.len
  clear hm4 hb4 hb34
  go_wp2_with fail
  refine (do_any w1.heap.size a3 n3 c3 [] _ _ HK4.out HM3.out.acc.ws (by simp; omega)).mono ?_
  rintro e w5 ⟨rfl, hk5, ho5⟩
  have HB5 := Lib.hid (HB4.out.trans (ho5.below HB4.out.size (fun x hx => by cases hx; exact HG.out)))
  have HW5 : Hid (Ws w5 a4 n4 c4 (Ex.make 2 Ex.two C)) := Lib.hid (by obtain ⟨_, _, _, hbx, _⟩ := HK4.out; exact HM4.out.acc.ws.oth ho5 hbx)
  have HK5 := Lib.hid hk5
  have HLN5 : Hid ((Kv.does [] (Ex.make 1 Ex.one C)).length ≤ 4) := Lib.hid (by have h1 := HDL.out; have h2 := HL1.out; have h3 : Ex.one.length = 3 := rfl; simp at h1; omega)
  clear hk5 ho5
  go_wp2_with fail
  refine (do_any w1.heap.size a4 n4 c4 _ _ _ HK5.out HW5.out (by have := HLN5.out; omega)).mono ?_
  rintro e w6 ⟨rfl, hk6, ho6⟩
  have HB6 := Lib.hid (HB5.out.trans (ho6.below HB5.out.size (fun x hx => by cases hx; exact HG.out)))
  have HK6 := Lib.hid hk6
  have HLN6 : Hid ((Kv.does (Kv.does [] (Ex.make 1 Ex.one C)) (Ex.make 2 Ex.two C)).length ≤ 8) := Lib.hid (by have h1 := HDM.out; have h2 := HL2.out; have h3 : Ex.two.length = 3 := rfl; have h4 := HLN5.out; omega)
  clear hk6 ho6 HDL HDM HL1 HL2 HM3 HM4 HW5 HK5 HLN5 HK3 HK4 HK2
  generalize Kv.does (Kv.does [] (Ex.make 1 Ex.one C)) (Ex.make 2 Ex.two C) = K at *
  go_wp2_with fail
  go_loopw [10, 11] (fun nv iv wr => ∃ (i m : Nat) (L : List Wr), i ≤ nc ∧ m ≤ 1 + 3 * i ∧ nv = .int .i64 m ∧ iv = .int .i64 i ∧ Hid (RInv L C m) ∧ Hid (L.length ≤ 8 + 2 * i) ∧ Hid (KeysAt wr w1.heap.size L) ∧ Hid (Below w.heap.size w wr)) (fun _ iv _ => nc - (intOf iv).toNat)
  case atStart => exact ⟨0, 1, K, by omega, by omega, rfl, rfl, HIN, HLN6, HK6, HB6⟩
  case round =>
    obtain ⟨i, m, L, hi, hm, rfl, rfl, HI, HLL, HK, HB⟩ := hrel
    clear HIN HLN6 HK6
    by_cases hin : i < nc
    case neg =>
      obtain rfl : nc = i := by omega
      have HS := Lib.hid (rinv_step (n' := 0) (z := 0 - (m : Int)) HI.out (by omega) (by omega))
      have HX := Lib.hid (refs_len (Hd.mk' Ex.one C m) 1 (0 - (m : Int)))
      have HLD1 := Lib.hid (does_len L (Ex.refs (Hd.mk' Ex.one C m) 1 (0 - (m : Int))))
      have HR := Lib.hid (ref_any w1.heap.size 1 L (0 - (m : Int)) wr u64_1 HK.out (HLD.out.below HB.out) (by omega))
      unfold src at HR
      rw [HS.out.1] at HR
      dsimp only at HR
      have HS := Lib.hid HS.out.2
      generalize Ex.refs (Hd.mk' Ex.one C m) 1 (0 - (m : Int)) = rs at *
      obtain ⟨zz, hzz⟩ : ∃ zz : Int, zz = 0 - (m : Int) := ⟨_, rfl⟩
      have hz2 : -(m : Int) = zz := by omega
      have hzb : -200 ≤ zz ∧ zz ≤ 0 := by omega
      rw [← hzz] at HR
      have hz1 : (0 : Int) - (m : Int) = zz := hzz.symm
      clear hzz
      go_wp2_with fail
      refine HR.out.mono ?_
      rintro e w11 ⟨a11, n11, c11, rfl, hm11, hb11⟩
      have HM11 := Lib.hid hm11
      have HB11 := Lib.hid (HB.out.trans (hb11.mono HB.out.size))
      have HK11 := Lib.hid (HK.out.below hb11)
      have hn11 : n11 ≤ 2 := by have h1 := hm11.len; have h2 := HX.out; omega
      clear hm11 hb11 HR hz1 hz2 hzb
      go_wp2_with fail
      refine (do_any w1.heap.size a11 n11 c11 L _ _ HK11.out HM11.out.acc.ws (by have := HLL.out; omega)).mono ?_
      rintro e w12 ⟨rfl, hk12, ho12⟩
      have HB12 := Lib.hid (HB11.out.trans (ho12.below HB11.out.size (fun x hx => by cases hx; exact HG.out)))
      have HK12 := Lib.hid hk12
      have HLX : Hid ((Kv.does L rs).length ≤ 200) := Lib.hid (by have h1 := HLD1.out; have h2 := HLL.out; have h3 := HX.out; omega)
      clear hk12 ho12 HM11 HX
      generalize Kv.does L rs = L2 at *
      have HF := Lib.hid (rinv_free HS.out)
      have HFL := Lib.hid (frees_len 1 (Ex.head Ex.one C).n)
      have HR := Lib.hid (free_any w1.heap.size 1 L2 w12 u64_1 HK12.out (HLD.out.below HB12.out))
      unfold src at HR
      rw [HF.out.1] at HR
      dsimp only at HR
      go_wp2_with fail
      refine HR.out.mono ?_
      rintro e w13 ⟨a13, n13, c13, rfl, hm13, hb13⟩
      have HM13 := Lib.hid hm13
      have HB13 := Lib.hid (HB12.out.trans (hb13.mono HB12.out.size))
      have HK13 := Lib.hid (HK12.out.below hb13)
      have hn13 : n13 ≤ 5 := by have h1 := hm13.len; have h2 := HFL.out; have h3 := HNF.out; omega
      clear hm13 hb13 HR
      go_wp2_with fail
      refine (do_any w1.heap.size a13 n13 c13 L2 _ _ HK13.out HM13.out.acc.ws (by have := HLX.out; omega)).mono ?_
      rintro e w14 ⟨rfl, hk14, ho14⟩
      rw [HF.out.2] at hk14
      have HB14 := Lib.hid (HB13.out.trans (ho14.below HB13.out.size (fun x hx => by cases hx; exact HG.out)))
      have HK14 := Lib.hid hk14
      clear hk14 ho14
      have HR := Lib.hid (read_any w1.heap.size 2 _ w14 u64_2 HK14.out (HLD.out.below HB14.out))
      unfold src at HR
      rw [HTW.out] at HR
      try dsimp only at HR
      go_wp2_with fail
      refine HR.out.mono ?_
      rintro e w15 ⟨a15, n15, c15, rfl, ho15, hb15⟩
      dsimp only at ho15
      have HB15 := Lib.hid (HB14.out.trans (hb15.mono HB14.out.size))
      obtain ⟨al, nl, cl, hbx, hws⟩ := HK14.out.below hb15
      obtain rfl : nl = n4 := by rw [← hws.1]; exact HN4.out
      have k0 := hbx.cell
      have hcv := conv_bytes ho15.bs
      have e1 : ((bstr Ex.two).toList == [116, 119, 111]) = true := by rw [bstr_toList]; rfl
      have e2 : decide (Ex.two = [116, 119, 111]) = true := by decide
      clear hws hbx ho15 hb15
      go_wp2
      go_ret
      exact ⟨rfl, HB15.out⟩
    obtain ⟨bo, oo, rfl, hci⟩ := (HC.out.below HB.out).get hin
    have tin : decide (i < nc) = true := decide_eq_true hin
    obtain ⟨y, hy⟩ : ∃ y, Int.tmod (nth bys i) 4 = y := ⟨_, rfl⟩
    have hyb := tmod4 (nth bys i)
    rw [hy] at hyb
    generalize nth bys i = zi at *
    have HRC := Lib.hid (ref_any w1.heap.size 1 L y wr u64_1 HK.out (HLD.out.below HB.out) (by omega))
    unfold src at HRC
    by_cases hny : 0 ≤ (m : Int) + y
    · obtain ⟨m', hm'⟩ : ∃ m' : Nat, (m : Int) + y = (m' : Int) := ⟨((m : Int) + y).toNat, by omega⟩
      have hmb : m' ≤ 4 + 3 * i := by omega
      have ty : decide ((0 : Int) ≤ (m' : Int)) = true := decide_eq_true (by omega)
      have HS := Lib.hid (rinv_step (n' := m') (z := y) HI.out hm' (by omega))
      have HX := Lib.hid (refs_len (Hd.mk' Ex.one C m) 1 y)
      have HLD1 := Lib.hid (does_len L (Ex.refs (Hd.mk' Ex.one C m) 1 y))
      rw [HS.out.1] at HRC
      dsimp only at HRC
      have HS := Lib.hid HS.out.2
      generalize Ex.refs (Hd.mk' Ex.one C m) 1 y = rs at *
      clear hny
      go_wp2_with fail
      refine HRC.out.mono ?_
      rintro e w11 ⟨a11, n11, c11, rfl, hm11, hb11⟩
      have HM11 := Lib.hid hm11
      have HB11 := Lib.hid (HB.out.trans (hb11.mono HB.out.size))
      have HK11 := Lib.hid (HK.out.below hb11)
      have hn11 : n11 ≤ 2 := by have h1 := hm11.len; have h2 := HX.out; omega
      clear hm11 hb11 HRC hy
      go_wp2_with fail
      refine (do_any w1.heap.size a11 n11 c11 L _ _ HK11.out HM11.out.acc.ws (by have := HLL.out; omega)).mono ?_
      rintro e w12 ⟨rfl, hk12, ho12⟩
      have HB12 := Lib.hid (HB11.out.trans (ho12.below HB11.out.size (fun x hx => by cases hx; exact HG.out)))
      have HK12 := Lib.hid hk12
      have HLX : Hid ((Kv.does L rs).length ≤ 8 + 2 * (i + 1)) := Lib.hid (by have h1 := HLD1.out; have h2 := HLL.out; have h3 := HX.out; omega)
      clear hk12 ho12 HM11 HX HLD1 HI HLL HK HB HB11 HK11
      generalize Kv.does L rs = L2 at *
      clear hci
      have HLK := Lib.hid (look_any w1.heap.size 1 L2 w12 u64_1 HK12.out (HLD.out.below HB12.out))
      unfold src at HLK
      rw [HS.out.h1.look] at HLK
      unfold LookV hval at HLK
      have HHR : Hid ((Hd.mk' Ex.one C m').refs = m') := Lib.hid rfl
      go_wp2_with fail
      refine HLK.out.mono ?_
      rintro e w13 ⟨rfl, hb13⟩
      obtain ⟨w14, hw14⟩ : ∃ w14, w13.alloc (.cells #[.int .i64 (Hd.mk' Ex.one C m').size, .int .i64 (Hd.mk' Ex.one C m').chunk, .int .i64 (Hd.mk' Ex.one C m').refs, .int .u32 (n32 (Hd.mk' Ex.one C m').sum)] 52) = w14 := ⟨_, rfl⟩
      have hr14 := heap_alloc_new w13 (.cells #[.int .i64 (Hd.mk' Ex.one C m').size, .int .i64 (Hd.mk' Ex.one C m').chunk, .int .i64 (Hd.mk' Ex.one C m').refs, .int .u32 (n32 (Hd.mk' Ex.one C m').sum)] 52)
      rw [hw14] at hr14
      have hb14 : Below w12.heap.size w12 w14 := by rw [← hw14]; exact hb13.alloc hb13.size _
      have HB14 := Lib.hid (HB12.out.trans (hb14.mono HB12.out.size))
      have HK14 := Lib.hid (HK12.out.below hb14)
      have HR14 := Lib.hid hr14
      have HW14 := Lib.hid hw14
      clear hw14 hr14 hb13 hb14 HLK
      go_upto_region 22 with fail
      rw [HW14.out]
      go_wp2_with fail
      refine (mark_any 1 u64_1 w14 (HLD.out.below HB14.out)).mono ?_
      rintro e w15 ⟨rfl, hb15⟩
      have HB15 := Lib.hid (HB14.out.trans (hb15.mono HB14.out.size))
      have HK15 := Lib.hid (HK14.out.below hb15)
      have HR15 := Lib.hid ((hb15.block _ (Array.getElem?_eq_some_iff.1 HR14.out).1).trans HR14.out)
      clear hb15
      obtain ⟨v, hv, hg⟩ := get_any w1.heap.size L2 (Ex.mark 1) w15 HK15.out
      obtain ⟨am, cm, rfl⟩ := getv_mark hv HS.out.mrk
      have HGT := Lib.hid (hg w15 (Below.refl _ _))
      clear hv hg
      go_wp2_with fail
      refine HGT.out.mono ?_
      rintro e w16 ⟨rfl, rfl⟩
      have HFR := Lib.hid (free_any w1.heap.size 1 L2 w15 u64_1 HK15.out (HLD.out.below HB15.out))
      unfold src at HFR
      by_cases hz0 : m' = 0
      · subst hz0
        rw [(rinv_free HS.out).1] at HFR
        dsimp only at HFR
        have hd0 : decide ((0 : Nat) = 0) = true := rfl
        rw [hd0]
        go_wp2_with fail
        refine HFR.out.mono ?_
        rintro e w17 ⟨a17, n17, c17, rfl, hm17, hb17⟩
        have HB17 := Lib.hid (HB15.out.trans (hb17.mono HB15.out.size))
        have HK17 := Lib.hid (HK15.out.below hb17)
        have hr17 := (hb17.block _ (Array.getElem?_eq_some_iff.1 HR15.out).1).trans HR15.out
        rw [HHR.out] at hr17
        obtain ⟨k0, k1, k2, k3, kf⟩ := cells4 hr17
        clear hm17 hb17 hr17
        go_wp2
        go_roundw
        case rel => exact ⟨i + 1, 0, L2, by omega, by omega, rfl, by go_num, HS, HLX, HK17, HB17⟩
        case measure => simp [intOf]; omega
      · rw [free_not HS.out.h1 hz0] at HFR
        dsimp only at HFR
        have hd0 : decide (m' = 0) = false := decide_eq_false hz0
        rw [hd0]
        have hd1 : ((m' : Int) == 0) = false := by simp; omega
        have hd2 : ((m' : Int) != (m' : Int)) = false := by simp
        go_wp2_with fail
        refine HFR.out.mono ?_
        rintro e w17 ⟨a17, n17, c17, rfl, hm17, hb17⟩
        have HB17 := Lib.hid (HB15.out.trans (hb17.mono HB15.out.size))
        have HK17 := Lib.hid (HK15.out.below hb17)
        have hr17 := (hb17.block _ (Array.getElem?_eq_some_iff.1 HR15.out).1).trans HR15.out
        rw [HHR.out] at hr17
        obtain ⟨k0, k1, k2, k3, kf⟩ := cells4 hr17
        clear hm17 hb17 hr17
        go_wp2
        go_roundw
        case rel => exact ⟨i + 1, m', L2, by omega, by omega, rfl, by go_num, HS, HLX, HK17, HB17⟩
        case measure => simp [intOf]; omega
    · have ty : decide ((0 : Int) ≤ (m : Int) + y) = false := decide_eq_false hny
      have hRN := ref_not HI.out.h1 (z := y) (by omega)
      rw [hRN] at HRC
      dsimp only at HRC
      clear hRN
      go_wp2_with fail
      refine HRC.out.mono ?_
      rintro e w12 ⟨a11, n11, c11, rfl, hm11, hb11⟩
      have HB12 := Lib.hid (HB.out.trans (hb11.mono HB.out.size))
      have HK12 := Lib.hid (HK.out.below hb11)
      have HLX : Hid (L.length ≤ 8 + 2 * (i + 1)) := Lib.hid (by have := HLL.out; omega)
      have HS := HI
      obtain ⟨m', hm'⟩ : ∃ m' : Nat, m = m' := ⟨_, rfl⟩
      obtain ⟨L2, hL2⟩ : ∃ L2 : List Wr, L = L2 := ⟨_, rfl⟩
      subst hm' hL2
      have hmb : m ≤ 4 + 3 * i := by omega
      clear hm11 hb11 HRC hy HI HLL HK HB hci
      have HLK := Lib.hid (look_any w1.heap.size 1 L w12 u64_1 HK12.out (HLD.out.below HB12.out))
      unfold src at HLK
      rw [HS.out.h1.look] at HLK
      unfold LookV hval at HLK
      have HHR : Hid ((Hd.mk' Ex.one C m).refs = m) := Lib.hid rfl
      go_wp2_with fail
      refine HLK.out.mono ?_
      rintro e w13 ⟨rfl, hb13⟩
      obtain ⟨w14, hw14⟩ : ∃ w14, w13.alloc (.cells #[.int .i64 (Hd.mk' Ex.one C m).size, .int .i64 (Hd.mk' Ex.one C m).chunk, .int .i64 (Hd.mk' Ex.one C m).refs, .int .u32 (n32 (Hd.mk' Ex.one C m).sum)] 52) = w14 := ⟨_, rfl⟩
      have hr14 := heap_alloc_new w13 (.cells #[.int .i64 (Hd.mk' Ex.one C m).size, .int .i64 (Hd.mk' Ex.one C m).chunk, .int .i64 (Hd.mk' Ex.one C m).refs, .int .u32 (n32 (Hd.mk' Ex.one C m).sum)] 52)
      rw [hw14] at hr14
      have hb14 : Below w12.heap.size w12 w14 := by rw [← hw14]; exact hb13.alloc hb13.size _
      have HB14 := Lib.hid (HB12.out.trans (hb14.mono HB12.out.size))
      have HK14 := Lib.hid (HK12.out.below hb14)
      have HR14 := Lib.hid hr14
      have HW14 := Lib.hid hw14
      clear hw14 hr14 hb13 hb14 HLK
      go_upto_region 22 with fail
      rw [HW14.out]
      go_wp2_with fail
      refine (mark_any 1 u64_1 w14 (HLD.out.below HB14.out)).mono ?_
      rintro e w15 ⟨rfl, hb15⟩
      have HB15 := Lib.hid (HB14.out.trans (hb15.mono HB14.out.size))
      have HK15 := Lib.hid (HK14.out.below hb15)
      have HR15 := Lib.hid ((hb15.block _ (Array.getElem?_eq_some_iff.1 HR14.out).1).trans HR14.out)
      clear hb15
      obtain ⟨v, hv, hg⟩ := get_any w1.heap.size L (Ex.mark 1) w15 HK15.out
      obtain ⟨am, cm, rfl⟩ := getv_mark hv HS.out.mrk
      have HGT := Lib.hid (hg w15 (Below.refl _ _))
      clear hv hg
      go_wp2_with fail
      refine HGT.out.mono ?_
      rintro e w16 ⟨rfl, rfl⟩
      have HFR := Lib.hid (free_any w1.heap.size 1 L w15 u64_1 HK15.out (HLD.out.below HB15.out))
      unfold src at HFR
      by_cases hz0 : m = 0
      · subst hz0
        rw [(rinv_free HS.out).1] at HFR
        dsimp only at HFR
        have hd0 : decide ((0 : Nat) = 0) = true := rfl
        rw [hd0]
        go_wp2_with fail
        refine HFR.out.mono ?_
        rintro e w17 ⟨a17, n17, c17, rfl, hm17, hb17⟩
        have HB17 := Lib.hid (HB15.out.trans (hb17.mono HB15.out.size))
        have HK17 := Lib.hid (HK15.out.below hb17)
        have hr17 := (hb17.block _ (Array.getElem?_eq_some_iff.1 HR15.out).1).trans HR15.out
        rw [HHR.out] at hr17
        obtain ⟨k0, k1, k2, k3, kf⟩ := cells4 hr17
        clear hm17 hb17 hr17
        go_wp2
        go_roundw
        case rel => exact ⟨i + 1, 0, L, by omega, by omega, rfl, by go_num, HS, HLX, HK17, HB17⟩
        case measure => simp [intOf]; omega
      · rw [free_not HS.out.h1 hz0] at HFR
        dsimp only at HFR
        have hd0 : decide (m = 0) = false := decide_eq_false hz0
        rw [hd0]
        have hd1 : ((m : Int) == 0) = false := by simp; omega
        have hd2 : ((m : Int) != (m : Int)) = false := by simp
        go_wp2_with fail
        refine HFR.out.mono ?_
        rintro e w17 ⟨a17, n17, c17, rfl, hm17, hb17⟩
        have HB17 := Lib.hid (HB15.out.trans (hb17.mono HB15.out.size))
        have HK17 := Lib.hid (HK15.out.below hb17)
        have hr17 := (hb17.block _ (Array.getElem?_eq_some_iff.1 HR15.out).1).trans HR15.out
        rw [HHR.out] at hr17
        obtain ⟨k0, k1, k2, k3, kf⟩ := cells4 hr17
        clear hm17 hb17 hr17
        go_wp2
        go_roundw
        case rel => exact ⟨i + 1, m, L, by omega, by omega, rfl, by go_num, HS, HLX, HK17, HB17⟩
        case measure => simp [intOf]; omega
end Go.Proofs.YtkbfefooaajhkaaDoor
