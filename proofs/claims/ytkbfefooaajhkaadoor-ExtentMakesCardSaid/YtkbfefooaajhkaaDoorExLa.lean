/- The walk of ExtentMakes. -/
import Derived.Test.YtkbfefooaajhkaaDoorExWr
set_option maxRecDepth 100000
set_option linter.unusedVariables false
set_option linter.unusedSimpArgs false
namespace Go.Proofs.YtkbfefooaajhkaaDoor
open Go.RowKit

set_option maxHeartbeats 4000000 in
theorem extentMakes_walk (id : Nat) (a : Option Addr) (n c : Nat) (data : List UInt8) (z m : Int) (w : World) (hu : U64 id) (h : Bs w a n c data) (bz : -9223372036854775808 ≤ z ∧ z ≤ 9223372036854775807) (bm : -9223372036854775808 ≤ m ∧ m ≤ 9223372036854775807) (hL : Laid w) :
    Calls Tryd.prog 5 #[.int .u64 id, .slice a n c, .int .i64 z, .int .i64 m] w fun e w' => e = .returned (.bool true) ∧ Below w.heap.size w w' := by
  have HLD := Lib.hid hL
  have HE := Lib.hid h
  have hle := h.le.1
  clear h hL
  go_enter Tryd.func5, Tryd.ntmps5
  go_wp2_with fail
  refine (known_any w HLD.out).mono ?_
  rintro e w1 ⟨rfl, hb1⟩
  have HB1 := Lib.hid hb1
  clear hb1
  by_cases hn : n ≤ 16384
  case neg =>
    have t1 : decide ((16384 : Int) < (n : Int)) = true := decide_eq_true (by omega)
    go_wp2
    go_ret
    exact ⟨rfl, HB1.out⟩
  have t1 : decide ((16384 : Int) < (n : Int)) = false := decide_eq_false (by omega)
  have HMK := Lib.hid (fun W (hb : Below w.heap.size w W) => mk_any id a n c data z W hu (HE.out.below hb) (by omega) (HLD.out.below hb))
  have HRM := Lib.hid (fun W (hb : Below w.heap.size w W) => rmk_any id a n c data z W hu (HE.out.below hb) (by omega))
  generalize Ex.mk id data z = R at *
  obtain ⟨ws, er⟩ := R
  dsimp only at *
  go_wp2_with fail
  refine (HMK.out w1 HB1.out).mono ?_
  rintro e w2 ⟨a2, n2, c2, rfl, hm2, hb2⟩
  have HM2 := Lib.hid hm2
  have HB2 := Lib.hid (HB1.out.trans (hb2.mono HB1.out.size))
  clear hm2 hb2
  go_wp2_with fail
  refine (HRM.out w2 HB2.out).mono ?_
  rintro e w3 ⟨a3, n3, c3, rfl, hm3, hb3⟩
  have HM3 := Lib.hid hm3
  have HM2 := Lib.hid (HM2.out.below hb3)
  have HB3 := Lib.hid (HB2.out.trans (hb3.mono HB2.out.size))
  clear hm3 hb3
  go_wp2_with fail
  refine (writes_any a2 a3 n2 c2 n3 c3 ws ws w3 HM2.out.acc.ws HM3.out.acc.ws).mono ?_
  rw [decide_eq_true (rfl : ws = ws)]
  rintro e w4 ⟨rfl, hb4⟩
  have HB4 := Lib.hid (HB3.out.trans (hb4.mono HB3.out.size))
  clear hb4
  have t2 : ((er : Int) == (er : Int)) = true := by simp
  go_wp2_with fail
  refine (key_any id hu w4 (HLD.out.below HB4.out)).mono ?_
  rintro e w5 ⟨rfl, hb5⟩
  have HB5 := Lib.hid (HB4.out.trans (hb5.mono HB4.out.size))
  clear hb5
  go_wp2_with fail
  refine (rkey_any id hu w5).mono ?_
  rintro e w6 ⟨rfl, hb6⟩
  have HB6 := Lib.hid (HB5.out.trans (hb6.mono HB5.out.size))
  clear hb6
  go_wp2_with fail
  refine (ck_any id m hu w6 (HLD.out.below HB6.out)).mono ?_
  rintro e w7 ⟨rfl, hb7⟩
  have HB7 := Lib.hid (HB6.out.trans (hb7.mono HB6.out.size))
  clear hb7
  go_wp2_with fail
  refine (rck_any id m hu bm w7).mono ?_
  rintro e w8 ⟨rfl, hb8⟩
  have HB8 := Lib.hid (HB7.out.trans (hb8.mono HB7.out.size))
  clear hb8
  go_wp2_with fail
  refine (mark_any id hu w8 (HLD.out.below HB8.out)).mono ?_
  rintro e w9 ⟨rfl, hb9⟩
  have HB9 := Lib.hid (HB8.out.trans (hb9.mono HB8.out.size))
  clear hb9
  go_wp2_with fail
  refine (rmark_any id hu w9).mono ?_
  rintro e w10 ⟨rfl, hb10⟩
  have HB10 := Lib.hid (HB9.out.trans (hb10.mono HB9.out.size))
  clear hb10
  go_wp2
  go_ret
  exact ⟨rfl, HB10.out⟩
end Go.Proofs.YtkbfefooaajhkaaDoor
