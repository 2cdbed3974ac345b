/- The walk of SstBuilds. -/
import Derived.Test.YtchdmjnhjonddaaSbU
import Derived.Test.YtchdmjnhjonddaaSbL
set_option maxRecDepth 100000
set_option linter.unusedVariables false
set_option linter.unusedSimpArgs false
namespace Go.Proofs.Ytchdmjnhjonddaa
open Go.RowKit

set_option maxHeartbeats 4000000 in
theorem sstBuilds_walk (a : Option Addr) (n c : Nat) (l : List Ent) (z : Int) (w : World) (h : Es w a n c l) (hu : ∀ e ∈ l, U64 e.seq) (hz : -9223372036854775808 ≤ z ∧ z ≤ 9223372036854775807) (hf : Ent.tot l + n ≤ 1000000000) :
    Calls Try.prog 4 #[.slice a n c, .int .i64 z] w fun e w' => e = .returned (.bool true) ∧ Below w.heap.size w w' := by
  have HL : Hid (∀ W, Below w.heap.size w W → Es W a n c l) := Lib.hid fun W k => h.below k
  have HN := Lib.hid h.1
  have HZ := Lib.hid hz
  have HF := Lib.hid hf
  have HU := Lib.hid hu
  clear h hf hz hu
  go_enter Try.func4, Try.ntmps4
  go_wp2_with fail
  refine (known_any _).mono ?_
  rintro e w1 ⟨rfl, hb1⟩
  have HB1 := Lib.hid hb1
  have HL1 := Lib.hid (HL.out _ hb1)
  clear hb1
  go_wp2_with fail
  refine (efew_any a n c l 400 _ HL1.out HF.out (by omega)).mono ?_
  rintro e w2 ⟨rfl, q, rfl⟩
  have HB2 := Lib.hid (below_drewN HB1.out q)
  have HL2 := Lib.hid (HL.out _ HB2.out)
  generalize w1.drewN q = w2 at *
  cases hfw : decide (n ≤ 400 ∧ Ent.tot l ≤ 131072) with
  | false =>
    clear hfw
    go_wp2
    go_ret
    exact ⟨rfl, HB2.out⟩
  | true =>
    have hfw' := of_decide_eq_true hfw
    have HO : Hid (Sst.Ok l) := Lib.hid ⟨HU.out, hfw'.2, by rw [HN.out]; exact hfw'.1⟩
    clear hfw hfw'
    go_wp2_with fail
    refine (sbuild_any a n c l z _ HL2.out HO.out HZ.out).mono ?_
    rintro e w3 ⟨a3, n3, c3, rfl, ho3, hb3⟩
    have HO3 := Lib.hid ho3.bs
    have HB3 := Lib.hid (HB2.out.trans (hb3.mono HB2.out.size))
    have HL3 := Lib.hid (HL.out _ HB3.out)
    clear ho3 hb3
    go_wp2_with fail
    refine (rbuild_any a n c l z _ HL3.out HO.out HZ.out).mono ?_
    rintro e w4 ⟨a4, n4, c4, rfl, ho4, hb4⟩
    have hc3 := conv_bytes (HO3.out.below hb4)
    have hc4 := conv_bytes ho4.bs
    have HB4 := Lib.hid (HB3.out.trans (hb4.mono HB3.out.size))
    clear ho4 hb4
    have hq : ((bstr (Sst.build l z).1).toList == (bstr (Sst.build l z).1).toList) = true := by simp
    generalize bstr (Sst.build l z).1 = bs at *
    generalize (Sst.build l z).2 = er at *
    go_wp2
    go_ret
    exact ⟨rfl, HB4.out⟩
end Go.Proofs.Ytchdmjnhjonddaa
