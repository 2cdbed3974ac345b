/- The walk of MergePrunes. -/
import Derived.Test.YtmmlgcfhcdpolaaMgQ
import Derived.Test.YtmmlgcfhcdpolaaMgR
namespace Go.Proofs.Ytmmlgcfhcdpolaa
open Go.RowKit
set_option linter.unusedVariables false

set_option maxHeartbeats 4000000 in
theorem mergePrunes_walk (a : Option Addr) (n c : Nat) (l : List Ent) (keep more : Nat) (bottom : Bool) (w : World) (hk : U64 keep) (hm : U64 more) (h : Es w a n c l) (hf : Ent.tot l + n ≤ 1000000000) :
    Calls Try.prog 5 #[.slice a n c, .int .u64 keep, .int .u64 more, .bool bottom] w fun e w' => e = .returned (.bool true) ∧ Below w.heap.size w w' := by
  have hle := h.le.1
  have HE := Lib.hid h
  have HF := Lib.hid hf
  have HU := Lib.hid (And.intro hk hm)
  clear h hf hk hm
  go_enter Try.func5, Try.ntmps5
  go_wp2_with fail
  refine (known_any _).mono ?_
  rintro e w1 ⟨rfl, hb1⟩
  have HB1 := Lib.hid hb1
  clear hb1
  go_wp2_with fail
  refine (efew_any a n c l 1000 _ (HE.out.below HB1.out) HF.out (by omega)).mono ?_
  rintro e w2 ⟨rfl, q, rfl⟩
  have HB2 := Lib.hid (below_drewN HB1.out q)
  cases hfw : decide (n ≤ 1000 ∧ Ent.tot l ≤ 131072) with
  | false =>
    clear hfw
    go_wp2
    go_ret
    exact ⟨rfl, HB2.out⟩
  | true =>
    have HFW := Lib.hid (few_yes hfw)
    clear hfw
    go_wp2_with fail
    cases hR : Ent.rightB l with
    | false =>
      have hp := prune_any a n c l keep bottom (w1.drewN q) (HE.out.below HB2.out) (by have := HFW.out.1; omega) HFW.out.2
      rw [hR] at hp
      simp only [Bool.false_eq_true, if_false] at hp
      refine hp.mono ?_
      rintro e w3 ⟨a3, n3, c3, rfl, ha3, hb3⟩
      have hn3 : n3 = 0 := by have := ha3.len; simpa using this.symm
      subst hn3
      have HB3 := Lib.hid (HB2.out.trans (hb3.mono HB2.out.size))
      have hm := mright_any a n c l w3 (HE.out.below HB3.out)
      rw [hR] at hm
      have HM := Lib.hid hm
      clear ha3 hb3 hp hR hm
      go_wp2_with fail
      refine HM.out.mono ?_
      rintro e w4 ⟨rfl, hb4⟩
      have HB4 := Lib.hid (HB3.out.trans (hb4.mono HB3.out.size))
      clear hb4
      go_wp2
      go_ret
      exact ⟨rfl, HB4.out⟩
    | true =>
      have hp := prune_any a n c l keep bottom (w1.drewN q) (HE.out.below HB2.out) (by have := HFW.out.1; omega) HFW.out.2
      rw [hR] at hp
      simp only [if_true] at hp
      refine hp.mono ?_
      rintro e w3 ⟨a3, n3, c3, rfl, ha3, hb3⟩
      have HB3 := Lib.hid (HB2.out.trans (hb3.mono HB2.out.size))
      have hRp : Ent.rightB (Ent.prune l keep bottom) = true := Ent.rightB_iff.2 (Ent.prune_right (Ent.rightB_iff.1 hR) keep bottom)
      have hpn : n3 ≤ 30000 := by
        have h1 := ha3.len
        have h2 : (Ent.prune l keep bottom).length ≤ l.length := List.length_filter_le _ _
        have h3 := HFW.out.1
        have h4 := HE.out.1
        omega
      have HPV := Lib.hid (show ∀ e ∈ Ent.prune l keep bottom, e.val.length ≤ 1000000000 from fun e he => HFW.out.2 e (List.mem_filter.1 he).1)
      have HA3 := Lib.hid ha3.es
      have HR := Lib.hid hR
      have HRP := Lib.hid hRp
      clear ha3 hb3 hp hR hRp
      go_wp2_with fail
      have hp := prune_any a3 n3 c3 _ keep bottom w3 HA3.out hpn HPV.out
      rw [HRP.out, Ent.prune_idem] at hp
      simp only [if_true] at hp
      refine hp.mono ?_
      rintro e w4 ⟨a4, n4, c4, rfl, ha4, hb4⟩
      have HA4 := Lib.hid ha4.es
      have HA34 := Lib.hid (HA3.out.below hb4)
      have HB4 := Lib.hid (HB3.out.trans (hb4.mono HB3.out.size))
      clear ha4 hb4 hp
      go_wp2_with fail
      refine (srows_same _ _ _ _ _ _ _ _ HA34.out HA4.out).mono ?_
      rintro e w5 ⟨rfl, hb5⟩
      have HB5 := Lib.hid (HB4.out.trans (hb5.mono HB4.out.size))
      have HA5 := Lib.hid (HA34.out.below hb5)
      clear hb5
      obtain ⟨s, hs⟩ : ∃ s : Nat, IntKind.u64.wrap ((keep : Int) + (more : Int)) = (s : Int) := ⟨(IntKind.u64.wrap ((keep : Int) + (more : Int))).toNat, by rw [IntKind.wrap_u64]; omega⟩
      by_cases hlt : s < keep
      · have t1 : decide (s < keep) = true := decide_eq_true hlt
        have HKU := Lib.hid (Nat.le_refl keep)
        clear hlt
        go_wp2_with fail
        have hs1 := seen_any a n c l keep w5 (HE.out.below HB5.out) (by have := HFW.out.1; omega) HFW.out.2
        rw [HR.out] at hs1
        simp only [if_true] at hs1
        refine hs1.mono ?_
        rintro e w6 ⟨a6, n6, c6, rfl, ha6, hb6⟩
        have HA6 := Lib.hid ha6.es
        have HAp := Lib.hid (HA5.out.below hb6)
        have HB6 := Lib.hid (HB5.out.trans (hb6.mono HB5.out.size))
        clear ha6 hb6 hs1
        go_wp2_with fail
        have hs2 := seen_any a3 n3 c3 _ keep w6 HAp.out hpn HPV.out
        rw [HRP.out, Ent.prune_seen l bottom HKU.out] at hs2
        simp only [if_true] at hs2
        refine hs2.mono ?_
        rintro e w7 ⟨a7, n7, c7, rfl, ha7, hb7⟩
        have HA7 := Lib.hid ha7.es
        have HA67 := Lib.hid (HA6.out.below hb7)
        have HB7 := Lib.hid (HB6.out.trans (hb7.mono HB6.out.size))
        clear ha7 hb7 hs2
        go_wp2_with fail
        refine (srows_same _ _ _ _ _ _ _ _ HA67.out HA7.out).mono ?_
        rintro e w8 ⟨rfl, hb8⟩
        have HB8 := Lib.hid (HB7.out.trans (hb8.mono HB7.out.size))
        clear hb8
        go_wp2
        go_ret
        exact ⟨rfl, HB8.out⟩
      · have t1 : decide (s < keep) = false := decide_eq_false hlt
        have HKU := Lib.hid (show keep ≤ s by omega)
        clear hlt
        go_wp2_with fail
        have hs1 := seen_any a n c l s w5 (HE.out.below HB5.out) (by have := HFW.out.1; omega) HFW.out.2
        rw [HR.out] at hs1
        simp only [if_true] at hs1
        refine hs1.mono ?_
        rintro e w6 ⟨a6, n6, c6, rfl, ha6, hb6⟩
        have HA6 := Lib.hid ha6.es
        have HAp := Lib.hid (HA5.out.below hb6)
        have HB6 := Lib.hid (HB5.out.trans (hb6.mono HB5.out.size))
        clear ha6 hb6 hs1
        go_wp2_with fail
        have hs2 := seen_any a3 n3 c3 _ s w6 HAp.out hpn HPV.out
        rw [HRP.out, Ent.prune_seen l bottom HKU.out] at hs2
        simp only [if_true] at hs2
        refine hs2.mono ?_
        rintro e w7 ⟨a7, n7, c7, rfl, ha7, hb7⟩
        have HA7 := Lib.hid ha7.es
        have HA67 := Lib.hid (HA6.out.below hb7)
        have HB7 := Lib.hid (HB6.out.trans (hb7.mono HB6.out.size))
        clear ha7 hb7 hs2
        go_wp2_with fail
        refine (srows_same _ _ _ _ _ _ _ _ HA67.out HA7.out).mono ?_
        rintro e w8 ⟨rfl, hb8⟩
        have HB8 := Lib.hid (HB7.out.trans (hb8.mono HB7.out.size))
        clear hb8
        go_wp2
        go_ret
        exact ⟨rfl, HB8.out⟩
end Go.Proofs.Ytmmlgcfhcdpolaa
