/- Sorted tables: the place of an entry. -/
import Derived.Test.YtchdmjnhjonddaaSbO
set_option maxRecDepth 100000
set_option linter.unusedVariables false
set_option linter.unusedSimpArgs false
namespace Go.Proofs.Ytchdmjnhjonddaa
open Go.RowKit

set_option maxHeartbeats 8000000 in
/-- The place of the first entry that is not ahead of one. -/
theorem bsf_any (a : Option Addr) (n c : Nat) (l : List Ent) (x : Ent) (ax : Option Addr) (cx p : Nat) (w : World) (h : Es w a n c l) (hn : n ≤ 1000000000) (hp : p ≤ n)
    (h1 : ∀ i, i < p → Ent.cmp (nth l i) x < 0) (h2 : ∀ i, p ≤ i → i < n → 0 ≤ Ent.cmp (nth l i) x) :
    Calls Try.prog 85 #[.slice a n c, ev x ax cx, .func (.func 66) #[] #[]] w fun e w' => ∃ b, e = .returned (.tuple #[.int .i64 p, .bool b]) ∧ Below w.heap.size w w' := by
  have HN := Lib.hid h.1
  have HE := Lib.hid h
  have H1 := Lib.hid h1
  have H2 := Lib.hid h2
  have hx := ent_box (w := w) rfl x ax cx
  have hbx := below_alloc1 w (.cells #[.string (bstr x.key), .int .u64 x.seq, .bool x.gone, .slice ax x.val.length cx] 61)
  obtain ⟨w1, hw1⟩ : ∃ w1, w.alloc (.cells #[.string (bstr x.key), .int .u64 x.seq, .bool x.gone, .slice ax x.val.length cx] 61) = w1 := ⟨_, rfl⟩
  rw [hw1] at hx hbx
  have HW1 := Lib.hid hw1
  have HX := Lib.hid hx
  have HBX := Lib.hid hbx
  clear h h1 h2 hw1 hx hbx
  unfold ev
  go_enter Try.func85, Try.ntmps85
  go_upto_region 3 with fail
  rw [HW1.out]
  go_loopw [9, 10, 11] (fun s7 s8 _ wr => ∃ lo hi : Nat, s7 = .int .i64 lo ∧ s8 = .int .i64 hi ∧ lo ≤ p ∧ p ≤ hi ∧ hi ≤ n ∧ Hid (Below w1.heap.size w1 wr)) (fun s7 s8 _ _ => (intOf s8).toNat - (intOf s7).toNat)
  case atStart => exact ⟨0, n, rfl, rfl, Nat.zero_le _, hp, Nat.le_refl _, Lib.hid (Below.refl _ _)⟩
  case round =>
    obtain ⟨lo, hi, rfl, rfl, hlp, hph, hin, hb⟩ := hrel
    by_cases hlt : lo < hi
    · go_upto_region 5 with fail
      have hme : ((lo : Int) + (hi : Int)) / 2 = (((lo + hi) / 2 : Nat) : Int) := by omega
      rw [hme]
      clear hme
      obtain ⟨m, hm⟩ : ∃ m, m = (lo + hi) / 2 := ⟨_, rfl⟩
      rw [← hm]
      have hm1 : lo ≤ m := by omega
      have hm2 : m < hi := by omega
      clear hm
      by_cases hmp : m < p
      · have hcm := H1.out m hmp
        obtain ⟨b, off, ai, ci, rfl, he, hv⟩ := (HE.out.below (HBX.out.trans (hb.out.mono HBX.out.size))).2.2.2 m (by omega)
        generalize nth l m = y at *
        have hx := HX.out.below hb.out
        have p1 := he.key
        have p2 := he.seq
        have p3 := he.gone
        have p4 := he.val
        have q1 := hx.key
        have q2 := hx.seq
        have q3 := hx.gone
        have q4 := hx.val
        simp only [Nat.zero_add] at q2 q3 q4
        have HC0 := Lib.hid (fun V : World => cmp_any y x ai ax ci cx V)
        unfold ev at HC0
        generalize Ent.cmp y x = cm at *
        clear he hv hx
        have t : decide (cm < 0) = true := decide_eq_true hcm
        clear hcm
        refine wp_region_class (by kernel_rfl) (by kernel_rfl) (Below.refl _ _) ?_
        have m1 := BW.cell p1
        have m2 := BW.cell p2
        have m3 := BW.cell p3
        have m4 := BW.cell p4
        have n1 := BW.cell q1
        have n2 := BW.cell q2
        have n3 := BW.cell q3
        have n4 := BW.cell q4
        repeat (first | go_big_quiet_step ((go_at_call 66; exact calls_class (HC0.out _))))
        refine wpQuiet_nil ?_
        intro w7 hb7; replace hb7 := BW.of hb7
        have HB7 := Lib.hid (hb.out.trans (hb7.mono hb.out.size))
        clear hb7 p1 p2 p3 p4 q1 q2 q3 q4 m1 m2 m3 m4 n1 n2 n3 n4
        go_wp2
        go_roundw
        case rel => exact ⟨m + 1, hi, by go_num, rfl, by omega, by omega, by omega, HB7⟩
        case measure => simp [intOf]; omega
      · have hcm := H2.out m (by omega) (by omega)
        obtain ⟨b, off, ai, ci, rfl, he, hv⟩ := (HE.out.below (HBX.out.trans (hb.out.mono HBX.out.size))).2.2.2 m (by omega)
        generalize nth l m = y at *
        have hx := HX.out.below hb.out
        have p1 := he.key
        have p2 := he.seq
        have p3 := he.gone
        have p4 := he.val
        have q1 := hx.key
        have q2 := hx.seq
        have q3 := hx.gone
        have q4 := hx.val
        simp only [Nat.zero_add] at q2 q3 q4
        have HC0 := Lib.hid (fun V : World => cmp_any y x ai ax ci cx V)
        unfold ev at HC0
        generalize Ent.cmp y x = cm at *
        clear he hv hx
        have t : decide (cm < 0) = false := decide_eq_false (by omega)
        clear hcm
        refine wp_region_class (by kernel_rfl) (by kernel_rfl) (Below.refl _ _) ?_
        have m1 := BW.cell p1
        have m2 := BW.cell p2
        have m3 := BW.cell p3
        have m4 := BW.cell p4
        have n1 := BW.cell q1
        have n2 := BW.cell q2
        have n3 := BW.cell q3
        have n4 := BW.cell q4
        repeat (first | go_big_quiet_step ((go_at_call 66; exact calls_class (HC0.out _))))
        refine wpQuiet_nil ?_
        intro w7 hb7; replace hb7 := BW.of hb7
        have HB7 := Lib.hid (hb.out.trans (hb7.mono hb.out.size))
        clear hb7 p1 p2 p3 p4 q1 q2 q3 q4 m1 m2 m3 m4 n1 n2 n3 n4
        go_wp2
        go_roundw
        case rel => exact ⟨lo, m, rfl, rfl, by omega, by omega, by omega, HB7⟩
        case measure => simp [intOf]; omega
    · obtain rfl : lo = p := by omega
      obtain rfl : hi = lo := by omega
      have hlt' : decide ((hi : Int) < (hi : Int)) = false := by simp
      by_cases hln : hi < n
      · have tn : decide ((hi : Int) < (n : Int)) = true := decide_eq_true (by omega)
        have tn' : decide (hi < n) = true := decide_eq_true hln
        obtain ⟨b, off, ai, ci, rfl, he, hv⟩ := (HE.out.below (HBX.out.trans (hb.out.mono HBX.out.size))).2.2.2 hi (by omega)
        generalize nth l hi = y at *
        have hx := HX.out.below hb.out
        have p1 := he.key
        have p2 := he.seq
        have p3 := he.gone
        have p4 := he.val
        have q1 := hx.key
        have q2 := hx.seq
        have q3 := hx.gone
        have q4 := hx.val
        simp only [Nat.zero_add] at q2 q3 q4
        have HC0 := Lib.hid (fun V : World => cmp_any y x ai ax ci cx V)
        unfold ev at HC0
        generalize Ent.cmp y x = cm at *
        clear he hv hx
        clear hlt
        go_upto_region 8 with fail
        refine wp_region_class (by kernel_rfl) (by kernel_rfl) (Below.refl _ _) ?_
        have m1 := BW.cell p1
        have m2 := BW.cell p2
        have m3 := BW.cell p3
        have m4 := BW.cell p4
        have n1 := BW.cell q1
        have n2 := BW.cell q2
        have n3 := BW.cell q3
        have n4 := BW.cell q4
        repeat (first | go_big_quiet_step ((go_at_call 66; exact calls_class (HC0.out _))))
        refine wpQuiet_nil ?_
        intro w7 hb7; replace hb7 := BW.of hb7
        have HB7 := Lib.hid (hb.out.trans (hb7.mono hb.out.size))
        clear hb7 p1 p2 p3 p4 q1 q2 q3 q4 m1 m2 m3 m4 n1 n2 n3 n4
        go_wp2
        go_ret2
        exact ⟨_, rfl, HBX.out.trans (HB7.out.mono HBX.out.size)⟩
      · have tn : decide ((hi : Int) < (n : Int)) = false := decide_eq_false (by omega)
        have tn' : decide (hi < n) = false := decide_eq_false hln
        clear hlt
        go_upto_region 8 with fail
        refine wp_region_class (by kernel_rfl) (by kernel_rfl) (Below.refl _ _) ?_
        repeat (first | go_big_quiet_step (fail))
        refine wpQuiet_nil ?_
        intro w7 hb7; replace hb7 := BW.of hb7
        have HB7 := Lib.hid (hb.out.trans (hb7.mono hb.out.size))
        clear hb7
        go_wp2
        go_ret2
        exact ⟨_, rfl, HBX.out.trans (HB7.out.mono HBX.out.size)⟩
end Go.Proofs.Ytchdmjnhjonddaa
