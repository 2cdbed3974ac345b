/- Cold stripes: pointers that are not made. -/
import Derived.Test.YtfgifndpglgjkaaGreatDoorZCdU
set_option linter.unusedVariables false
set_option linter.unusedSimpArgs false
set_option maxRecDepth 100000
set_option linter.unusedVariables false
set_option linter.unusedSimpArgs false
namespace Go.Proofs.YtfgifndpglgjkaaGreatDoor
open Go.RowKit

theorem zero_pv : Cd.pv Cd.zero none 0 0 = .agg #[.string ⟨#[]⟩, .string ⟨#[]⟩, .int .u64 0, .int .u64 0, .int .i64 0, .int .i64 0, .int .i64 0, .int .u32 0, .slice none 0 0] := rfl
def Cd.pok (k m : Int) (nn nd : Nat) (size : Int) (l : List Int) : Prop := Rs.fit k m ∧ (nn : Int) = k + m ∧ l.all Cd.node = true ∧ (nd : Int) = size
set_option maxHeartbeats 8000000 in
theorem point_no (bk key : List UInt8) (v : Nat) (size k m : Int) (ad : Option Addr) (nd cd : Nat) (d : List UInt8) (an : Option Addr) (nn cn : Nat) (l : List Int) (w : World) (hd : Bs w ad nd cd d) (hl : Is w an nn cn l) (hnd : nd ≤ 100000000) (hnn : nn ≤ 1000000) (hk : I64 k) (hm : I64 m) (h : ¬ Cd.pok k m nn nd size l) :
    Calls Tryz.prog 8 #[Cd.hv bk key v size, .slice ad nd cd, .int .i64 k, .int .i64 m, .slice an nn cn] w fun e w' => e = .returned (.tuple #[Cd.pv Cd.zero none 0 0, .int .i64 1]) ∧ Below w.heap.size w w' := by
  have hle := hd.le.1
  have hb0 := two_boxC w (.cells #[.string (bstr bk), .string (bstr key), .int .u64 v, .int .i64 size] 24) (.cells Cd.zeroC 31)
  have hg0 : ((w.alloc (.cells #[.string (bstr bk), .string (bstr key), .int .u64 v, .int .i64 size] 24)).alloc (.cells Cd.zeroC 31)).heap[w.heap.size]? = some (.cells #[.string (bstr bk), .string (bstr key), .int .u64 v, .int .i64 size] 24 (0, 0)) :=
    (Below.heap_alloc _ _ _ (by simp)).trans (heap_alloc_new w _)
  have hg1 : ((w.alloc (.cells #[.string (bstr bk), .string (bstr key), .int .u64 v, .int .i64 size] 24)).alloc (.cells Cd.zeroC 31)).heap[w.heap.size + 1]? = some (.cells Cd.zeroC 31 (0, 0)) := by
    have := heap_alloc_new (w.alloc (.cells #[.string (bstr bk), .string (bstr key), .int .u64 v, .int .i64 size] 24)) (.cells Cd.zeroC 31)
    rwa [World.size_alloc] at this
  have hsz : ((w.alloc (.cells #[.string (bstr bk), .string (bstr key), .int .u64 v, .int .i64 size] 24)).alloc (.cells Cd.zeroC 31)).heap.size = w.heap.size + 2 := by simp
  unfold Cd.zeroC at hb0 hg0 hg1 hsz
  have HL : Hid (∀ W, Below w.heap.size w W → Is W an nn cn l) := Lib.hid fun W k => hl.below k
  have HH := Lib.hid h
  obtain ⟨hk1, hk2⟩ := hk
  obtain ⟨hm1, hm2⟩ := hm
  clear hd hl h
  unfold Cd.hv
  go_enter Tryz.func8, Tryz.ntmps8
  go_upto_region 1 with fail
  generalize (w.alloc (.cells #[.string (bstr bk), .string (bstr key), .int .u64 v, .int .i64 size] 24)).alloc (.cells #[.string ⟨#[]⟩, .string ⟨#[]⟩, .int .u64 0, .int .u64 0, .int .i64 0, .int .i64 0, .int .i64 0, .int .u32 0, .slice none 0 0] 31) = w1 at *
  have HB1 := Lib.hid hb0
  have HG0 := Lib.hid hg0
  have HG1 := Lib.hid hg1
  have HS1 := Lib.hid hsz
  clear hb0 hg0 hg1 hsz
  by_cases hfit : Rs.fit k m
  case neg =>
    go_wp2_with fail
    refine (new_err k m w1 hfit ⟨hk1, hk2⟩ ⟨hm1, hm2⟩).mono ?_
    rintro e w2 ⟨rfl, rfl⟩
    obtain ⟨k0, k1, k2, k3, k4, k5, k6, k7, k8, kf⟩ := cells9 HG1.out
    go_wp2
    obtain ⟨hs, hbb, hkk⟩ := set9 (.string ⟨#[]⟩) (.string ⟨#[]⟩) (.int .u64 0) (.int .u64 0) (.int .i64 0) (.int .i64 0) (.int .i64 0) (.int .u32 0) (.slice none 0 0) HG1.out (Nat.le_succ w.heap.size)
    have hb9 := HB1.out.trans (hbb HB1.out.size)
    clear hkk
    generalize World.setCell _ _ _ = W9 at *
    obtain ⟨q0, q1, q2, q3, q4, q5, q6, q7, q8, _⟩ := cells9 hs
    exact bodyPost_ret (v := .tuple #[Cd.pv Cd.zero none 0 0, .int .i64 1]) (by simp [results, Tryz.results8, go_sem, zero_pv, q0, q1, q2, q3, q4, q5, q6, q7, q8]) rfl ⟨rfl, hb9⟩
  have hfit2 := hfit
  unfold Rs.fit at hfit2
  obtain ⟨K, rfl⟩ : ∃ K : Nat, k = (K : Int) := ⟨k.toNat, by omega⟩
  obtain ⟨M, rfl⟩ : ∃ M : Nat, m = (M : Int) := ⟨m.toNat, by omega⟩
  have h1 : 1 ≤ K := by omega
  have h2 : K + M ≤ 255 := by omega
  go_wp2_with fail
  refine (new_any K M w1 h1 h2).mono ?_
  rintro e w2 ⟨⟨bc, rfl, _⟩, hb2⟩
  have HB2 := Lib.hid (HB1.out.trans (hb2.mono HB1.out.size))
  have HG02 := Lib.hid ((hb2.block _ (by rw [HS1.out]; omega)).trans HG0.out)
  have HG12 := Lib.hid ((hb2.block _ (by rw [HS1.out]; omega)).trans HG1.out)
  have HZ2 : Hid (w.heap.size + 2 ≤ w2.heap.size) := Lib.hid (by have := hb2.size; rw [HS1.out] at this; exact this)
  clear hb2 hk1 hk2 hm1 hm2 hfit2
  by_cases hn : (nn : Int) = (K : Int) + (M : Int)
  case neg =>
    have t1 : ((nn : Int) != (K : Int) + (M : Int)) = true := by rw [bne_iff_ne]; exact hn
    obtain ⟨k0, k1, k2, k3, k4, k5, k6, k7, k8, kf⟩ := cells9 HG12.out
    go_wp2
    obtain ⟨hs, hbb, hkk⟩ := set9 (.string ⟨#[]⟩) (.string ⟨#[]⟩) (.int .u64 0) (.int .u64 0) (.int .i64 0) (.int .i64 0) (.int .i64 0) (.int .u32 0) (.slice none 0 0) HG12.out (Nat.le_succ w.heap.size)
    have hb9 := HB2.out.trans (hbb HB2.out.size)
    clear hkk
    generalize World.setCell _ _ _ = W9 at *
    obtain ⟨q0, q1, q2, q3, q4, q5, q6, q7, q8, _⟩ := cells9 hs
    exact bodyPost_ret (v := .tuple #[Cd.pv Cd.zero none 0 0, .int .i64 1]) (by simp [results, Tryz.results8, go_sem, zero_pv, q0, q1, q2, q3, q4, q5, q6, q7, q8]) rfl ⟨rfl, hb9⟩
  have t1 : ((nn : Int) != (K : Int) + (M : Int)) = false := by rw [bne_eq_false_iff_eq]; exact hn
  go_wp2_with fail
  refine (contn_any an nn cn l w2 (HL.out w2 HB2.out) (by omega)).mono ?_
  rintro e w3 ⟨rfl, hb3⟩
  have HB3 := Lib.hid (HB2.out.trans (hb3.mono HB2.out.size))
  have HG03 := Lib.hid ((hb3.block _ (by have := HZ2.out; omega)).trans HG02.out)
  have HG13 := Lib.hid ((hb3.block _ (by have := HZ2.out; omega)).trans HG12.out)
  clear hb3
  cases hal : l.all Cd.node with
  | false =>
    dsimp only [Bool.not_false]
    obtain ⟨k0, k1, k2, k3, k4, k5, k6, k7, k8, kf⟩ := cells9 HG13.out
    go_wp2
    obtain ⟨hs, hbb, hkk⟩ := set9 (.string ⟨#[]⟩) (.string ⟨#[]⟩) (.int .u64 0) (.int .u64 0) (.int .i64 0) (.int .i64 0) (.int .i64 0) (.int .u32 0) (.slice none 0 0) HG13.out (Nat.le_succ w.heap.size)
    have hb9 := HB3.out.trans (hbb HB3.out.size)
    clear hkk
    generalize World.setCell _ _ _ = W9 at *
    obtain ⟨q0, q1, q2, q3, q4, q5, q6, q7, q8, _⟩ := cells9 hs
    exact bodyPost_ret (v := .tuple #[Cd.pv Cd.zero none 0 0, .int .i64 1]) (by simp [results, Tryz.results8, go_sem, zero_pv, q0, q1, q2, q3, q4, q5, q6, q7, q8]) rfl ⟨rfl, hb9⟩
  | true =>
    dsimp only [Bool.not_true]
    have hsz : ¬ (nd : Int) = size := fun e => HH.out ⟨hfit, hn, hal, e⟩
    have t2 : ((nd : Int) != size) = true := by rw [bne_iff_ne]; exact hsz
    have d3 : w3.cell? ⟨w.heap.size, 3, none⟩ = some (.int .i64 size) := (cell_of_row _ _ 3 _ _ _ HG03.out).trans rfl
    clear hsz hal
    obtain ⟨k0, k1, k2, k3, k4, k5, k6, k7, k8, kf⟩ := cells9 HG13.out
    go_wp2
    obtain ⟨hs, hbb, hkk⟩ := set9 (.string ⟨#[]⟩) (.string ⟨#[]⟩) (.int .u64 0) (.int .u64 0) (.int .i64 0) (.int .i64 0) (.int .i64 0) (.int .u32 0) (.slice none 0 0) HG13.out (Nat.le_succ w.heap.size)
    have hb9 := HB3.out.trans (hbb HB3.out.size)
    clear hkk
    generalize World.setCell _ _ _ = W9 at *
    obtain ⟨q0, q1, q2, q3, q4, q5, q6, q7, q8, _⟩ := cells9 hs
    exact bodyPost_ret (v := .tuple #[Cd.pv Cd.zero none 0 0, .int .i64 1]) (by simp [results, Tryz.results8, go_sem, zero_pv, q0, q1, q2, q3, q4, q5, q6, q7, q8]) rfl ⟨rfl, hb9⟩
end Go.Proofs.YtfgifndpglgjkaaGreatDoor
