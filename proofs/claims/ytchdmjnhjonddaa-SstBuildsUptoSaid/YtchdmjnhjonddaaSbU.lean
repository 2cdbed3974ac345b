/- The law's known(). -/
import Derived.Test.YtchdmjnhjonddaaSbT
import Derived.Lib.SlBytesConst
set_option maxRecDepth 100000
set_option linter.unusedVariables false
set_option linter.unusedSimpArgs false
namespace Go.Proofs.Ytchdmjnhjonddaa
open Go.RowKit

/-- The list that known() lays: its byte, its entry. -/
theorem kE_es (w : World) : Es ((w.alloc (.cells #[.int .u8 118] 5 (1, 2))).alloc (.cells #[.string ⟨#[107]⟩, .int .u64 3, .bool false, .slice (some ⟨w.heap.size, 0, none⟩) 1 1] 61)) (some ⟨w.heap.size + 1, 0, none⟩) 1 1 [kE] := by
  refine ⟨rfl, Nat.le_refl _, by simp [maxLen], fun i hi => ?_⟩
  obtain rfl : i = 0 := by omega
  have hz : (w.alloc (.cells #[.int .u8 118] 5 (1, 2))).heap.size = w.heap.size + 1 := by simp
  have h := heap_alloc_new (w.alloc (.cells #[.int .u8 118] 5 (1, 2))) (.cells #[.string ⟨#[107]⟩, .int .u64 3, .bool false, .slice (some ⟨w.heap.size, 0, none⟩) 1 1] 61)
  rw [hz] at h
  have hb : Bs (w.alloc (.cells #[.int .u8 118] 5 (1, 2))) (some ⟨w.heap.size, 0, none⟩) 1 1 [118] := Bs.litAt [118] (1, 2) rfl (by simp [maxLen])
  exact ⟨w.heap.size + 1, 0, some ⟨w.heap.size, 0, none⟩, 1, rfl, ⟨(cell_of_row _ _ 0 _ _ _ h).trans rfl, (cell_of_row _ _ 1 _ _ _ h).trans rfl, (cell_of_row _ _ 2 _ _ _ h).trans rfl, (cell_of_row _ _ 3 _ _ _ h).trans rfl⟩, hb.below (below_alloc1 _ _)⟩
theorem kOk0 : Sst.Ok [] := ⟨fun e he => (by cases he), by decide, by decide⟩
theorem kOk1 : Sst.Ok [kE] := ⟨fun e he => (by simp only [List.mem_singleton] at he; subst he; exact ⟨by decide⟩), by decide +kernel, by decide⟩
theorem conv_lit (W : World) (z : Int) {k : Nat} (hk : k = W.heap.size) : (convert 55 55 (.slice (some ⟨k, 0, none⟩) 1 1)).run Try.prog (W.alloc (.cells #[.int .u8 z] 5)) = .ok (.slice (some ⟨k, 0, none⟩) 1 1) (W.alloc (.cells #[.int .u8 z] 5 (1, 2))) := by
  subst hk
  exact Lib.run_convert_bytes_const (P := Try.prog) W 55 5 #[.int .u8 z] 1 1 Try.underlying55 Try.underlying5
set_option maxHeartbeats 4000000 in
theorem known_any (w : World) : Calls Try.prog 15 #[] w fun e w' => e = .returned (.bool true) ∧ Below w.heap.size w w' := by
  have HB0 := Lib.hid (sbuild_any none 0 0 [] 10 w (Es.nil w) kOk0 (by omega))
  rw [kBuild0] at HB0
  go_enter Try.func15, Try.ntmps15
  go_wp2_with fail
  refine HB0.out.mono ?_
  rintro en w1 ⟨a1, n1, c1, rfl, ho1, hb1⟩
  clear HB0
  have HO1 := Lib.hid ho1.bs
  have HB1 := Lib.hid hb1
  obtain rfl : n1 = 46 := by have := ho1.bs.1; rw [kLen0] at this; exact this.symm
  clear ho1 hb1
  go_wp2_with fail
  refine (sopen_any a1 46 c1 kB0 18 0 5 [] [] w1 HO1.out kB0_good).mono ?_
  rintro en w2 ⟨bt, al, cl, af, nf, cf, rfl, ht2, hb2⟩
  have HT2 := Lib.hid ht2
  have HB2 := Lib.hid (HB1.out.trans (hb2.mono HB1.out.size))
  clear ht2 hb2
  have hes := kE_es w2
  have hz3 : (w2.alloc (.cells #[.int .u8 118] 5 (1, 2))).heap.size = w2.heap.size + 1 := by simp
  have hb3 : Below w2.heap.size w2 ((w2.alloc (.cells #[.int .u8 118] 5 (1, 2))).alloc (.cells #[.string ⟨#[107]⟩, .int .u64 3, .bool false, .slice (some ⟨w2.heap.size, 0, none⟩) 1 1] 61)) := (below_alloc1 _ _).trans ((below_alloc1 _ _).mono (by simp))
  obtain ⟨w3, hw3⟩ : ∃ w3, ((w2.alloc (.cells #[.int .u8 118] 5 (1, 2))).alloc (.cells #[.string ⟨#[107]⟩, .int .u64 3, .bool false, .slice (some ⟨w2.heap.size, 0, none⟩) 1 1] 61)) = w3 := ⟨_, rfl⟩
  rw [hw3] at hes hb3
  have HW3 := Lib.hid hw3
  have HES := Lib.hid hes
  have HB3 := Lib.hid (HB2.out.trans (hb3.mono HB2.out.size))
  have HT3 := Lib.hid (HT2.out.below hb3)
  have HBU := Lib.hid (sbuild_any (some ⟨w2.heap.size + 1, 0, none⟩) 1 1 [kE] 10 w3 hes kOk1 (by omega))
  rw [kBuild1] at HBU
  clear hes hw3 hb3 hz3
  have cl1 := fun (z : Int) => conv_lit w2 z (k := w2.heap.size) rfl
  go_wp2_with fail
  rw [HW3.out]
  refine HBU.out.mono ?_
  rintro en w4 ⟨a4, n4, c4, rfl, ho4, hb4⟩
  have HO4 := Lib.hid ho4.bs
  have HB4 := Lib.hid (HB3.out.trans (hb4.mono HB3.out.size))
  have HT4 := Lib.hid (HT3.out.below hb4)
  clear ho4 hb4 HBU
  go_wp2_with fail
  refine (sopen_any a4 n4 c4 kB1 33 11 20 [kE] [⟨[107], 0, 11⟩] w4 HO4.out kB1_good).mono ?_
  rintro en w5 ⟨bu, au, cu, fu, nu, gu, rfl, ht5, hb5⟩
  have HU5 := Lib.hid ht5
  have HT5 := Lib.hid (HT4.out.below hb5)
  have HB5 := Lib.hid (HB4.out.trans (hb5.mono HB4.out.size))
  clear ht5 hb5
  go_upto_region 7 with fail
  have HG5 : Hid (Calls Try.prog 30 #[.pointer (some ⟨bu, 0, none⟩), .string ⟨#[107]⟩, .int .u64 5] w5 fun e w' => ∃ a1 c1, e = .returned (.tuple #[.agg #[.string ⟨#[107]⟩, .int .u64 3, .bool false, .slice a1 1 c1], .bool true]) ∧ Own w' w5.heap.size a1 1 c1 [118] ∧ Below w5.heap.size w5 w') := Lib.hid (get_yes HU5.out [107] 5 0 (by decide) (by decide) rfl (by decide) (fun i hi => by omega) (fun i _ hi => by
    obtain rfl : i = 0 := by simp only [List.length_singleton] at hi; omega
    have h := kCmp5
    show 0 ≤ Ent.cmp kE _
    omega))
  go_wp2_with fail
  refine HG5.out.mono ?_
  rintro en w6 ⟨a6, c6, rfl, ho6, hb6⟩
  have HO6 := Lib.hid ho6.bs
  have HB6 := Lib.hid (HB5.out.trans (hb6.mono HB5.out.size))
  have HT6 := Lib.hid (HT5.out.below hb6)
  have HU6 := Lib.hid (HU5.out.below hb6)
  clear ho6 hb6 HG5
  go_upto_region 8 with fail
  have hh7 := heap_alloc_new w6 (.cells #[.string ⟨#[107]⟩, .int .u64 3, .bool false, .slice a6 1 c6] 61)
  have hb7 := below_alloc1 w6 (.cells #[.string ⟨#[107]⟩, .int .u64 3, .bool false, .slice a6 1 c6] 61)
  have HO7 := Lib.hid (HO6.out.below hb7)
  have HB7 := Lib.hid (HB6.out.trans (hb7.mono HB6.out.size))
  have HT7 := Lib.hid (HT6.out.below hb7)
  have HU7 := Lib.hid (HU6.out.below hb7)
  have HC7 := Lib.hid ((cell_of_row _ _ 3 _ _ _ hh7).trans rfl)
  generalize w6.alloc (.cells #[.string ⟨#[107]⟩, .int .u64 3, .bool false, .slice a6 1 c6] 61) = w7 at *
  generalize w6.heap.size = g7 at *
  clear hh7 hb7
  have HG2 : Hid (Calls Try.prog 30 #[.pointer (some ⟨bu, 0, none⟩), .string ⟨#[107]⟩, .int .u64 2] w7 fun e w' => e = .returned (.tuple #[.agg #[.string ⟨#[]⟩, .int .u64 0, .bool false, .slice none 0 0], .bool false]) ∧ Below w7.heap.size w7 w') := Lib.hid (get_no HU7.out [107] 2 1 (by decide) (by decide) (fun h => absurd h (by decide)) (fun i hi => by
    obtain rfl : i = 0 := by omega
    have h := kCmp2
    show Ent.cmp kE _ < 0
    omega) (fun i h1 hi => by simp only [List.length_singleton] at hi; omega))
  go_wp2_with fail
  refine HG2.out.mono ?_
  rintro en w8 ⟨rfl, hb8⟩
  have HO8 := Lib.hid (HO7.out.below hb8)
  have HB8 := Lib.hid (HB7.out.trans (hb8.mono HB7.out.size))
  have HT8 := Lib.hid (HT7.out.below hb8)
  have HU8 := Lib.hid (HU7.out.below hb8)
  have HC8 := Lib.hid (cell_later hb8 HC7.out)
  clear hb8 HG2 HO7 HB7 HT7 HU7 HC7
  go_upto_region 9 with fail
  have hb9 := below_alloc1 w8 (.cells #[.string ⟨#[]⟩, .int .u64 0, .bool false, .slice none 0 0] 61)
  have HO9 := Lib.hid (HO8.out.below hb9)
  have HB9 := Lib.hid (HB8.out.trans (hb9.mono HB8.out.size))
  have HT9 := Lib.hid (HT8.out.below hb9)
  have HU9 := Lib.hid (HU8.out.below hb9)
  have hc9 := cell_later hb9 HC8.out
  generalize w8.alloc (.cells #[.string ⟨#[]⟩, .int .u64 0, .bool false, .slice none 0 0] 61) = w9 at *
  clear hb9 HO8 HB8 HT8 HU8 HC8
  have v9 := conv_bytes HO9.out
  have tS : ((bstr [118]).toList == (ByteArray.mk #[118]).toList) = true := by decide +kernel
  have tS' : bstr [118] = ByteArray.mk #[118] := rfl
  have HL : Hid (Calls Try.prog 31 #[.pointer (some ⟨bt, 0, none⟩)] w9 fun e w' => e = .returned (.int .i64 0) ∧ w9 = w') := Lib.hid (tlen_any HT9.out)
  have HK : Hid (Calls Try.prog 32 #[.pointer (some ⟨bt, 0, none⟩)] w9 fun e w' => e = .returned (.int .i64 0) ∧ w9 = w') := Lib.hid (tblocks_any HT9.out)
  have HM : Hid (Calls Try.prog 33 #[.pointer (some ⟨bu, 0, none⟩), .string ⟨#[107]⟩] w9 fun e w' => e = .returned (.bool true) ∧ Below w9.heap.size w9 w') := Lib.hid (by
    have h := may_any HU9.out [107] (by have := HU9.out.fs.1; rw [kLenF] at this; omega) (by have := HU9.out.fs.1; rw [kLenF] at this; omega) (by decide)
    rw [kMay] at h
    exact h)
  go_wp2_with (first
    | (go_at_call 31; refine HL.out.mono ?_; rintro en wA ⟨rfl, rfl⟩)
    | (go_at_call 32; refine HK.out.mono ?_; rintro en wA ⟨rfl, rfl⟩)
    | (go_at_call 33; refine HM.out.mono ?_; rintro en wB ⟨rfl, hbB⟩; have HBB := Lib.hid hbB; clear hbB))
  go_ret
  exact ⟨rfl, HB9.out.trans (HBB.out.mono HB9.out.size)⟩
end Go.Proofs.Ytchdmjnhjonddaa
