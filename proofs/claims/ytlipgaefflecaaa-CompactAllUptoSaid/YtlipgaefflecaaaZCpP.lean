/- The law's known(). -/
import Derived.Test.YtlipgaefflecaaaZCpO
set_option linter.unusedVariables false
set_option linter.unusedSimpArgs false
set_option maxRecDepth 100000
set_option linter.unusedVariables false
set_option linter.unusedSimpArgs false
namespace Go.Proofs.Ytlipgaefflecaaa
open Go.RowKit

def knownT : List Tab := [⟨1, 0, [97], [98], 0⟩, ⟨2, 0, [98], [99], 0⟩]
def knownV (w : World) : World := w.alloc (.cells #[.int .i64 1, .int .i64 0, .string ⟨#[97]⟩, .string ⟨#[98]⟩, .int .i64 0, .int .i64 2, .int .i64 0, .string ⟨#[98]⟩, .string ⟨#[99]⟩, .int .i64 0] 39)
theorem known_ts (w : World) : Ts (knownV w) (some ⟨w.heap.size, 0, none⟩) 2 2 knownT := ⟨rfl, Nat.le_refl _, by simp [maxLen], Row.new w _ _⟩
theorem known_zero : Zero knownT := fun t ht => by
  simp only [knownT, List.mem_cons, List.not_mem_nil, or_false] at ht
  rcases ht with rfl | rfl <;> rfl
theorem AccZ.get {w : World} {B n c : Nat} {a : Option Addr} {l : List Int} (h : AccZ w B a n c l) {i : Nat} {z : Int} (hz : l[i]? = some z) : ∃ b off, a = some ⟨b, off, none⟩ ∧ w.cell? ⟨b, off + i, none⟩ = some (.int .i64 z) :=
  Row.of_own h.2 i _ (by simp [zv, hz])
set_option maxHeartbeats 4000000 in
theorem known_any (w : World) : Calls Try.prog 4 #[] w fun e w' => e = .returned (.bool true) ∧ Below w.heap.size w w' := by
  have hb1 : Below w.heap.size w (knownV w) := below_alloc1 w _
  have hz1 : (knownV w).heap.size = w.heap.size + 1 := by simp [knownV]
  have hb2 := hb1.alloc hb1.size (.cells #[.slice (some ⟨w.heap.size, 0, none⟩) 2 2, .int .u64 0, .int .i64 0, .int .i64 0] 31)
  have hn2 := heap_alloc_new (knownV w) (.cells #[.slice (some ⟨w.heap.size, 0, none⟩) 2 2, .int .u64 0, .int .i64 0, .int .i64 0] 31)
  rw [hz1] at hn2
  have ht := (known_ts w).below (below_alloc1 (knownV w) (.cells #[.slice (some ⟨w.heap.size, 0, none⟩) 2 2, .int .u64 0, .int .i64 0, .int .i64 0] 31))
  obtain ⟨w2, hw2⟩ : ∃ w2, (knownV w).alloc (.cells #[.slice (some ⟨w.heap.size, 0, none⟩) 2 2, .int .u64 0, .int .i64 0, .int .i64 0] 31) = w2 := ⟨_, rfl⟩
  rw [hw2] at hb2 hn2 ht
  unfold knownV at hw2
  have HT := Lib.hid ht
  have HB := Lib.hid hb2
  have VS := Lib.hid (fun (W : World) (h : Below w2.heap.size w2 W) => And.intro (cell_later h ((cell_of_row _ _ 0 _ _ _ hn2).trans rfl)) (And.intro (cell_later h ((cell_of_row _ _ 1 _ _ _ hn2).trans rfl)) (And.intro (cell_later h ((cell_of_row _ _ 2 _ _ _ hn2).trans rfl)) (cell_later h ((cell_of_row _ _ 3 _ _ _ hn2).trans rfl)))))
  have HW2 := Lib.hid hw2
  clear hb1 hz1 hb2 hn2 ht hw2
  go_enter Try.func4, Try.ntmps4
  go_upto_region 2 with fail
  rw [HW2.out]
  obtain ⟨v0, v1, v2, v3⟩ := VS.out w2 (Below.refl _ _)
  clear HW2
  go_wp2_with fail
  have hp1 := pick_yes (some ⟨w.heap.size, 0, none⟩) 2 knownT w2 HT.out known_zero
  unfold vv shv at hp1
  refine hp1.mono ?_
  clear hp1
  rintro e w3 ⟨ai, ni, ci, rfl, hz3, hb3⟩
  obtain rfl : ni = 2 := by rw [← hz3.1]; rfl
  obtain ⟨b5, o5, ea, hc5⟩ := hz3.get (i := 0) (z := 1) rfl
  subst ea
  rw [Nat.add_zero] at hc5
  clear v0 v1 v2 v3
  have hj3 := JBox.new w3 0 (some ⟨b5, o5, none⟩) 2 ci true
  have hbj := below_alloc1 w3 (.cells #[.int .i64 0, .slice (some ⟨b5, o5, none⟩) 2 ci, .bool true] 48)
  have hc5' := cell_later hbj hc5
  obtain ⟨w4, hw4⟩ : ∃ w4, w3.alloc (.cells #[.int .i64 0, .slice (some ⟨b5, o5, none⟩) 2 ci, .bool true] 48) = w4 := ⟨_, rfl⟩
  rw [hw4] at hj3 hbj hc5'
  have HW4 := Lib.hid hw4
  have HJ := Lib.hid hj3
  have HB4 := Lib.hid (hb3.trans (hbj.mono hb3.size))
  have HC := Lib.hid hc5'
  have hlt := hj3.lt
  clear hw4 hj3 hbj hc5' hc5 hz3 hb3
  go_upto_region 3 with fail
  rw [HW4.out]
  clear HW4
  obtain ⟨v0, v1, v2, v3⟩ := VS.out w4 HB4.out
  go_wp2_with fail
  have hp2 := pick_no (some ⟨w.heap.size, 0, none⟩) 2 knownT w4 (HT.out.below HB4.out) known_zero
  unfold vv shv at hp2
  refine hp2.mono ?_
  clear hp2
  rintro e w5 ⟨rfl, hb5⟩
  clear v0 v1 v2 v3
  have hb6 := hb5.trans ((below_alloc1 w5 (.cells #[.int .i64 0, .slice none 0 0, .bool false] 48)).mono hb5.size)
  have hj6 := HJ.out.below hb6 hlt
  have hc6 := cell_later hb6 HC.out
  have HB6 := Lib.hid (HB.out.trans ((HB4.out.trans (hb6.mono HB4.out.size)).mono HB.out.size))
  obtain ⟨w6, hw6⟩ : ∃ w6, w5.alloc (.cells #[.int .i64 0, .slice none 0 0, .bool false] 48) = w6 := ⟨_, rfl⟩
  rw [hw6] at hj6 hc6 HB6
  have HW6 := Lib.hid hw6
  obtain ⟨j0, j1, j2, jf⟩ := hj6.cells
  clear hb6 hj6 hw6 hb5 jf
  go_upto_region 4 with fail
  rw [HW6.out]
  clear HW6
  go_wp2
  go_ret
  exact ⟨rfl, HB6.out⟩
end Go.Proofs.Ytlipgaefflecaaa
