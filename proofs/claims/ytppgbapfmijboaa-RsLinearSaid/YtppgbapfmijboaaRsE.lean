/- rs.New. -/
import Derived.Test.YtppgbapfmijboaaRsD
set_option maxRecDepth 100000
set_option linter.unusedVariables false
namespace Go.Proofs.Ytppgbapfmijboaa
open Go.RowKit Go.Deep

/-- A code in memory. -/
structure Cod (w : World) (b K M : Nat) : Prop where
  k : w.cell? ⟨b, 0, none⟩ = some (.int .i64 K)
  m : w.cell? ⟨b, 1, none⟩ = some (.int .i64 M)
  p : ∃ a n c, w.cell? ⟨b, 2, none⟩ = some (.slice a n c) ∧ Bss w a n c (mat M K (Gf.cau K))
theorem Cod.below {w w' : World} {b K M : Nat} (h : Cod w b K M) (hb : Below w.heap.size w w') : Cod w' b K M := by
  obtain ⟨h1, h2, a, n, c, h3, h4⟩ := h
  exact ⟨cell_later hb h1, cell_later hb h2, a, n, c, cell_later hb h3, h4.below hb⟩
/-- Sizes of a code. -/
def Rs.fit (k m : Int) : Prop := 1 ≤ k ∧ 0 ≤ m ∧ k + m ≤ 255
instance (k m : Int) : Decidable (Rs.fit k m) := inferInstanceAs (Decidable (_ ∧ _ ∧ _))

set_option maxHeartbeats 1000000 in
theorem new_err (k m : Int) (w : World) (h : ¬ Rs.fit k m) (hk : -9223372036854775808 ≤ k ∧ k ≤ 9223372036854775807) (hm : -9223372036854775808 ≤ m ∧ m ≤ 9223372036854775807) :
    Calls Try.prog 8 #[.int .i64 k, .int .i64 m] w fun e w' => e = .returned (.tuple #[.pointer none, .int .i64 1]) ∧ w = w' := by
  unfold Rs.fit at h
  by_cases h1 : k < 1
  · have t1 : decide (k < 1) = true := decide_eq_true h1
    clear hk hm h h1
    go_enter Try.func8, Try.ntmps8
    go_wp2
    go_ret2
    exact ⟨rfl, rfl⟩
  have t1 : decide (k < 1) = false := decide_eq_false h1
  by_cases h2 : m < 0
  · have t2 : decide (m < 0) = true := decide_eq_true h2
    clear hk hm h h1 h2
    go_enter Try.func8, Try.ntmps8
    go_wp2
    go_ret2
    exact ⟨rfl, rfl⟩
  have t2 : decide (m < 0) = false := decide_eq_false h2
  by_cases h3 : 255 < k
  · have t3 : decide (255 < k) = true := decide_eq_true h3
    clear hk hm h h1 h2 h3
    go_enter Try.func8, Try.ntmps8
    go_wp2
    go_ret2
    exact ⟨rfl, rfl⟩
  have t3 : decide (255 < k) = false := decide_eq_false h3
  by_cases h4 : 255 < m
  · have t4 : decide (255 < m) = true := decide_eq_true h4
    clear hk hm h h1 h2 h3 h4
    go_enter Try.func8, Try.ntmps8
    go_wp2
    go_ret2
    exact ⟨rfl, rfl⟩
  have t4 : decide (255 < m) = false := decide_eq_false h4
  have t5 : decide (255 < k + m) = true := decide_eq_true (by omega)
  clear h hk hm
  have hk1 : 0 ≤ k := by omega
  have hk2 : k ≤ 1000 := by omega
  have hm1 : 0 ≤ m := by omega
  have hm2 : m ≤ 1000 := by omega
  clear h1 h2 h3 h4
  go_enter Try.func8, Try.ntmps8
  go_wp2
  go_ret2
  exact ⟨rfl, rfl⟩

/-- It reads so wherever the blocks from B on are the same. -/
def BssFrom (B : Nat) (w : World) (a : Option Addr) (n c : Nat) (ls : List (List UInt8)) : Prop := ∀ W : World, (∀ j, B ≤ j → W.heap[j]? = w.heap[j]?) → Bss W a n c ls
theorem Mx.other {w W : World} {B g n C : Nat} {bl : Nat → Nat} {Z : Nat → Nat → UInt8} (h : Mx w B g n C bl Z) (k : ∀ j, B ≤ j → W.heap[j]? = w.heap[j]?) : Mx W B g n C bl Z :=
  ⟨h.base, h.top.of_block (k _ h.base), fun i hi => ⟨(h.row i hi).1, (h.row i hi).2.1, (h.row i hi).2.2.of_block (k _ (h.row i hi).1)⟩, h.apart⟩
set_option maxHeartbeats 2000000 in
theorem new_any (K M : Nat) (w : World) (h1 : 1 ≤ K) (h2 : K + M ≤ 255) :
    Calls Try.prog 8 #[.int .i64 K, .int .i64 M] w fun e w' => (∃ b, e = .returned (.tuple #[.pointer (some ⟨b, 0, none⟩), .int .i64 0]) ∧ Cod w' b K M) ∧ Below w.heap.size w w' := by
  have t1 : decide ((K : Int) < 1) = false := decide_eq_false (by omega)
  have t2 : decide ((M : Int) < 0) = false := decide_eq_false (by omega)
  have t3 : decide ((255 : Int) < K) = false := decide_eq_false (by omega)
  have t4 : decide ((255 : Int) < M) = false := decide_eq_false (by omega)
  have t5 : decide ((255 : Int) < (K : Int) + M) = false := decide_eq_false (by omega)
  have HK := Lib.hid (And.intro h1 h2)
  have hk2 : K ≤ 1000 := by omega
  have hm2 : M ≤ 1000 := by omega
  clear h1 h2
  have HC : Hid (∀ w1 : World, Calls Try.prog 26 #[.int .i64 M, .int .i64 K] w1 fun e w' => (∃ a n c er, e = .returned (.tuple #[.slice a n c, .int .i64 er]) ∧ BssFrom w1.heap.size w' a n c (mat M K (Gf.cau K))) ∧ Below w1.heap.size w1 w') := Lib.hid fun w1 => by
    by_cases hM : 1 ≤ M
    · exact (cauchy_any M K w1 hM HK.out.1 (by have := HK.out.2; omega)).mono fun e w' ⟨⟨g, bl, h1, h2⟩, h3⟩ => ⟨⟨_, _, _, _, h1, fun W hW => (h2.other hW).bss (Nat.le_refl _) (by simp only [maxLen]; omega) (by simp only [maxLen]; omega)⟩, h3⟩
    · obtain rfl : M = 0 := by omega
      exact (cauchy_err 0 K w1 (fun h => by have := h.r1; omega) (by omega) (by omega)).mono fun e w' ⟨h1, h3⟩ => ⟨⟨_, _, _, _, h1, fun W _ => by simpa [mat] using Bss.nil W⟩, h3⟩
  go_enter Try.func8, Try.ntmps8
  go_wp2_with fail
  refine (HC.out _).mono ?_
  rintro e w1 ⟨⟨a, n, c, er, rfl, hB⟩, hb⟩
  have hsz : (w.alloc (.cells #[.int .i64 (K : Int), .int .i64 (M : Int), .slice none 0 0] 57)).heap.size = w.heap.size + 1 := by simp
  have hblk : w1.heap[w.heap.size]? = some (.cells #[.int .i64 (K : Int), .int .i64 (M : Int), .slice none 0 0] 57 (0, 0)) := (hb.block w.heap.size (by omega)).trans (heap_alloc_last w _)
  have hbw : Below w.heap.size w w1 := (below_alloc w _).trans (hb.mono (by omega))
  have g0 : w1.cell? ⟨w.heap.size, 0, none⟩ = some (.int .i64 K) := by simp [World.cell?, hblk]
  have g1 : w1.cell? ⟨w.heap.size, 1, none⟩ = some (.int .i64 M) := by simp [World.cell?, hblk]
  have g2 : w1.cell? ⟨w.heap.size, 2, none⟩ = some (.slice none 0 0) := by simp [World.cell?, hblk]
  have g3 : w1.frozen? ⟨w.heap.size, 2, none⟩ = false := by simp [World.frozen?, hblk]
  have hB2 := hB (w1.setCell ⟨w.heap.size, 2, none⟩ (.slice a n c)) (fun j hj => Below.heap_setCell _ _ _ _ (by show j ≠ w.heap.size; omega))
  have HCod : Hid (Cod (w1.setCell ⟨w.heap.size, 2, none⟩ (.slice a n c)) w.heap.size K M) := Lib.hid ⟨by rw [World.cell?_setCell_other _ _ _ _ (by simp)]; exact g0, by rw [World.cell?_setCell_other _ _ _ _ (by simp)]; exact g1, a, n, c, World.cell?_setCell_same _ _ _ g2, hB2⟩
  have HBW : Hid (Below w.heap.size w (w1.setCell ⟨w.heap.size, 2, none⟩ (.slice a n c))) := Lib.hid (hbw.setCell (Nat.le_refl _) _)
  clear hB2 hB hb hbw hblk g0 g1
  go_wp2
  go_ret2
  exact ⟨⟨_, rfl, HCod.out⟩, HBW.out⟩
end Go.Proofs.Ytppgbapfmijboaa
