/- The reference's blank, Unit, Cauchy. -/
import Derived.Test.YtppgbapfmijboaaRgH
namespace Go.Proofs.Ytppgbapfmijboaa
open Go.RowKit Go.Deep

section
variable {w : World} {ops : Array Oper} {rest : List Oper} {o : Oper} {a : Act} {Q : Exit → Act → World → Prop}
/-- append of a new row. -/
theorem app_mo (hgd : Region.wanted o (yielded ops a.tmps) = true) (s x : Operand) (ho : o.op = .call { callee := .builtin .append, args := #[s, x], argTypes := #[28, 28] })
    (B : Nat) {aq : Option Addr} {n c C b k cb : Nat} {bl cp : Nat → Nat} {Z : Nat → Nat → UInt8} (hs : a.eval s = .slice aq n c) (hm : Mo w B aq n c C bl cp Z)
    (hx : a.eval x = .slice (some ⟨k, 0, none⟩) 1 1) (hcell : w.cell? ⟨k, 0, none⟩ = some (.slice (some ⟨b, 0, none⟩) C cb)) (hcb : C ≤ cb ∧ cb ≤ maxLen)
    (hr : rowTo w b 5 C (fun j => .int .u8 (n8 (Z n j)))) (hB' : B ≤ b) (hb : ∀ x, aq = some x → b ≠ x.block) (hne : ∀ i, i < n → bl i ≠ b) (hn : n ≤ 1000000000000) (hB : B ≤ w.heap.size)
    (h : ∀ a' c' w' bl' cp', Mo w' B a' (n + 1) c' C bl' cp' Z → Below B w w' → wpList Try.prog ops Q rest (a.put o.dst (.slice a' (n + 1) c')) w') : wpList Try.prog ops Q (o :: rest) a w :=
  app_row hgd s x ho B hs hm.own hx hcell rfl hn hB fun a' c' w' g1 g2 g3 => h a' c' w' _ _ (hm.snoc hB' hr hb hcb hne g1 g3) g2
end

theorem Mo.old {w : World} {B n c C : Nat} {a : Option Addr} {bl cp : Nat → Nat} {Z : Nat → Nat → UInt8} (h : Mo w B a n c C bl cp Z) : (∀ x, a = some x → w.heap.size ≠ x.block) ∧ ∀ i, i < n → bl i ≠ w.heap.size :=
  ⟨fun x hx e => by have := (h.own.new x hx).2; omega, fun i hi e => by have := (h.row i hi).2.2.lt; omega⟩
def BlankP (R C : Nat) (Z : Nat → Nat → UInt8) (w : World) (e : Ending) (w' : World) : Prop :=
  (∃ g c bl cp, e = .returned (.slice (some ⟨g, 0, none⟩) R c) ∧ R ≤ c ∧ c ≤ maxLen ∧ My w' w.heap.size g R C bl cp Z) ∧ Below w.heap.size w w'
theorem Mo.blank {w wr : World} {n c C : Nat} {a : Option Addr} {bl cp : Nat → Nat} {Z : Nat → Nat → UInt8} (h : Mo wr w.heap.size a n c C bl cp Z) (hn : 0 < n) (hb : Below w.heap.size w wr) : BlankP n C Z w (.returned (.slice a n c)) wr := by
  obtain ⟨g, rfl, hm⟩ := h.my hn
  exact ⟨⟨g, c, bl, cp, rfl, h.own.len.2.1, h.own.len.2.2, hm⟩, hb⟩
set_option maxHeartbeats 1000000 in
theorem blank_any (R C : Nat) (w : World) (hR1 : 1 ≤ R) (hR : R ≤ 256) (hC : C ≤ 256) :
    Calls Try.prog 73 #[.int .i64 R, .int .i64 C] w (BlankP R C (fun _ _ => 0) w) := by
  have hmk := run_make_row' (P := Try.prog) 22 5 (.int .u8 0) 1 Try.underlying22 info8 rfl .i64 .i64 C (by omega) (by omega)
  have HR := Lib.hid (And.intro hR1 hR)
  have HC := Lib.hid hC
  clear hR hC hR1
  go_enter Try.func73, Try.ntmps73
  go_wp2
  go_loopw [5, 6] (fun m i wr => ∃ (k c : Nat) (a : Option Addr) (bl cp : Nat → Nat), k ≤ R ∧ i = .int .i64 k ∧ m = .slice a k c ∧ Below w.heap.size w wr ∧ Mo wr w.heap.size a k c C bl cp (fun _ _ => 0)) (fun _ i _ => R - (intOf i).toNat)
  case atStart => exact ⟨0, 0, none, id, id, Nat.zero_le _, rfl, rfl, Below.refl _ _, Mo.nil _ _ _ _ _ _⟩
  case round =>
    obtain ⟨k, c, a, bl, cp, hk, rfl, rfl, hb, hm⟩ := hrel
    have hkb : k ≤ 1000 := by have := HR.out; omega
    by_cases hlt : k < R
    · have hnew := rowTo.of_is (World.rowIs_made wr (.int .u8 0) C 5)
      have hold := hm.old
      have hm1 := (hm.below ((Below.refl _ _).alloc (Nat.le_refl _) (.cells (madeCells #[.int .u8 0] C) 5))).below ((Below.refl _ _).alloc (Nat.le_refl _) (.cells #[.slice (some ⟨wr.heap.size, 0, none⟩) C C] 22))
      have hr1 := hnew.alloc (.cells #[.slice (some ⟨wr.heap.size, 0, none⟩) C C] 22)
      have hs : (wr.alloc (.cells (madeCells #[.int .u8 0] C) 5)).heap.size = wr.heap.size + 1 := by simp
      have hc1 := cell_of_row _ _ 0 #[Value.slice (some ⟨wr.heap.size, 0, none⟩) C C] 22 (0, 0) (heap_alloc_new (wr.alloc (.cells (madeCells #[.int .u8 0] C) 5)) _)
      rw [hs] at hc1
      have H1 := Lib.hid hm1
      have H2 := Lib.hid hr1
      have H3 := Lib.hid hold
      have H4 := Lib.hid hb
      have H5 := Lib.hid hc1
      have hsz := hb.size
      clear hm1 hr1 hold hb hnew hs hm hc1
      go_wp2_with (at_builtin; refine app_mo rfl _ _ rfl w.heap.size rfl H1.out rfl H5.out ⟨Nat.le_refl _, by have := HC.out; simp only [maxLen]; omega⟩ H2.out hsz H3.out.1 H3.out.2 (by omega) (le_alloc (le_alloc hsz)) ?_; intro a' c' w' bl' cp' hm' hb')
      have hb2 := (((H4.out).alloc hsz (.cells (madeCells #[.int .u8 0] C) 5)).alloc (le_alloc hsz) (.cells #[.slice (some ⟨wr.heap.size, 0, none⟩) C C] 22)).trans hb'
      go_wp2
      go_roundw
      case rel => exact ⟨k + 1, c', a', bl', cp', by omega, by go_num, rfl, hb2, hm'⟩
      case measure => simp [intOf]; omega
    · obtain rfl : k = R := by omega
      have HP := Lib.hid (hm.blank HR.out.1 hb)
      clear hm hb
      go_wp2
      go_ret
      exact HP.out
end Go.Proofs.Ytppgbapfmijboaa
