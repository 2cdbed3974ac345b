/- rs, the reference: Unit, with the memory that it holds. -/
import Derived.Test.YtppgbapfmijboaaRsZ
set_option maxRecDepth 100000
set_option linter.unusedVariables false
set_option linter.unusedSimpArgs false
namespace Go.Proofs.Ytppgbapfmijboaa
open Go.RowKit Go.Deep

theorem Mo.congr {w : World} {B n c C : Nat} {a : Option Addr} {bl cp : Nat → Nat} {Z Y : Nat → Nat → UInt8} (h : Mo w B a n c C bl cp Z) (e : ∀ i j, i < n → j < C → Z i j = Y i j) : Mo w B a n c C bl cp Y :=
  ⟨h.own, fun i hi => ⟨(h.row i hi).1, (h.row i hi).2.1, (h.row i hi).2.2.congr (fun j hj => by rw [e i j hi hj])⟩, h.cap, h.apart⟩
/-- A byte of a row is another one. -/
theorem Mo.set {w : World} {B n c C g : Nat} {bl cp : Nat → Nat} {Z : Nat → Nat → UInt8} (h : Mo w B (some ⟨g, 0, none⟩) n c C bl cp Z) {i : Nat} (hi : i < n) (j : Nat) (v : UInt8) :
    Mo (w.setCell ⟨bl i, j, none⟩ (.int .u8 (n8 v))) B (some ⟨g, 0, none⟩) n c C bl cp (fun r q => if r = i ∧ q = j then v else Z r q) := by
  obtain ⟨g', e', hmy⟩ := h.my (Nat.lt_of_le_of_lt (Nat.zero_le _) hi)
  cases e'
  have hs := hmy.set hi j v
  refine ⟨⟨h.own.1, ?_⟩, fun r hr => ⟨(hs.row r hr).1, fun x hx => by cases hx; exact (hs.row r hr).2.1, (hs.row r hr).2.2⟩, hs.cap, hs.apart⟩
  rcases h.own.2 with h0 | ⟨g', cap, cur, h1, h2, h3, h4⟩
  · exact .inl h0
  · refine .inr ⟨g', cap, cur, h1, h2, ?_, h4⟩
    cases h1
    rw [Below.heap_setCell _ _ _ _ (fun e => (h.row i hi).2.1 _ rfl e.symm)]
    exact h3
def MoT (n C : Nat) (Z : Nat → Nat → UInt8) (w : World) (e : Ending) (w' : World) : Prop :=
  (∃ a c bl cp, e = .returned (.tuple #[.slice a n c, .int .i64 0]) ∧ Mo w' w.heap.size a n c C bl cp Z) ∧ Below w.heap.size w w'

set_option maxHeartbeats 1000000 in
theorem blank_own (R C : Nat) (w : World) (hR1 : 1 ≤ R) (hR : R ≤ 256) (hC : C ≤ 256) :
    Calls Try.prog 73 #[.int .i64 R, .int .i64 C] w (MoP R C (fun _ _ => 0) w) := by
  have hmk := run_make_row' (P := Try.prog) 22 5 (.int .u8 0) 1 Try.underlying22 info8 rfl .i64 .i64 C (by omega) (by omega)
  have HR := Lib.hid (And.intro hR1 hR)
  have HC := Lib.hid hC
  clear hR hC hR1
  go_enter Try.func73, Try.ntmps73
  go_wp2
  go_loopw [5, 6] (fun m i wr => ∃ (k c : Nat) (a : Option Addr) (bl cp : Nat → Nat), k ≤ R ∧ i = .int .i64 k ∧ m = .slice a k c ∧ Below w.heap.size w wr ∧ Mo wr w.heap.size a k c C bl cp (fun _ _ => 0)) (fun _ i _ => R - (intOf i).toNat)
  case atStart => exact ⟨0, 0, none, id, id, Nat.zero_le _, rfl, rfl, Below.refl _ _, Mo.nil _ _ _ _ _ _⟩
  case round =>
    obtain ⟨k, c, a, bl, cp, hk, rfl, rfl, hb, hm⟩ := hrel
    have hkb : k ≤ 1000 := by have := HR.out; omega
    by_cases hlt : k < R
    · have hnew := rowTo.of_is (World.rowIs_made wr (.int .u8 0) C 5)
      have hold := hm.old
      have hm1 := (hm.below ((Below.refl _ _).alloc (Nat.le_refl _) (.cells (madeCells #[.int .u8 0] C) 5))).below ((Below.refl _ _).alloc (Nat.le_refl _) (.cells #[.slice (some ⟨wr.heap.size, 0, none⟩) C C] 22))
      have hr1 := hnew.alloc (.cells #[.slice (some ⟨wr.heap.size, 0, none⟩) C C] 22)
      have hs : (wr.alloc (.cells (madeCells #[.int .u8 0] C) 5)).heap.size = wr.heap.size + 1 := by simp
      have hc1 := cell_of_row _ _ 0 #[Value.slice (some ⟨wr.heap.size, 0, none⟩) C C] 22 (0, 0) (heap_alloc_new (wr.alloc (.cells (madeCells #[.int .u8 0] C) 5)) _)
      rw [hs] at hc1
      have H1 := Lib.hid hm1
      have H2 := Lib.hid hr1
      have H3 := Lib.hid hold
      have H4 := Lib.hid hb
      have H5 := Lib.hid hc1
      have hsz := hb.size
      clear hm1 hr1 hold hb hnew hs hm hc1
      go_wp2_with (at_builtin; refine app_mo rfl _ _ rfl w.heap.size rfl H1.out rfl H5.out ⟨Nat.le_refl _, by have := HC.out; simp only [maxLen]; omega⟩ H2.out hsz H3.out.1 H3.out.2 (by omega) (le_alloc (le_alloc hsz)) ?_; intro a' c' w' bl' cp' hm' hb')
      have hb2 := (((H4.out).alloc hsz (.cells (madeCells #[.int .u8 0] C) 5)).alloc (le_alloc hsz) (.cells #[.slice (some ⟨wr.heap.size, 0, none⟩) C C] 22)).trans hb'
      go_wp2
      go_roundw
      case rel => exact ⟨k + 1, c', a', bl', cp', by omega, by go_num, rfl, hb2, hm'⟩
      case measure => simp [intOf]; omega
    · obtain rfl : k = R := by omega
      have HP : Hid (MoP k C (fun _ _ => 0) w (.returned (.slice a k c)) wr) := Lib.hid ⟨⟨_, _, _, _, rfl, hm⟩, hb⟩
      clear hm hb
      go_wp2
      go_ret
      exact HP.out

set_option maxHeartbeats 1000000 in
theorem refunit_own (R : Nat) (w : World) (hR : 1 ≤ R) (hR2 : R ≤ 255) :
    Calls Try.prog 58 #[.int .i64 R] w (MoT R R Gf.one w) := by
  have t1 : decide ((R : Int) < 1) = false := decide_eq_false (by omega)
  have t3 : decide ((255 : Int) < R) = false := decide_eq_false (by omega)
  have HR := Lib.hid (And.intro hR hR2)
  have hR2 : R ≤ 1000 := by omega
  clear hR
  go_enter Try.func58, Try.ntmps58
  go_wp2_with fail
  refine (blank_own R R w HR.out.1 (by have := HR.out; omega) (by have := HR.out; omega)).mono ?_
  rintro e w1 ⟨⟨ag, c, bl, cp, rfl, hm⟩, hb⟩
  obtain ⟨g, rfl, _⟩ := hm.my HR.out.1
  have HM := Lib.hid hm
  have HB := Lib.hid hb
  clear hm hb
  go_wp2_with fail
  go_loopw [5] (fun i wr => ∃ k : Nat, k ≤ R ∧ i = .int .i64 k ∧ Below w.heap.size w wr ∧ Mo wr w.heap.size (some ⟨g, 0, none⟩) R c R bl cp (fun i j => if i < k then Gf.one i j else 0)) (fun i _ => R - (intOf i).toNat)
  case atStart => exact ⟨0, Nat.zero_le _, rfl, HB.out, HM.out.congr (fun i j _ _ => by simp)⟩
  case round =>
    obtain ⟨k, hk, rfl, hb, hm⟩ := hrel
    by_cases hlt : k < R
    · have c1 : wr.cell? ⟨g, k, none⟩ = some (.slice (some ⟨bl k, 0, none⟩) R (cp k)) := by
        obtain ⟨g', e', hmy⟩ := hm.my HR.out.1
        cases e'
        exact hmy.top.cell hlt
      have c2 := (hm.row k hlt).2.2.cell hlt
      have c3 := (hm.row k hlt).2.2.frozen k
      have hmS := (hm.set hlt k 1).congr (Y := fun i j => if i < k + 1 then Gf.one i j else 0) (fun i j hi hj => by
        by_cases e1 : i = k
        · subst e1
          by_cases e2 : j = i
          · subst e2; simp [Gf.one]
          · simp [Gf.one, e2, Ne.symm e2]
        · by_cases e2 : i < k
          · simp [e1, e2, Nat.lt_succ_of_lt e2]
          · simp [e1, e2]; omega)
      have HS := Lib.hid hmS
      have HBS := Lib.hid (hb.setCell (hm.row k hlt).1 _ : Below w.heap.size w (wr.setCell ⟨bl k, k, none⟩ (.int .u8 (n8 1))))
      clear hm hb hmS
      go_wp2
      go_roundw
      case rel => exact ⟨k + 1, by omega, by go_num, HBS.out, HS.out⟩
      case measure => simp [intOf]; omega
    · obtain rfl : k = R := by omega
      have HP : Hid (MoT k k Gf.one w (.returned (.tuple #[.slice (some ⟨g, 0, none⟩) k c, .int .i64 0])) wr) :=
        Lib.hid ⟨⟨_, c, bl, cp, rfl, hm.congr (fun i j hi _ => by simp [hi])⟩, hb⟩
      clear hm hb
      go_wp2
      go_ret2
      exact HP.out

end Go.Proofs.Ytppgbapfmijboaa
