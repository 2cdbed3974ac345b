/- The reference's Right, blank, Unit, Cauchy: matrices that grow by append. -/
import Derived.Test.YtfgifndpglgjkaaGreatDoorZQRga
import Derived.Test.YtfgifndpglgjkaaGreatDoorZRows2
set_option linter.unusedVariables false
set_option linter.unusedSimpArgs false
set_option linter.unusedVariables false
set_option linter.unusedSimpArgs false
namespace Go.Proofs.YtfgifndpglgjkaaGreatDoor
open Go.RowKit Go.Deep

theorem right_eq {ls : List (List UInt8)} {n n0 : Nat} (hl : ls.length = n) (h0 : (nth ls 0).length = n0) (h1 : 1 ≤ n) (h2 : n ≤ 255) (h3 : 1 ≤ n0) (h4 : n0 ≤ 255) (h : ∀ k, k < n → (nth ls k).length = n0) : Gf.right ls = true := by
  unfold Gf.right; rw [hl, h0]; exact decide_eq_true ⟨h1, h2, h3, h4, h⟩
/-- Matrices of the call's own whose rows may have room behind them. -/
structure My (w : World) (B g n C : Nat) (bl cp : Nat → Nat) (Z : Nat → Nat → UInt8) : Prop where
  base : B ≤ g
  top : rowTo w g 25 n (fun i => .slice (some ⟨bl i, 0, none⟩) C (cp i))
  row : ∀ i, i < n → B ≤ bl i ∧ bl i ≠ g ∧ rowTo w (bl i) 5 C (fun j => .int .u8 (n8 (Z i j)))
  cap : ∀ i, i < n → C ≤ cp i ∧ cp i ≤ maxLen
  apart : ∀ i j, i < n → j < n → bl i = bl j → i = j
theorem Mx.my {w : World} {B g n C : Nat} {bl : Nat → Nat} {Z : Nat → Nat → UInt8} (h : Mx w B g n C bl Z) (hC : C ≤ maxLen) : My w B g n C bl (fun _ => C) Z :=
  ⟨h.base, h.top, h.row, fun _ _ => ⟨Nat.le_refl _, hC⟩, h.apart⟩
namespace My
variable {w : World} {B g n C : Nat} {bl cp : Nat → Nat} {Z : Nat → Nat → UInt8}
theorem below {w' : World} (h : My w B g n C bl cp Z) (hb : Below w.heap.size w w') : My w' B g n C bl cp Z :=
  ⟨h.base, h.top.below hb, fun i hi => ⟨(h.row i hi).1, (h.row i hi).2.1, (h.row i hi).2.2.below hb⟩, h.cap, h.apart⟩
theorem mono {B' : Nat} (h : My w B g n C bl cp Z) (hB : B' ≤ B) : My w B' g n C bl cp Z :=
  ⟨Nat.le_trans hB h.base, h.top, fun i hi => ⟨Nat.le_trans hB (h.row i hi).1, (h.row i hi).2⟩, h.cap, h.apart⟩
theorem drewN (h : My w B g n C bl cp Z) (q : Nat) : My (w.drewN q) B g n C bl cp Z := h.below (below_drewN (Below.refl _ _) q)
theorem drew (h : My w B g n C bl cp Z) : My w.drew B g n C bl cp Z := h.below (Below.refl _ _).drew
theorem congr {Y : Nat → Nat → UInt8} (h : My w B g n C bl cp Z) (e : ∀ i j, i < n → j < C → Z i j = Y i j) : My w B g n C bl cp Y :=
  ⟨h.base, h.top, fun i hi => ⟨(h.row i hi).1, (h.row i hi).2.1, (h.row i hi).2.2.congr fun j hj => by rw [e i j hi hj]⟩, h.cap, h.apart⟩
theorem set (h : My w B g n C bl cp Z) {i : Nat} (hi : i < n) (j : Nat) (v : UInt8) : My (w.setCell ⟨bl i, j, none⟩ (.int .u8 (n8 v))) B g n C bl cp (fun r c => if r = i ∧ c = j then v else Z r c) := by
  refine ⟨h.base, h.top.setOther (fun e => (h.row i hi).2.1 e.symm) _, fun r hr => ⟨(h.row r hr).1, (h.row r hr).2.1, ?_⟩, h.cap, h.apart⟩
  by_cases e : r = i
  · subst e
    refine ((h.row r hr).2.2.set j _).congr fun c hc => ?_
    by_cases ec : c = j
    · simp [ec]
    · simp [ec]
  · refine ((h.row r hr).2.2.setOther (fun e' => e (h.apart r i hr hi e')) _).congr fun c hc => ?_
    simp [e]
theorem setOut {g' j : Nat} (h : My w B g n C bl cp Z) (hg : g' ≠ g) (hr : ∀ i, i < n → bl i ≠ g') (v : Value) : My (w.setCell ⟨g', j, none⟩ v) B g n C bl cp Z :=
  ⟨h.base, h.top.setOther (fun e => hg e.symm) _, fun i hi => ⟨(h.row i hi).1, (h.row i hi).2.1, (h.row i hi).2.2.setOther (hr i hi) _⟩, h.cap, h.apart⟩
/-- Two rows change places. -/
theorem bss {c : Nat} (h : My w B g n C bl cp Z) (hc : n ≤ c) (hm : c ≤ maxLen) : Bss w (some ⟨g, 0, none⟩) n c (mat n C Z) := by
  refine ⟨mat_len _ _ _, hc, hm, fun i hi => ⟨g, 0, some ⟨bl i, 0, none⟩, C, cp i, rfl, by rw [Nat.zero_add]; exact h.top.cell hi, ?_⟩⟩
  rw [mat_row hi]
  refine ⟨by simp, (h.cap i hi).1, (h.cap i hi).2, fun j v hv => ?_⟩
  have hj : j < C := by
    rcases Nat.lt_or_ge j C with h' | h'
    · exact h'
    · rw [List.getElem?_eq_none (by simp [vs]; omega)] at hv; cases hv
  refine ⟨bl i, 0, rfl, ?_⟩
  rw [Nat.zero_add, (h.row i hi).2.2.cell hj]
  simp [vs, hj] at hv
  rw [hv]
end My

/-- While rows are appended. -/
structure Mo (w : World) (B : Nat) (a : Option Addr) (n c C : Nat) (bl cp : Nat → Nat) (Z : Nat → Nat → UInt8) : Prop where
  own : OwnV w B a n c ((List.range n).map fun i => .slice (some ⟨bl i, 0, none⟩) C (cp i))
  row : ∀ i, i < n → B ≤ bl i ∧ (∀ x, a = some x → bl i ≠ x.block) ∧ rowTo w (bl i) 5 C (fun j => .int .u8 (n8 (Z i j)))
  cap : ∀ i, i < n → C ≤ cp i ∧ cp i ≤ maxLen
  apart : ∀ i j, i < n → j < n → bl i = bl j → i = j
theorem Mo.nil (w : World) (B C : Nat) (bl cp : Nat → Nat) (Z : Nat → Nat → UInt8) : Mo w B none 0 0 C bl cp Z :=
  ⟨OwnV.nil w B, fun i hi => by omega, fun i hi => by omega, fun i j hi => by omega⟩
theorem Mo.below {w w' : World} {B n c C : Nat} {a : Option Addr} {bl cp : Nat → Nat} {Z : Nat → Nat → UInt8} (h : Mo w B a n c C bl cp Z) (hb : Below w.heap.size w w') : Mo w' B a n c C bl cp Z :=
  ⟨h.own.below hb, fun i hi => ⟨(h.row i hi).1, (h.row i hi).2.1, (h.row i hi).2.2.below hb⟩, h.cap, h.apart⟩
theorem own_top {w : World} {B n c : Nat} {a : Option Addr} {f : Nat → Value} (h : OwnV w B a n c ((List.range n).map f)) (hn : 0 < n) : ∃ g, a = some ⟨g, 0, none⟩ ∧ B ≤ g ∧ rowTo w g 25 n f := by
  have hl := h.len
  rcases h.2 with ⟨h1, h2⟩ | ⟨g, cap, cur, h1, h2, h3, h4, h5, h6, h7⟩
  · cases h1; omega
  · cases h1
    refine ⟨g, rfl, h2, cur, h3, by simp at h6; omega, fun i hi => ?_⟩
    have e : (List.take (n * 1) cur.toList)[i]? = ((List.range n).map f)[i]? := by rw [h7]
    rw [List.getElem?_take] at e
    simpa [hi] using e
theorem Mo.my {w : World} {B n c C : Nat} {a : Option Addr} {bl cp : Nat → Nat} {Z : Nat → Nat → UInt8} (h : Mo w B a n c C bl cp Z) (hn : 0 < n) : ∃ g, a = some ⟨g, 0, none⟩ ∧ My w B g n C bl cp Z := by
  obtain ⟨g, rfl, h1, h2⟩ := own_top h.own hn
  exact ⟨g, rfl, h1, h2, fun i hi => ⟨(h.row i hi).1, (h.row i hi).2.1 _ rfl, (h.row i hi).2.2⟩, h.cap, h.apart⟩
/-- The row in block b is appended. -/
theorem Mo.snoc {w w' : World} {B n c c' C b k : Nat} {a a' : Option Addr} {bl cp : Nat → Nat} {Z : Nat → Nat → UInt8} (h : Mo w B a n c C bl cp Z)
    (hB : B ≤ b) (hr : rowTo w b 5 C (fun j => .int .u8 (n8 (Z n j)))) (hb : ∀ x, a = some x → b ≠ x.block) (hk : C ≤ k ∧ k ≤ maxLen) (hne : ∀ i, i < n → bl i ≠ b)
    (ho : OwnV w' B a' (n + 1) c' (((List.range n).map fun i => .slice (some ⟨bl i, 0, none⟩) C (cp i)) ++ [.slice (some ⟨b, 0, none⟩) C k])) (hev : Evol w a w' a') :
    Mo w' B a' (n + 1) c' C (fun i => if i = n then b else bl i) (fun i => if i = n then k else cp i) Z := by
  have step : ∀ {b' : Nat} {f : Nat → Value}, rowTo w b' 5 C f → (∀ x, a = some x → b' ≠ x.block) → rowTo w' b' 5 C f ∧ (∀ x, a' = some x → b' ≠ x.block) := by
    intro b' f h1 h2
    refine ⟨h1.of_block (hev.1.block b' h1.lt (by
      cases a with
      | none => simp
      | some x => simpa using h2 x rfl)), fun x hx e => ?_⟩
    rcases hev.2 x hx with h3 | h3
    · cases a with
      | none => cases h3
      | some y => exact h2 y rfl (by rw [e]; simpa using h3.symm)
    · have := h1.lt; omega
  refine ⟨?_, fun i hi => ?_, fun i hi => ?_, fun i j hi hj e => ?_⟩
  · have e : ((List.range (n + 1)).map fun i => Value.slice (some ⟨if i = n then b else bl i, 0, none⟩) C (if i = n then k else cp i)) =
        ((List.range n).map fun i => .slice (some ⟨bl i, 0, none⟩) C (cp i)) ++ [.slice (some ⟨b, 0, none⟩) C k] := by
      rw [List.range_succ, List.map_append]
      congr 1
      · apply List.map_congr_left
        intro i hi
        have := List.mem_range.1 hi
        rw [if_neg (by omega), if_neg (by omega)]
      · simp
    rw [e]; exact ho
  · by_cases e : i = n
    · subst e
      simp only [if_true]
      exact ⟨hB, (step hr hb).2, (step hr hb).1⟩
    · simp only [if_neg e]
      have := h.row i (by omega)
      exact ⟨this.1, (step this.2.2 this.2.1).2, (step this.2.2 this.2.1).1⟩
  · by_cases e : i = n
    · simp only [if_pos e]; exact hk
    · simp only [if_neg e]; exact h.cap i (by omega)
  · by_cases e1 : i = n <;> by_cases e2 : j = n <;> simp only [e1, e2, if_true, if_false] at e
    · omega
    · exact absurd e.symm (hne j (by omega))
    · exact absurd e (hne i (by omega))
    · exact h.apart i j (by omega) (by omega) e
end Go.Proofs.YtfgifndpglgjkaaGreatDoor

/- The reference's blank, Unit, Cauchy. -/
namespace Go.Proofs.YtfgifndpglgjkaaGreatDoor
open Go.RowKit Go.Deep

section
variable {w : World} {ops : Array Oper} {rest : List Oper} {o : Oper} {a : Act} {Q : Exit → Act → World → Prop}
/-- append of a new row. -/
theorem app_mo (hgd : Region.wanted o (yielded ops a.tmps) = true) (s x : Operand) (ho : o.op = .call { callee := .builtin .append, args := #[s, x], argTypes := #[53, 53] })
    (B : Nat) {aq : Option Addr} {n c C b k cb : Nat} {bl cp : Nat → Nat} {Z : Nat → Nat → UInt8} (hs : a.eval s = .slice aq n c) (hm : Mo w B aq n c C bl cp Z)
    (hx : a.eval x = .slice (some ⟨k, 0, none⟩) 1 1) (hcell : w.cell? ⟨k, 0, none⟩ = some (.slice (some ⟨b, 0, none⟩) C cb)) (hcb : C ≤ cb ∧ cb ≤ maxLen)
    (hr : rowTo w b 5 C (fun j => .int .u8 (n8 (Z n j)))) (hB' : B ≤ b) (hb : ∀ x, aq = some x → b ≠ x.block) (hne : ∀ i, i < n → bl i ≠ b) (hn : n ≤ 1000000000000) (hB : B ≤ w.heap.size)
    (h : ∀ a' c' w' bl' cp', Mo w' B a' (n + 1) c' C bl' cp' Z → Below B w w' → wpList Tryz.prog ops Q rest (a.put o.dst (.slice a' (n + 1) c')) w') : wpList Tryz.prog ops Q (o :: rest) a w :=
  app_row hgd s x ho B hs hm.own hx hcell rfl hn hB fun a' c' w' g1 g2 g3 => h a' c' w' _ _ (hm.snoc hB' hr hb hcb hne g1 g3) g2
end

theorem Mo.old {w : World} {B n c C : Nat} {a : Option Addr} {bl cp : Nat → Nat} {Z : Nat → Nat → UInt8} (h : Mo w B a n c C bl cp Z) : (∀ x, a = some x → w.heap.size ≠ x.block) ∧ ∀ i, i < n → bl i ≠ w.heap.size :=
  ⟨fun x hx e => by have := (h.own.new x hx).2; omega, fun i hi e => by have := (h.row i hi).2.2.lt; omega⟩
def BlankP (R C : Nat) (Z : Nat → Nat → UInt8) (w : World) (e : Ending) (w' : World) : Prop :=
  (∃ g c bl cp, e = .returned (.slice (some ⟨g, 0, none⟩) R c) ∧ R ≤ c ∧ c ≤ maxLen ∧ My w' w.heap.size g R C bl cp Z) ∧ Below w.heap.size w w'
theorem Mo.blank {w wr : World} {n c C : Nat} {a : Option Addr} {bl cp : Nat → Nat} {Z : Nat → Nat → UInt8} (h : Mo wr w.heap.size a n c C bl cp Z) (hn : 0 < n) (hb : Below w.heap.size w wr) : BlankP n C Z w (.returned (.slice a n c)) wr := by
  obtain ⟨g, rfl, hm⟩ := h.my hn
  exact ⟨⟨g, c, bl, cp, rfl, h.own.len.2.1, h.own.len.2.2, hm⟩, hb⟩
set_option maxHeartbeats 1000000 in
theorem blank_any (R C : Nat) (w : World) (hR1 : 1 ≤ R) (hR : R ≤ 256) (hC : C ≤ 256) :
    Calls Tryz.prog 126 #[.int .i64 R, .int .i64 C] w (BlankP R C (fun _ _ => 0) w) := by
  have hmk := run_make_row' (P := Tryz.prog) 25 5 (.int .u8 0) 1 Tryz.underlying25 info8 rfl .i64 .i64 C (by omega) (by omega)
  have HR := Lib.hid (And.intro hR1 hR)
  have HC := Lib.hid hC
  clear hR hC hR1
  go_enter Tryz.func126, Tryz.ntmps126
  go_wp2
  go_loopw [5, 6] (fun m i wr => ∃ (k c : Nat) (a : Option Addr) (bl cp : Nat → Nat), k ≤ R ∧ i = .int .i64 k ∧ m = .slice a k c ∧ Below w.heap.size w wr ∧ Mo wr w.heap.size a k c C bl cp (fun _ _ => 0)) (fun _ i _ => R - (intOf i).toNat)
  case atStart => exact ⟨0, 0, none, id, id, Nat.zero_le _, rfl, rfl, Below.refl _ _, Mo.nil _ _ _ _ _ _⟩
  case round =>
    obtain ⟨k, c, a, bl, cp, hk, rfl, rfl, hb, hm⟩ := hrel
    have hkb : k ≤ 1000 := by have := HR.out; omega
    by_cases hlt : k < R
    · have hnew := rowTo.of_is (World.rowIs_made wr (.int .u8 0) C 5)
      have hold := hm.old
      have hm1 := (hm.below ((Below.refl _ _).alloc (Nat.le_refl _) (.cells (madeCells #[.int .u8 0] C) 5))).below ((Below.refl _ _).alloc (Nat.le_refl _) (.cells #[.slice (some ⟨wr.heap.size, 0, none⟩) C C] 25))
      have hr1 := hnew.alloc (.cells #[.slice (some ⟨wr.heap.size, 0, none⟩) C C] 25)
      have hs : (wr.alloc (.cells (madeCells #[.int .u8 0] C) 5)).heap.size = wr.heap.size + 1 := by simp
      have hc1 := cell_of_row _ _ 0 #[Value.slice (some ⟨wr.heap.size, 0, none⟩) C C] 25 (0, 0) (heap_alloc_new (wr.alloc (.cells (madeCells #[.int .u8 0] C) 5)) _)
      rw [hs] at hc1
      have H1 := Lib.hid hm1
      have H2 := Lib.hid hr1
      have H3 := Lib.hid hold
      have H4 := Lib.hid hb
      have H5 := Lib.hid hc1
      have hsz := hb.size
      clear hm1 hr1 hold hb hnew hs hm hc1
      go_wp2_with (at_builtin; refine app_mo rfl _ _ rfl w.heap.size rfl H1.out rfl H5.out ⟨Nat.le_refl _, by have := HC.out; simp only [maxLen]; omega⟩ H2.out hsz H3.out.1 H3.out.2 (by omega) (le_alloc (le_alloc hsz)) ?_; intro a' c' w' bl' cp' hm' hb')
      have hb2 := (((H4.out).alloc hsz (.cells (madeCells #[.int .u8 0] C) 5)).alloc (le_alloc hsz) (.cells #[.slice (some ⟨wr.heap.size, 0, none⟩) C C] 25)).trans hb'
      go_wp2
      go_roundw
      case rel => exact ⟨k + 1, c', a', bl', cp', by omega, by go_num, rfl, hb2, hm'⟩
      case measure => simp [intOf]; omega
    · obtain rfl : k = R := by omega
      have HP := Lib.hid (hm.blank HR.out.1 hb)
      clear hm hb
      go_wp2
      go_ret
      exact HP.out
end Go.Proofs.YtfgifndpglgjkaaGreatDoor

/- The reference's Unit, Cauchy. -/
namespace Go.Proofs.YtfgifndpglgjkaaGreatDoor
open Go.RowKit Go.Deep

def MatP (R C : Nat) (Z : Nat → Nat → UInt8) (w : World) (e : Ending) (w' : World) : Prop :=
  (∃ g c bl cp, e = .returned (.tuple #[.slice (some ⟨g, 0, none⟩) R c, .int .i64 0]) ∧ R ≤ c ∧ c ≤ maxLen ∧ My w' w.heap.size g R C bl cp Z) ∧ Below w.heap.size w w'
theorem inv_zero : Gf.inv 0 = 0 := by decide +kernel
theorem cau_inv (C i j : Nat) : Gf.cau C i j = Gf.inv ((UInt8.ofNat C + UInt8.ofNat i) ^^^ UInt8.ofNat j) := by
  unfold Gf.cau Gf.div
  split
  · rename_i h; rw [h, inv_zero]
  · rw [Gf.one_mul]
theorem refcauchy_err (r c : Int) (w : World) (h : ¬ Gf.CauFit r c) (hr : -9223372036854775808 ≤ r ∧ r ≤ 9223372036854775807) (hc : -9223372036854775808 ≤ c ∧ c ≤ 9223372036854775807) :
    Calls Tryz.prog 108 #[.int .i64 r, .int .i64 c] w fun e w' => e = .returned (.tuple #[.slice none 0 0, .int .i64 1]) ∧ w = w' := by
  by_cases h1 : r < 1
  · have t1 : decide (r < 1) = true := decide_eq_true h1
    clear hr hc h h1
    go_enter Tryz.func108, Tryz.ntmps108
    go_wp2
    go_ret2
    exact ⟨rfl, rfl⟩
  have t1 : decide (r < 1) = false := decide_eq_false h1
  by_cases h2 : c < 1
  · have t2 : decide (c < 1) = true := decide_eq_true h2
    clear hr hc h h1 h2
    go_enter Tryz.func108, Tryz.ntmps108
    go_wp2
    go_ret2
    exact ⟨rfl, rfl⟩
  have t2 : decide (c < 1) = false := decide_eq_false h2
  by_cases h3 : 256 < r
  · have t3 : decide (256 < r) = true := decide_eq_true h3
    clear hr hc h h1 h2 h3
    go_enter Tryz.func108, Tryz.ntmps108
    go_wp2
    go_ret2
    exact ⟨rfl, rfl⟩
  have t3 : decide (256 < r) = false := decide_eq_false h3
  have t5 : decide (256 - r < c) = true := decide_eq_true (by
    rcases Int.lt_or_le 256 (r + c) with h5 | h5
    · omega
    · exact absurd ⟨by omega, by omega, by omega⟩ h)
  have hb1 : 0 ≤ r ∧ r ≤ 1000 := by omega
  clear hr hc h h1 h2 h3
  go_enter Tryz.func108, Tryz.ntmps108
  go_wp2
  go_ret2
  exact ⟨rfl, rfl⟩
@[go_sem] theorem to8_add (a b : Nat) : Value.int .u8 (((a : Int) + (b : Int)) % 256) = .int .u8 (n8 (UInt8.ofNat a + UInt8.ofNat b)) := by
  have h := to8 (a + b); rwa [Int.natCast_add, UInt8.ofNat_add] at h
theorem wrap8_nat (n : Nat) : IntKind.u8.wrap (n : Int) = n8 (UInt8.ofNat n) := by
  unfold n8; rw [IntKind.wrap_u8, UInt8.toNat_ofNat']; rfl
theorem cau_spell {C k j : Nat} (h : C + k ≤ 100000) : bits .xor .u8 (IntKind.u8.wrap (IntKind.i64.wrap ((C : Int) + (k : Int)))) (IntKind.u8.wrap (j : Int)) = n8 ((UInt8.ofNat C + UInt8.ofNat k) ^^^ UInt8.ofNat j) := by
  have e : IntKind.i64.wrap ((C : Int) + (k : Int)) = ((C + k : Nat) : Int) := by rw [IntKind.wrap_i64]; omega
  rw [e, wrap8_nat, wrap8_nat, xor8, UInt8.ofNat_add]
set_option maxHeartbeats 1000000 in
theorem refcauchy_any (R C : Nat) (w : World) (hR : 1 ≤ R) (hC : 1 ≤ C) (hRC : R + C ≤ 256) :
    Calls Tryz.prog 108 #[.int .i64 R, .int .i64 C] w (MatP R C (Gf.cau C) w) := by
  have t1 : decide ((R : Int) < 1) = false := decide_eq_false (by omega)
  have t2 : decide ((C : Int) < 1) = false := decide_eq_false (by omega)
  have t3 : decide ((256 : Int) < R) = false := decide_eq_false (by omega)
  have t5 : decide (256 - (R : Int) < C) = false := decide_eq_false (by omega)
  have HRC := Lib.hid (And.intro (And.intro hR hC) hRC)
  have hR2 : R ≤ 1000 := by omega
  have hC2 : C ≤ 1000 := by omega
  clear hRC hR hC
  go_enter Tryz.func108, Tryz.ntmps108
  go_wp2_with fail
  refine (blank_any R C w HRC.out.1.1 (by have := HRC.out; omega) (by have := HRC.out; omega)).mono ?_
  rintro e w1 ⟨⟨g, c, bl, cp, rfl, h1, h2, hm⟩, hb⟩
  have HM := Lib.hid hm
  have HB := Lib.hid hb
  have HC := Lib.hid (And.intro h1 h2)
  clear hm hb h1 h2 t1 t2 t3 t5
  go_wp2_with fail
  go_loopw [7] (fun i wr => ∃ k : Nat, k ≤ R ∧ i = .int .i64 k ∧ Below w.heap.size w wr ∧ My wr w.heap.size g R C bl cp (fun i j => if i < k then Gf.cau C i j else 0)) (fun i _ => R - (intOf i).toNat)
  case atStart => exact ⟨0, Nat.zero_le _, rfl, HB.out, HM.out.congr (fun i j _ _ => by simp)⟩
  case round =>
    obtain ⟨k, hk, rfl, hb, hm⟩ := hrel
    by_cases hlt : k < R
    · have HB2 := Lib.hid hb
      have HM2 := Lib.hid hm
      clear hb hm
      go_wp2_with fail
      go_loopw [8] (fun i wi => ∃ c : Nat, c ≤ C ∧ i = .int .i64 c ∧ Below w.heap.size w wi ∧ My wi w.heap.size g R C bl cp (fun i j => if i < k ∨ i = k ∧ j < c then Gf.cau C i j else 0)) (fun i _ => C - (intOf i).toNat)
      case atStart => exact ⟨0, Nat.zero_le _, rfl, HB2.out, HM2.out.congr (fun i j _ _ => by simp)⟩
      case round =>
        obtain ⟨j, hj, rfl, hb, hm⟩ := hrel
        by_cases hlj : j < C
        · have c1 : wr.cell? ⟨g, k, none⟩ = some (.slice (some ⟨bl k, 0, none⟩) C (cp k)) := hm.top.cell hlt
          have c2 := (hm.row k hlt).2.2.cell hlj
          have c3 := (hm.row k hlt).2.2.frozen j
          have hmS := (hm.set hlt j (Gf.inv ((UInt8.ofNat C + UInt8.ofNat k) ^^^ UInt8.ofNat j))).congr (Y := fun i c => if i < k ∨ i = k ∧ c < j + 1 then Gf.cau C i c else 0) (fun i c hi hc => by
            by_cases e1 : i = k
            · subst e1
              by_cases e2 : c = j
              · subst e2; simp [cau_inv]
              · by_cases e3 : c < j
                · simp [e2, e3, Nat.lt_succ_of_lt e3]
                · simp [e2, e3]; omega
            · simp [e1])
          have HS := Lib.hid hmS
          have HBS := Lib.hid (hb.setCell (hm.row k hlt).1 _ : Below w.heap.size w (wr.setCell ⟨bl k, j, none⟩ (.int .u8 (n8 (Gf.inv ((UInt8.ofNat C + UInt8.ofNat k) ^^^ UInt8.ofNat j))))))
          clear hm hb hmS
          have hk2 : k ≤ 1000 := by omega
          have hj2 : j ≤ 1000 := by omega
          have hcall : ∀ W, Calls Tryz.prog 127 #[.int .u8 (bits .xor .u8 (IntKind.u8.wrap (IntKind.i64.wrap ((C : Int) + (k : Int)))) (IntKind.u8.wrap (j : Int)))] W fun e w' => e = .returned (.int .u8 (n8 (Gf.inv ((UInt8.ofNat C + UInt8.ofNat k) ^^^ UInt8.ofNat j)))) ∧ W = w' := fun W => by
            rw [cau_spell (by omega)]; exact inverse_any _ _
          have HCA := Lib.hid hcall
          clear hcall
          go_wp2_with fail
          go_region_with (go_at_call 127; (with_reducible refine (HCA.out _).mono ?_); rintro e w' ⟨rfl, rfl⟩)
          all_goals go_wp2
          all_goals go_roundw
          all_goals first | (simp [intOf]; omega) | exact ⟨j + 1, by omega, by go_num, HBS.out.drew, HS.out.drew⟩
        · obtain rfl : j = C := by omega
          have HM3 := Lib.hid (hm.congr (Y := fun i c => if i < k + 1 then Gf.cau j i c else 0) (fun i c _ hc => by
            by_cases e1 : i = k
            · simp [e1, hc]
            · by_cases e2 : i < k
              · simp [e2, Nat.lt_succ_of_lt e2]
              · simp [e1, e2]; omega))
          have HB3 := Lib.hid hb
          clear hm hb
          go_wp2
          go_roundw
          case rel => exact ⟨k + 1, by omega, by go_num, HB3.out, HM3.out⟩
          case measure => simp [intOf]; omega
    · obtain rfl : k = R := by omega
      have HP : Hid (MatP k C (Gf.cau C) w (.returned (.tuple #[.slice (some ⟨g, 0, none⟩) k c, .int .i64 0])) wr) :=
        Lib.hid ⟨⟨g, c, bl, cp, rfl, HC.out.1, HC.out.2, hm.congr (fun i j hi _ => by simp [hi])⟩, hb⟩
      clear hm hb
      go_wp2
      go_ret2
      exact HP.out
end Go.Proofs.YtfgifndpglgjkaaGreatDoor

/- The chapter's examples hold. -/
namespace Go.Proofs.YtfgifndpglgjkaaGreatDoor
open Go.RowKit Go.Deep

theorem kdiv : n8 (Gf.div 1 2) = 142 ∧ Gf.divE 2 = 0 := by decide +kernel
theorem klog : Gf.log 1 = 0 ∧ Gf.logE 1 = 0 := by
  refine ⟨?_, rfl⟩
  unfold Gf.log
  rw [if_neg (by decide)]
  exact Gf.lg_pw 0
theorem kmul : n8 (Gf.mul 128 2) = 29 := by decide +kernel
theorem kcau : n8 (Gf.cau 2 0 0) = 142 ∧ n8 (Gf.cau 2 0 1) = 244 := by decide +kernel
end Go.Proofs.YtfgifndpglgjkaaGreatDoor

/- The walk of GfMakes. -/
namespace Go.Proofs.YtfgifndpglgjkaaGreatDoor
open Go.RowKit Go.Deep

/-- A matrix and an error are told. -/
def MRes (ls : List (List UInt8)) (er : Int) (w : World) (e : Ending) (w' : World) : Prop :=
  (∃ a n c, e = .returned (.tuple #[.slice a n c, .int .i64 er]) ∧ Bss w' a n c ls) ∧ Below w.heap.size w w'
theorem MatP.res {R C : Nat} {Z : Nat → Nat → UInt8} {w w' : World} {e : Ending} (h : MatP R C Z w e w') : MRes (mat R C Z) 0 w e w' := by
  obtain ⟨⟨g, c, bl, cp, h1, h2, h3, h4⟩, hb⟩ := h
  exact ⟨⟨_, _, _, h1, h4.bss h2 h3⟩, hb⟩
theorem nil_res {w w' : World} {e : Ending} {er : Int} (h : e = .returned (.tuple #[.slice none 0 0, .int .i64 er])) (hb : Below w.heap.size w w') : MRes [] er w e w' :=
  ⟨⟨_, _, _, h, Bss.nil w'⟩, hb⟩
def Gf.unitL (n : Int) : List (List UInt8) := if 1 ≤ n ∧ n ≤ 255 then mat n.toNat n.toNat Gf.one else []
def Gf.unitE (n : Int) : Int := if 1 ≤ n ∧ n ≤ 255 then 0 else 1
theorem unit_all (n : Int) (w : World) : Calls Tryz.prog 112 #[.int .i64 n] w (MRes (Gf.unitL n) (Gf.unitE n) w) := by
  by_cases h : 1 ≤ n ∧ n ≤ 255
  · obtain ⟨k, rfl⟩ : ∃ k : Nat, n = (k : Int) := ⟨n.toNat, by omega⟩
    unfold Gf.unitL Gf.unitE
    rw [if_pos h, if_pos h]
    exact (unit_any k w (by omega) (by omega)).mono fun e w' ⟨⟨g, bl, h1, h2⟩, hb⟩ => ⟨⟨_, _, _, h1, h2.bss (Nat.le_refl _) (by simp only [maxLen]; omega) (by simp only [maxLen]; omega)⟩, hb⟩
  · unfold Gf.unitL Gf.unitE
    rw [if_neg h, if_neg h]
    exact (unit_err n w h).mono fun e w' ⟨h1, h2⟩ => nil_res h1 (h2 ▸ Below.refl _ _)
instance (r c : Int) : Decidable (Gf.CauFit r c) := decidable_of_iff (1 ≤ r ∧ 1 ≤ c ∧ r + c ≤ 256) ⟨fun h => ⟨h.1, h.2.1, h.2.2⟩, fun h => ⟨h.1, h.2, h.3⟩⟩
def Gf.cauL (r c : Int) : List (List UInt8) := if Gf.CauFit r c then mat r.toNat c.toNat (Gf.cau c.toNat) else []
def Gf.cauE (r c : Int) : Int := if Gf.CauFit r c then 0 else 1
theorem cauchy_all (r c : Int) (w : World) (hr : -9223372036854775808 ≤ r ∧ r ≤ 9223372036854775807) (hc : -9223372036854775808 ≤ c ∧ c ≤ 9223372036854775807) : Calls Tryz.prog 56 #[.int .i64 r, .int .i64 c] w (MRes (Gf.cauL r c) (Gf.cauE r c) w) := by
  by_cases h : Gf.CauFit r c
  · have := h.1; have := h.2; have := h.3
    obtain ⟨R, rfl⟩ : ∃ k : Nat, r = (k : Int) := ⟨r.toNat, by omega⟩
    obtain ⟨C, rfl⟩ : ∃ k : Nat, c = (k : Int) := ⟨c.toNat, by omega⟩
    unfold Gf.cauL Gf.cauE
    rw [if_pos h, if_pos h]
    exact (cauchy_any R C w (by omega) (by omega) (by omega)).mono fun e w' ⟨⟨g, bl, h1, h2⟩, hb⟩ => ⟨⟨_, _, _, h1, h2.bss (Nat.le_refl _) (by simp only [maxLen]; omega) (by simp only [maxLen]; omega)⟩, hb⟩
  · unfold Gf.cauL Gf.cauE
    rw [if_neg h, if_neg h]
    exact (cauchy_err r c w h hr hc).mono fun e w' ⟨h1, h2⟩ => nil_res h1 h2
theorem refcauchy_all (r c : Int) (w : World) (hr : -9223372036854775808 ≤ r ∧ r ≤ 9223372036854775807) (hc : -9223372036854775808 ≤ c ∧ c ≤ 9223372036854775807) : Calls Tryz.prog 108 #[.int .i64 r, .int .i64 c] w (MRes (Gf.cauL r c) (Gf.cauE r c) w) := by
  by_cases h : Gf.CauFit r c
  · have := h.1; have := h.2; have := h.3
    obtain ⟨R, rfl⟩ : ∃ k : Nat, r = (k : Int) := ⟨r.toNat, by omega⟩
    obtain ⟨C, rfl⟩ : ∃ k : Nat, c = (k : Int) := ⟨c.toNat, by omega⟩
    unfold Gf.cauL Gf.cauE
    rw [if_pos h, if_pos h]
    exact (refcauchy_any R C w (by omega) (by omega) (by omega)).mono fun e w' h => h.res
  · unfold Gf.cauL Gf.cauE
    rw [if_neg h, if_neg h]
    exact (refcauchy_err r c w h hr hc).mono fun e w' ⟨h1, h2⟩ => nil_res h1 (h2 ▸ Below.refl _ _)
end Go.Proofs.YtfgifndpglgjkaaGreatDoor

/- gf's Times. -/
namespace Go.Proofs.YtfgifndpglgjkaaGreatDoor
open Go.RowKit Go.Deep

def at2 (ls : List (List UInt8)) (i j : Nat) : UInt8 := nth (nth ls i) j
theorem Bss.at2 {w : World} {a : Option Addr} {n c : Nat} {ls : List (List UInt8)} (h : Bss w a n c ls) {i j : Nat} (hi : i < n) (hj : j < (nth ls i).length) :
    ∃ b off ci b2 off2, a = some ⟨b, off, none⟩ ∧ w.cell? ⟨b, off + i, none⟩ = some (.slice (some ⟨b2, off2, none⟩) (nth ls i).length ci) ∧ w.cell? ⟨b2, off2 + j, none⟩ = some (.int .u8 (n8 (at2 ls i j))) := by
  obtain ⟨b, off, ai, ni, ci, h1, h2, h3⟩ := h.get hi
  have e := h3.1
  subst e
  obtain ⟨b2, off2, rfl, h4⟩ := h3.byte hj
  exact ⟨b, off, ci, b2, off2, h1, h2, h4⟩
theorem right_spec {ls : List (List UInt8)} (h : Gf.right ls = true) : 1 ≤ ls.length ∧ ls.length ≤ 255 ∧ 1 ≤ (nth ls 0).length ∧ (nth ls 0).length ≤ 255 ∧ ∀ k, k < ls.length → (nth ls k).length = (nth ls 0).length := by
  unfold Gf.right at h; exact of_decide_eq_true h
theorem right_yes {a : Option Addr} {n c : Nat} {ls : List (List UInt8)} {w : World} (hr : Gf.right ls = true) (h : Bss w a n c ls) :
    Calls Tryz.prog 129 #[.slice a n c] w fun e w' => e = .returned (.bool true) ∧ Below w.heap.size w w' := by rw [← hr]; exact right_any a n c ls w h
theorem right_no {a : Option Addr} {n c : Nat} {ls : List (List UInt8)} {w : World} (hr : Gf.right ls = false) (h : Bss w a n c ls) :
    Calls Tryz.prog 129 #[.slice a n c] w fun e w' => e = .returned (.bool false) ∧ Below w.heap.size w w' := by rw [← hr]; exact right_any a n c ls w h
theorem mul_q (a b : UInt8) (w : World) : Calls Tryz.prog 115 #[.int .u8 (n8 a), .int .u8 (n8 b)] w fun e w' => e = .returned (.int .u8 (n8 (Gf.mul a b))) ∧ w' = w := (mul_any a b w).mono fun _ _ ⟨h1, h2⟩ => ⟨h1, h2.symm⟩
theorem add_q (a b : UInt8) (w : World) : Calls Tryz.prog 93 #[.int .u8 (n8 a), .int .u8 (n8 b)] w fun e w' => e = .returned (.int .u8 (n8 (a ^^^ b))) ∧ w' = w := (add_any a b w).mono fun _ _ ⟨h1, h2⟩ => ⟨h1, h2.symm⟩

def Gf.timesOk (m o : List (List UInt8)) : Bool := Gf.right m && Gf.right o && decide ((nth m 0).length = o.length)
def Gf.timesL (m o : List (List UInt8)) : List (List UInt8) := if Gf.timesOk m o = true then mat m.length (nth o 0).length (fun i j => Gf.sm o.length (fun k => Gf.mul (at2 m i k) (at2 o k j))) else []
def Gf.timesE (m o : List (List UInt8)) : Int := if Gf.timesOk m o = true then 0 else 1
theorem times_bad {m o : List (List UInt8)} (h : Gf.timesOk m o = false) : Gf.timesL m o = [] ∧ Gf.timesE m o = 1 := by
  unfold Gf.timesL Gf.timesE; rw [h]; exact ⟨rfl, rfl⟩
theorem times_good {m o : List (List UInt8)} (h : Gf.timesOk m o = true) : Gf.timesL m o = mat m.length (nth o 0).length (fun i j => Gf.sm o.length (fun k => Gf.mul (at2 m i k) (at2 o k j))) ∧ Gf.timesE m o = 0 := by
  unfold Gf.timesL Gf.timesE; rw [if_pos h, if_pos h]; exact ⟨rfl, rfl⟩
/-- A matrix of the call's own is told, or nil. -/
def MOwn (ls : List (List UInt8)) (er : Int) (w : World) (e : Ending) (w' : World) : Prop :=
  (∃ a n c, e = .returned (.tuple #[.slice a n c, .int .i64 er]) ∧ Bss w' a n c ls ∧ ((a = none ∧ n = 0) ∨ ∃ g C bl cp Z, a = some ⟨g, 0, none⟩ ∧ My w' w.heap.size g n C bl cp Z ∧ ls = mat n C Z)) ∧ Below w.heap.size w w'
theorem MOwn.res {ls : List (List UInt8)} {er : Int} {w w' : World} {e : Ending} (h : MOwn ls er w e w') : MRes ls er w e w' := by
  obtain ⟨⟨a, n, c, h1, h2, _⟩, hb⟩ := h
  exact ⟨⟨a, n, c, h1, h2⟩, hb⟩
theorem nil_own {w w' : World} {e : Ending} {er : Int} (h : e = .returned (.tuple #[.slice none 0 0, .int .i64 er])) (hb : Below w.heap.size w w') : MOwn [] er w e w' :=
  ⟨⟨_, _, _, h, Bss.nil w', .inl ⟨rfl, rfl⟩⟩, hb⟩
theorem Mx.own {w w' W : World} {g n C : Nat} {bl : Nat → Nat} {Z : Nat → Nat → UInt8} {er : Int} (h : Mx w' W.heap.size g n C bl Z) (hW : w.heap.size ≤ W.heap.size) (hn : n ≤ 255) (hC : C ≤ 255) (hb : Below w.heap.size w w') :
    MOwn (mat n C Z) er w (.returned (.tuple #[.slice (some ⟨g, 0, none⟩) n n, .int .i64 er])) w' :=
  ⟨⟨_, _, _, rfl, h.bss (Nat.le_refl _) (by simp only [maxLen]; omega) (by simp only [maxLen]; omega), .inr ⟨g, C, bl, _, Z, rfl, (h.mono hW).my (by simp only [maxLen]; omega), rfl⟩⟩, hb⟩
theorem MOwn.of_eq {ls ls' : List (List UInt8)} {er er' : Int} {w w' : World} {e : Ending} (h : MOwn ls er w e w') (h1 : ls = ls') (h2 : er = er') : MOwn ls' er' w e w' := by subst h1; subst h2; exact h

end Go.Proofs.YtfgifndpglgjkaaGreatDoor

/- The reference's Times. -/
namespace Go.Proofs.YtfgifndpglgjkaaGreatDoor
open Go.RowKit Go.Deep

theorem refmul_q (a b : UInt8) (w : World) : Calls Tryz.prog 109 #[.int .u8 (n8 a), .int .u8 (n8 b)] w fun e w' => e = .returned (.int .u8 (n8 (Gf.mul a b))) ∧ w' = w := (refmul_any a b w).mono fun _ _ ⟨h1, h2⟩ => ⟨h1, h2.symm⟩

/-- The product while it is made: rows before i, of row i the columns before j, of that place k terms. -/
def Gf.part (f : Nat → Nat → Nat → UInt8) (K i j k : Nat) : Nat → Nat → UInt8 := fun r c => if r < i ∨ r = i ∧ c < j then Gf.sm K (f r c) else if r = i ∧ c = j then Gf.sm k (f r c) else 0
theorem part_row (f : Nat → Nat → Nat → UInt8) (K C i : Nat) (r c : Nat) (hc : c < C) : Gf.part f K i C 0 r c = Gf.part f K (i + 1) 0 0 r c := by
  unfold Gf.part
  by_cases h1 : r < i
  · simp [h1, Nat.lt_succ_of_lt h1]
  · by_cases h2 : r = i
    · simp [h2, hc]
    · simp [h1, h2, Gf.sm]; omega
theorem part_col (f : Nat → Nat → Nat → UInt8) (K i j : Nat) (r c : Nat) : Gf.part f K i j K r c = Gf.part f K i (j + 1) 0 r c := by
  unfold Gf.part
  by_cases h1 : r < i
  · simp [h1]
  · by_cases h2 : r = i
    · by_cases h3 : c < j
      · simp [h2, h3, Nat.lt_succ_of_lt h3]
      · by_cases h4 : c = j
        · simp [h2, h4]
        · simp [h2, h3, h4, Gf.sm]; omega
    · simp [h1, h2]
theorem part_term (f : Nat → Nat → Nat → UInt8) (K i j k : Nat) (r c : Nat) : (if r = i ∧ c = j then Gf.part f K i j k i j ^^^ f i j k else Gf.part f K i j k r c) = Gf.part f K i j (k + 1) r c := by
  unfold Gf.part
  by_cases h : r = i ∧ c = j
  · obtain ⟨rfl, rfl⟩ := h
    simp [Gf.sm]
  · simp [h]
theorem part_zero (f : Nat → Nat → Nat → UInt8) (K : Nat) (r c : Nat) : Gf.part f K 0 0 0 r c = 0 := by
  unfold Gf.part; simp [Gf.sm]
theorem part_full (f : Nat → Nat → Nat → UInt8) (K R : Nat) (r c : Nat) (hr : r < R) : Gf.part f K R 0 0 r c = Gf.sm K (f r c) := by
  unfold Gf.part; simp [hr]

theorem refres_nil {w w' : World} {er : Int} (q : Nat) (h : w' = w.drewN q) : MOwn [] er w (.returned (.tuple #[.slice none 0 0, .int .i64 er])) w' :=
  nil_own rfl (h ▸ below_drewN (Below.refl _ _) q)
end Go.Proofs.YtfgifndpglgjkaaGreatDoor

/- Apply: gf's and the reference's. -/
namespace Go.Proofs.YtfgifndpglgjkaaGreatDoor
open Go.RowKit Go.Deep

def Gf.applyOk (m : List (List UInt8)) (v : List UInt8) : Bool := Gf.right m && decide (v.length = (nth m 0).length)
def Gf.applyL (m : List (List UInt8)) (v : List UInt8) : List UInt8 := if Gf.applyOk m v = true then (List.range m.length).map (fun i => Gf.sm v.length (fun k => Gf.mul (at2 m i k) (nth v k))) else []
def Gf.applyE (m : List (List UInt8)) (v : List UInt8) : Int := if Gf.applyOk m v = true then 0 else 1
theorem apply_bad {m : List (List UInt8)} {v : List UInt8} (h : Gf.applyOk m v = false) : Gf.applyL m v = [] ∧ Gf.applyE m v = 1 := by
  unfold Gf.applyL Gf.applyE; rw [h]; exact ⟨rfl, rfl⟩
theorem apply_good {m : List (List UInt8)} {v : List UInt8} (h : Gf.applyOk m v = true) : Gf.applyL m v = (List.range m.length).map (fun i => Gf.sm v.length (fun k => Gf.mul (at2 m i k) (nth v k))) ∧ Gf.applyE m v = 0 := by
  unfold Gf.applyL Gf.applyE; rw [if_pos h, if_pos h]; exact ⟨rfl, rfl⟩
/-- Bytes and an error are told. -/
def VRes (l : List UInt8) (er : Int) (w : World) (e : Ending) (w' : World) : Prop :=
  (∃ a n c, e = .returned (.tuple #[.slice a n c, .int .i64 er]) ∧ Bs w' a n c l) ∧ Below w.heap.size w w'
theorem nil_vres {w w' : World} {er : Int} (hb : Below w.heap.size w w') : VRes [] er w (.returned (.tuple #[.slice none 0 0, .int .i64 er])) w' := ⟨⟨_, _, _, rfl, Bs.nil w'⟩, hb⟩

theorem at2_mat {n C : Nat} {Z : Nat → Nat → UInt8} {i j : Nat} (hi : i < n) (hj : j < C) : at2 (mat n C Z) i j = Z i j := by
  unfold at2
  rw [mat_row hi, nth_eq _ (by simpa using hj)]
  simp
theorem right_mat {n C : Nat} {Z : Nat → Nat → UInt8} (h1 : 1 ≤ n) (h2 : n ≤ 255) (h3 : 1 ≤ C) (h4 : C ≤ 255) : Gf.right (mat n C Z) = true :=
  right_eq (mat_len _ _ _) (n0 := C) (by rw [mat_row (by omega)]; simp) h1 h2 h3 h4 (fun k hk => by rw [mat_row hk]; simp)
theorem flatten_ones {α β : Type} (f : α → β) : ∀ l : List α, (l.map fun i => [f i]).flatten = l.map f
  | [] => rfl
  | a :: l => by simp only [List.map_cons, List.flatten_cons, flatten_ones f l]; rfl
theorem apply_times {m : List (List UInt8)} {v : List UInt8} (h : Gf.applyOk m v = true) (hv : v.length ≤ 255) :
    (Gf.timesL m (mat v.length 1 (fun i _ => nth v i))).flatten = Gf.applyL m v ∧ tot (Gf.timesL m (mat v.length 1 (fun i _ => nth v i))) ≤ 255 := by
  have h' := h
  unfold Gf.applyOk at h'
  rw [Bool.and_eq_true, decide_eq_true_eq] at h'
  obtain ⟨r1, r2, r3, r4, r5⟩ := right_spec h'.1
  have ht : Gf.timesOk m (mat v.length 1 (fun i _ => nth v i)) = true := by
    unfold Gf.timesOk
    rw [h'.1, right_mat (by omega) (by omega) (by omega) (by omega), mat_len, ← h'.2]
    simp
  have e : Gf.timesL m (mat v.length 1 (fun i _ => nth v i)) = (List.range m.length).map (fun i => [Gf.sm v.length (fun k => Gf.mul (at2 m i k) (nth v k))]) := by
    rw [(times_good ht).1, mat_len, mat_row (by omega)]
    simp only [List.length_map, List.length_range, mat]
    apply List.map_congr_left
    intro i hi
    show [_] = [_]
    congr 1
    apply Gf.sm_congr
    intro k hk
    rw [show at2 _ k 0 = nth v k from at2_mat hk (by omega)]
  have e2 : ((List.range m.length).map (fun i => [Gf.sm v.length (fun k => Gf.mul (at2 m i k) (nth v k))])).flatten = (List.range m.length).map (fun i => Gf.sm v.length (fun k => Gf.mul (at2 m i k) (nth v k))) := by
    exact flatten_ones _ _
  unfold tot
  rw [e, e2, (apply_good h).1]
  exact ⟨rfl, by simp; omega⟩

end Go.Proofs.YtfgifndpglgjkaaGreatDoor

/- gf's Rows. -/
namespace Go.Proofs.YtfgifndpglgjkaaGreatDoor
open Go.RowKit Go.Deep

def Gf.rowsOk (m : List (List UInt8)) (n : List Int) : Bool := Gf.right m && decide (1 ≤ n.length ∧ n.length ≤ 255 ∧ ∀ i, i < n.length → 0 ≤ nth n i ∧ nth n i < m.length)
def Gf.rowsL (m : List (List UInt8)) (n : List Int) : List (List UInt8) := if Gf.rowsOk m n = true then mat n.length (nth m 0).length (fun i j => at2 m (nth n i).toNat j) else []
def Gf.rowsE (m : List (List UInt8)) (n : List Int) : Int := if Gf.rowsOk m n = true then 0 else 1
theorem rows_bad {m : List (List UInt8)} {v : List Int} (h : Gf.rowsOk m v = false) : Gf.rowsL m v = [] ∧ Gf.rowsE m v = 1 := by
  unfold Gf.rowsL Gf.rowsE; rw [h]; exact ⟨rfl, rfl⟩
theorem rows_good {m : List (List UInt8)} {v : List Int} (h : Gf.rowsOk m v = true) : Gf.rowsL m v = mat v.length (nth m 0).length (fun i j => at2 m (nth v i).toNat j) ∧ Gf.rowsE m v = 0 := by
  unfold Gf.rowsL Gf.rowsE; rw [if_pos h, if_pos h]; exact ⟨rfl, rfl⟩
end Go.Proofs.YtfgifndpglgjkaaGreatDoor

/- Rows that are turned in place: scale, plus, mix. -/
namespace Go.Proofs.YtfgifndpglgjkaaGreatDoor
open Go.RowKit Go.Deep

theorem rowTo.onl {w w' : World} {b : Nat} {t : TypeId} {n : Nat} {f : Nat → Value} {S : Nat → Prop} (h : rowTo w b t n f) (k : Onl w w' S) (hb : ¬ S b) : rowTo w' b t n f := h.of_block (k.block b h.lt hb)
namespace My
variable {w w' : World} {B g n C : Nat} {bl cp : Nat → Nat} {Z : Nat → Nat → UInt8} {S : Nat → Prop}
theorem onl (h : My w B g n C bl cp Z) (k : Onl w w' S) (hg : ¬ S g) (hr : ∀ i, i < n → ¬ S (bl i)) : My w' B g n C bl cp Z :=
  ⟨h.base, h.top.onl k hg, fun i hi => ⟨(h.row i hi).1, (h.row i hi).2.1, (h.row i hi).2.2.onl k (hr i hi)⟩, h.cap, h.apart⟩
/-- One row is another one. -/
theorem turn (h : My w B g n C bl cp Z) {i : Nat} (hi : i < n) (k : Onl w w' (· = bl i)) {F : Nat → UInt8} (hF : rowTo w' (bl i) 5 C (fun j => .int .u8 (n8 (F j)))) :
    My w' B g n C bl cp (fun r => if r = i then F else Z r) := by
  refine ⟨h.base, h.top.onl k (fun e => (h.row i hi).2.1 e.symm), fun r hr => ⟨(h.row r hr).1, (h.row r hr).2.1, ?_⟩, h.cap, h.apart⟩
  by_cases e : r = i
  · subst e
    simp only [if_true]
    exact hF
  · simp only [if_neg e]
    exact (h.row r hr).2.2.onl k (fun e' => e (h.apart r i hr hi e'))
/-- Two rows change places. -/
theorem swap (h : My w B g n C bl cp Z) {i p : Nat} (hi : i < n) (hp : p < n) (k : Onl w w' (· = g))
    (hF : rowTo w' g 25 n (fun r => if r = p then .slice (some ⟨bl i, 0, none⟩) C (cp i) else if r = i then .slice (some ⟨bl p, 0, none⟩) C (cp p) else .slice (some ⟨bl r, 0, none⟩) C (cp r))) :
    My w' B g n C (fun r => if r = p then bl i else if r = i then bl p else bl r) (fun r => if r = p then cp i else if r = i then cp p else cp r) (Gf.swapR Z i p) := by
  refine ⟨h.base, hF.congr (fun r _ => by split <;> (try split) <;> rfl), fun r hr => ?_, fun r hr => ?_, fun r s hr hs e => ?_⟩
  · have g1 := h.row r hr
    have g2 := h.row i hi
    have g3 := h.row p hp
    simp only [Gf.swapR]
    by_cases e1 : r = p
    · subst e1
      by_cases e2 : r = i
      · subst e2; simp only [if_true]; exact ⟨g1.1, g1.2.1, g1.2.2.onl k g1.2.1⟩
      · simp only [if_true, if_neg e2]; exact ⟨g2.1, g2.2.1, g2.2.2.onl k g2.2.1⟩
    · by_cases e2 : r = i
      · subst e2; simp only [if_true, if_neg e1]; exact ⟨g3.1, g3.2.1, g3.2.2.onl k g3.2.1⟩
      · simp only [if_neg e1, if_neg e2]; exact ⟨g1.1, g1.2.1, g1.2.2.onl k g1.2.1⟩
  · split
    · exact h.cap i hi
    · split
      · exact h.cap p hp
      · exact h.cap r hr
  · have er : ∀ r, (if r = p then bl i else if r = i then bl p else bl r) = bl (if r = p then i else if r = i then p else r) := by
      intro r; split
      · rfl
      · split <;> rfl
    have sb : ∀ r, r < n → (if r = p then i else if r = i then p else r) < n := by
      intro r hr; split
      · exact hi
      · split
        · exact hp
        · exact hr
    have e2 := h.apart _ _ (sb r hr) (sb s hs) (by rw [← er r, ← er s]; exact e)
    split at e2 <;> split at e2 <;> (try split at e2) <;> (try split at e2) <;> omega
end My

/-- A row while it is turned. -/
def turning (k : Nat) (F G : Nat → UInt8) : Nat → UInt8 := fun j => if j < k then G j else F j
theorem turning_step {w : World} {b k C : Nat} {F G : Nat → UInt8} (h : rowTo w b 5 C (fun j => .int .u8 (n8 (turning k F G j)))) :
    rowTo (w.setCell ⟨b, k, none⟩ (.int .u8 (n8 (G k)))) b 5 C (fun j => .int .u8 (n8 (turning (k + 1) F G j))) := by
  refine (h.set k _).congr fun j hj => ?_
  show (if j = k then _ else Value.int .u8 (n8 (if j < k then G j else F j))) = .int .u8 (n8 (if j < k + 1 then G j else F j))
  by_cases e : j = k
  · simp [e]
  · by_cases e2 : j < k
    · rw [if_neg e, if_pos e2, if_pos (by omega)]
    · rw [if_neg e, if_neg e2, if_neg (by omega)]
theorem turning_zero (F G : Nat → UInt8) (j : Nat) : turning 0 F G j = F j := by simp [turning]
theorem turning_all {C : Nat} (F G : Nat → UInt8) {j : Nat} (h : j < C) : turning C F G j = G j := by simp [turning, h]
theorem turning_at {k : Nat} (F G : Nat → UInt8) : turning k F G k = F k := by simp [turning]
def RowP (b C : Nat) (G : Nat → UInt8) (w : World) (e : Ending) (w' : World) : Prop :=
  e = .returned (.tuple #[]) ∧ Onl w w' (· = b) ∧ rowTo w' b 5 C (fun j => .int .u8 (n8 (G j)))

set_option maxHeartbeats 1000000 in
theorem scale_any (b C cb : Nat) (F : Nat → UInt8) (x : UInt8) (w : World) (h : rowTo w b 5 C (fun j => .int .u8 (n8 (F j)))) (hC : C ≤ 255) :
    Calls Tryz.prog 136 #[.slice (some ⟨b, 0, none⟩) C cb, .int .u8 (n8 x)] w (RowP b C (fun j => Gf.mul (F j) x) w) := by
  have H := Lib.hid h
  clear h
  go_enter Tryz.func136, Tryz.ntmps136
  go_wp2
  go_loopw [7] (fun i wr => ∃ k : Nat, k ≤ C ∧ i = .int .i64 k ∧ Onl w wr (· = b) ∧ rowTo wr b 5 C (fun j => .int .u8 (n8 (turning k F (fun j => Gf.mul (F j) x) j)))) (fun i _ => C - (intOf i).toNat)
  case atStart => exact ⟨0, by omega, rfl, Onl.refl _ _, H.out.congr (fun j _ => by rw [turning_zero])⟩
  case round =>
    obtain ⟨k, hk, rfl, ho, hr⟩ := hrel
    by_cases hlt : k < C
    · have c1 := hr.cell hlt
      rw [turning_at] at c1
      have c2 := hr.frozen k
      have HR := Lib.hid (turning_step hr)
      have HO := Lib.hid (ho.set (a := ⟨b, k, none⟩) rfl (.int .u8 (n8 (Gf.mul (F k) x))))
      clear hr ho
      go_wp2_with (go_at_call 115; refine (mul_any _ _ _).mono ?_; rintro e w' ⟨rfl, rfl⟩)
      go_roundw
      case rel => exact ⟨k + 1, by omega, by go_num, HO.out, HR.out⟩
      case measure => simp [intOf]; omega
    · obtain rfl : k = C := by omega
      have HP : Hid (RowP b k (fun j => Gf.mul (F j) x) w (.returned (.tuple #[])) wr) := Lib.hid ⟨rfl, ho, hr.congr (fun j hj => by rw [turning_all _ _ hj])⟩
      clear hr ho
      go_wp2
      go_end0
      exact HP.out
end Go.Proofs.YtfgifndpglgjkaaGreatDoor
