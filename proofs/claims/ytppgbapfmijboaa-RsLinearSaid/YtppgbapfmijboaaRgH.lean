/- The reference's Right, blank, Unit, Cauchy: matrices that grow by append. -/
import Derived.Test.YtppgbapfmijboaaRgF
import Derived.Test.YtppgbapfmijboaaRows2
namespace Go.Proofs.Ytppgbapfmijboaa
open Go.RowKit Go.Deep

theorem right_eq {ls : List (List UInt8)} {n n0 : Nat} (hl : ls.length = n) (h0 : (nth ls 0).length = n0) (h1 : 1 ≤ n) (h2 : n ≤ 255) (h3 : 1 ≤ n0) (h4 : n0 ≤ 255) (h : ∀ k, k < n → (nth ls k).length = n0) : Gf.right ls = true := by
  unfold Gf.right; rw [hl, h0]; exact decide_eq_true ⟨h1, h2, h3, h4, h⟩
set_option maxHeartbeats 2000000 in
theorem refright_any (a : Option Addr) (n c : Nat) (ls : List (List UInt8)) (w : World) (h : Bss w a n c ls) :
    Calls Try.prog 75 #[.slice a n c] w fun e w' => e = .returned (.bool (Gf.right ls)) ∧ ∃ q, w' = w.drewN q := by
  have hl := h.1
  have hle := h.le.1
  obtain ⟨ai, ci, hv⟩ := h.vals
  by_cases h1 : n < 1
  · have t1 : decide ((n : Int) < 1) = true := decide_eq_true (by omega)
    rw [right_ne hl (by omega)]
    clear hv h1 hl
    go_enter Try.func75, Try.ntmps75
    go_wp2
    go_ret
    exact ⟨rfl, 0, rfl⟩
  have t1 : decide ((n : Int) < 1) = false := decide_eq_false (by omega)
  by_cases h2 : 255 < n
  · have t2 : decide ((255 : Int) < (n : Int)) = true := decide_eq_true (by omega)
    rw [right_ne hl (by omega)]
    clear hv h1 h2 hl
    go_enter Try.func75, Try.ntmps75
    go_wp2
    go_ret
    exact ⟨rfl, 0, rfl⟩
  have t2 : decide ((255 : Int) < (n : Int)) = false := decide_eq_false (by omega)
  obtain ⟨bo, off, e0, c0⟩ := (hv 0 (by omega)).1
  subst e0
  rw [Nat.add_zero] at c0
  have hn0 : 0 < n := by omega
  generalize hn0' : (nth ls 0).length = n0 at *
  by_cases h3 : n0 < 1
  · have t3 : decide ((n0 : Int) < 1) = true := decide_eq_true (by omega)
    rw [right_ne hl (by omega)]
    clear hv h1 h2 h3 hl hn0'
    go_enter Try.func75, Try.ntmps75
    go_wp2
    go_ret
    exact ⟨rfl, 0, rfl⟩
  have t3 : decide ((n0 : Int) < 1) = false := decide_eq_false (by omega)
  by_cases h4 : 255 < n0
  · have t4 : decide ((255 : Int) < (n0 : Int)) = true := decide_eq_true (by omega)
    rw [right_ne hl (by omega)]
    clear hv h1 h2 h3 h4 hl hn0'
    go_enter Try.func75, Try.ntmps75
    go_wp2
    go_ret
    exact ⟨rfl, 0, rfl⟩
  have t4 : decide ((255 : Int) < (n0 : Int)) = false := decide_eq_false (by omega)
  have HV := Lib.hid hv
  have HL := Lib.hid hl
  have H0 := Lib.hid hn0'
  have hn4 : n0 ≤ 255 ∧ 1 ≤ n0 := by omega
  have hN : n ≤ 255 := by omega
  have hn5 : n0 ≤ 9223372036854775807 := by omega
  clear hv hl hn0' h1 h2 h3 h4
  go_enter Try.func75, Try.ntmps75
  go_wp2
  go_loopw [3] (fun i wr => ∃ k q : Nat, 1 ≤ k ∧ k ≤ n ∧ i = .int .i64 k ∧ wr = w.drewN q ∧ Hid (∀ j, j < k → (nth ls j).length = n0)) (fun i _ => n - (intOf i).toNat)
  case atStart => exact ⟨1, 0, by omega, by omega, rfl, rfl, Lib.hid (fun j hj => by
    obtain rfl : j = 0 := by omega
    exact H0.out)⟩
  case round =>
    obtain ⟨k, q, hk1, hk, rfl, rfl, hall⟩ := hrel
    by_cases hlt : k < n
    · obtain ⟨b, off', e, hc⟩ := (HV.out k hlt).1
      cases e
      by_cases he : (nth ls k).length = n0
      · have HE := Lib.hid he
        rw [he] at hc
        clear he
        have t : ((n0 : Int) != (n0 : Int)) = false := by simp
        go_wp2_with fail
        go_quiet (fail)
        go_wp2
        go_roundw
        case rel => exact ⟨k + 1, _, by omega, by omega, by go_num, rfl, Lib.hid (fun j hj => by
            by_cases e : j = k
            · rw [e]; exact HE.out
            · exact hall.out j (by omega))⟩
        case measure => simp [intOf]; omega
      · have e1 : Gf.right ls = false := by
          unfold Gf.right
          exact decide_eq_false (fun g => he (by rw [g.2.2.2.2 k (by rw [HL.out]; exact hlt), H0.out]))
        have E1 := Lib.hid e1
        have t : (((nth ls k).length : Int) != (n0 : Int)) = true := by simp; omega
        have hlk : (nth ls k).length ≤ 9223372036854775807 := ((HV.out k hlt).2.le).1
        generalize (nth ls k).length = m at *
        clear e1 he
        go_wp2_with fail
        go_quiet (fail)
        go_wp2
        go_ret
        exact ⟨by rw [E1.out]; rfl, q + nq, World.drewN_drewN _ _ _⟩
    · obtain rfl : k = n := by omega
      have E1 := Lib.hid (right_eq HL.out H0.out hk1 hN hn4.2 hn4.1 hall.out)
      go_wp2
      go_ret
      exact ⟨by rw [E1.out]; rfl, _, rfl⟩

/-- Matrices of the call's own whose rows may have room behind them. -/
structure My (w : World) (B g n C : Nat) (bl cp : Nat → Nat) (Z : Nat → Nat → UInt8) : Prop where
  base : B ≤ g
  top : rowTo w g 22 n (fun i => .slice (some ⟨bl i, 0, none⟩) C (cp i))
  row : ∀ i, i < n → B ≤ bl i ∧ bl i ≠ g ∧ rowTo w (bl i) 5 C (fun j => .int .u8 (n8 (Z i j)))
  cap : ∀ i, i < n → C ≤ cp i ∧ cp i ≤ maxLen
  apart : ∀ i j, i < n → j < n → bl i = bl j → i = j
theorem Mx.my {w : World} {B g n C : Nat} {bl : Nat → Nat} {Z : Nat → Nat → UInt8} (h : Mx w B g n C bl Z) (hC : C ≤ maxLen) : My w B g n C bl (fun _ => C) Z :=
  ⟨h.base, h.top, h.row, fun _ _ => ⟨Nat.le_refl _, hC⟩, h.apart⟩
namespace My
variable {w : World} {B g n C : Nat} {bl cp : Nat → Nat} {Z : Nat → Nat → UInt8}
theorem below {w' : World} (h : My w B g n C bl cp Z) (hb : Below w.heap.size w w') : My w' B g n C bl cp Z :=
  ⟨h.base, h.top.below hb, fun i hi => ⟨(h.row i hi).1, (h.row i hi).2.1, (h.row i hi).2.2.below hb⟩, h.cap, h.apart⟩
theorem mono {B' : Nat} (h : My w B g n C bl cp Z) (hB : B' ≤ B) : My w B' g n C bl cp Z :=
  ⟨Nat.le_trans hB h.base, h.top, fun i hi => ⟨Nat.le_trans hB (h.row i hi).1, (h.row i hi).2⟩, h.cap, h.apart⟩
theorem drewN (h : My w B g n C bl cp Z) (q : Nat) : My (w.drewN q) B g n C bl cp Z := h.below (below_drewN (Below.refl _ _) q)
theorem drew (h : My w B g n C bl cp Z) : My w.drew B g n C bl cp Z := h.below (Below.refl _ _).drew
theorem congr {Y : Nat → Nat → UInt8} (h : My w B g n C bl cp Z) (e : ∀ i j, i < n → j < C → Z i j = Y i j) : My w B g n C bl cp Y :=
  ⟨h.base, h.top, fun i hi => ⟨(h.row i hi).1, (h.row i hi).2.1, (h.row i hi).2.2.congr fun j hj => by rw [e i j hi hj]⟩, h.cap, h.apart⟩
theorem set (h : My w B g n C bl cp Z) {i : Nat} (hi : i < n) (j : Nat) (v : UInt8) : My (w.setCell ⟨bl i, j, none⟩ (.int .u8 (n8 v))) B g n C bl cp (fun r c => if r = i ∧ c = j then v else Z r c) := by
  refine ⟨h.base, h.top.setOther (fun e => (h.row i hi).2.1 e.symm) _, fun r hr => ⟨(h.row r hr).1, (h.row r hr).2.1, ?_⟩, h.cap, h.apart⟩
  by_cases e : r = i
  · subst e
    refine ((h.row r hr).2.2.set j _).congr fun c hc => ?_
    by_cases ec : c = j
    · simp [ec]
    · simp [ec]
  · refine ((h.row r hr).2.2.setOther (fun e' => e (h.apart r i hr hi e')) _).congr fun c hc => ?_
    simp [e]
theorem setOut {g' j : Nat} (h : My w B g n C bl cp Z) (hg : g' ≠ g) (hr : ∀ i, i < n → bl i ≠ g') (v : Value) : My (w.setCell ⟨g', j, none⟩ v) B g n C bl cp Z :=
  ⟨h.base, h.top.setOther (fun e => hg e.symm) _, fun i hi => ⟨(h.row i hi).1, (h.row i hi).2.1, (h.row i hi).2.2.setOther (hr i hi) _⟩, h.cap, h.apart⟩
/-- Two rows change places. -/
theorem bss {c : Nat} (h : My w B g n C bl cp Z) (hc : n ≤ c) (hm : c ≤ maxLen) : Bss w (some ⟨g, 0, none⟩) n c (mat n C Z) := by
  refine ⟨mat_len _ _ _, hc, hm, fun i hi => ⟨g, 0, some ⟨bl i, 0, none⟩, C, cp i, rfl, by rw [Nat.zero_add]; exact h.top.cell hi, ?_⟩⟩
  rw [mat_row hi]
  refine ⟨by simp, (h.cap i hi).1, (h.cap i hi).2, fun j v hv => ?_⟩
  have hj : j < C := by
    rcases Nat.lt_or_ge j C with h' | h'
    · exact h'
    · rw [List.getElem?_eq_none (by simp [vs]; omega)] at hv; cases hv
  refine ⟨bl i, 0, rfl, ?_⟩
  rw [Nat.zero_add, (h.row i hi).2.2.cell hj]
  simp [vs, hj] at hv
  rw [hv]
end My

/-- While rows are appended. -/
structure Mo (w : World) (B : Nat) (a : Option Addr) (n c C : Nat) (bl cp : Nat → Nat) (Z : Nat → Nat → UInt8) : Prop where
  own : OwnV w B a n c ((List.range n).map fun i => .slice (some ⟨bl i, 0, none⟩) C (cp i))
  row : ∀ i, i < n → B ≤ bl i ∧ (∀ x, a = some x → bl i ≠ x.block) ∧ rowTo w (bl i) 5 C (fun j => .int .u8 (n8 (Z i j)))
  cap : ∀ i, i < n → C ≤ cp i ∧ cp i ≤ maxLen
  apart : ∀ i j, i < n → j < n → bl i = bl j → i = j
theorem Mo.nil (w : World) (B C : Nat) (bl cp : Nat → Nat) (Z : Nat → Nat → UInt8) : Mo w B none 0 0 C bl cp Z :=
  ⟨OwnV.nil w B, fun i hi => by omega, fun i hi => by omega, fun i j hi => by omega⟩
theorem Mo.below {w w' : World} {B n c C : Nat} {a : Option Addr} {bl cp : Nat → Nat} {Z : Nat → Nat → UInt8} (h : Mo w B a n c C bl cp Z) (hb : Below w.heap.size w w') : Mo w' B a n c C bl cp Z :=
  ⟨h.own.below hb, fun i hi => ⟨(h.row i hi).1, (h.row i hi).2.1, (h.row i hi).2.2.below hb⟩, h.cap, h.apart⟩
theorem own_top {w : World} {B n c : Nat} {a : Option Addr} {f : Nat → Value} (h : OwnV w B a n c ((List.range n).map f)) (hn : 0 < n) : ∃ g, a = some ⟨g, 0, none⟩ ∧ B ≤ g ∧ rowTo w g 22 n f := by
  have hl := h.len
  rcases h.2 with ⟨h1, h2⟩ | ⟨g, cap, cur, h1, h2, h3, h4, h5, h6, h7⟩
  · cases h1; omega
  · cases h1
    refine ⟨g, rfl, h2, cur, h3, by simp at h6; omega, fun i hi => ?_⟩
    have e : (List.take (n * 1) cur.toList)[i]? = ((List.range n).map f)[i]? := by rw [h7]
    rw [List.getElem?_take] at e
    simpa [hi] using e
theorem Mo.my {w : World} {B n c C : Nat} {a : Option Addr} {bl cp : Nat → Nat} {Z : Nat → Nat → UInt8} (h : Mo w B a n c C bl cp Z) (hn : 0 < n) : ∃ g, a = some ⟨g, 0, none⟩ ∧ My w B g n C bl cp Z := by
  obtain ⟨g, rfl, h1, h2⟩ := own_top h.own hn
  exact ⟨g, rfl, h1, h2, fun i hi => ⟨(h.row i hi).1, (h.row i hi).2.1 _ rfl, (h.row i hi).2.2⟩, h.cap, h.apart⟩
/-- The row in block b is appended. -/
theorem Mo.snoc {w w' : World} {B n c c' C b k : Nat} {a a' : Option Addr} {bl cp : Nat → Nat} {Z : Nat → Nat → UInt8} (h : Mo w B a n c C bl cp Z)
    (hB : B ≤ b) (hr : rowTo w b 5 C (fun j => .int .u8 (n8 (Z n j)))) (hb : ∀ x, a = some x → b ≠ x.block) (hk : C ≤ k ∧ k ≤ maxLen) (hne : ∀ i, i < n → bl i ≠ b)
    (ho : OwnV w' B a' (n + 1) c' (((List.range n).map fun i => .slice (some ⟨bl i, 0, none⟩) C (cp i)) ++ [.slice (some ⟨b, 0, none⟩) C k])) (hev : Evol w a w' a') :
    Mo w' B a' (n + 1) c' C (fun i => if i = n then b else bl i) (fun i => if i = n then k else cp i) Z := by
  have step : ∀ {b' : Nat} {f : Nat → Value}, rowTo w b' 5 C f → (∀ x, a = some x → b' ≠ x.block) → rowTo w' b' 5 C f ∧ (∀ x, a' = some x → b' ≠ x.block) := by
    intro b' f h1 h2
    refine ⟨h1.of_block (hev.1.block b' h1.lt (by
      cases a with
      | none => simp
      | some x => simpa using h2 x rfl)), fun x hx e => ?_⟩
    rcases hev.2 x hx with h3 | h3
    · cases a with
      | none => cases h3
      | some y => exact h2 y rfl (by rw [e]; simpa using h3.symm)
    · have := h1.lt; omega
  refine ⟨?_, fun i hi => ?_, fun i hi => ?_, fun i j hi hj e => ?_⟩
  · have e : ((List.range (n + 1)).map fun i => Value.slice (some ⟨if i = n then b else bl i, 0, none⟩) C (if i = n then k else cp i)) =
        ((List.range n).map fun i => .slice (some ⟨bl i, 0, none⟩) C (cp i)) ++ [.slice (some ⟨b, 0, none⟩) C k] := by
      rw [List.range_succ, List.map_append]
      congr 1
      · apply List.map_congr_left
        intro i hi
        have := List.mem_range.1 hi
        rw [if_neg (by omega), if_neg (by omega)]
      · simp
    rw [e]; exact ho
  · by_cases e : i = n
    · subst e
      simp only [if_true]
      exact ⟨hB, (step hr hb).2, (step hr hb).1⟩
    · simp only [if_neg e]
      have := h.row i (by omega)
      exact ⟨this.1, (step this.2.2 this.2.1).2, (step this.2.2 this.2.1).1⟩
  · by_cases e : i = n
    · simp only [if_pos e]; exact hk
    · simp only [if_neg e]; exact h.cap i (by omega)
  · by_cases e1 : i = n <;> by_cases e2 : j = n <;> simp only [e1, e2, if_true, if_false] at e
    · omega
    · exact absurd e.symm (hne j (by omega))
    · exact absurd e (hne i (by omega))
    · exact h.apart i j (by omega) (by omega) e
end Go.Proofs.Ytppgbapfmijboaa
