/- gf's Inverse. -/
import Derived.Test.YtppgbapfmijboaaRgV
set_option maxRecDepth 100000
namespace Go.Proofs.Ytppgbapfmijboaa
open Go.RowKit Go.Deep

def Gf.sq (m : List (List UInt8)) : Bool := Gf.right m && decide (m.length = (nth m 0).length)
def Gf.inv? (m : List (List UInt8)) : Option (Gf.Mt × Gf.Mt) := Gf.gauss m.length (at2 m) m.length
def Gf.invL (m : List (List UInt8)) : List (List UInt8) := if Gf.sq m = true then (match Gf.inv? m with | some s => mat m.length m.length s.2 | none => []) else []
def Gf.invE (m : List (List UInt8)) : Int := if Gf.sq m = true then (match Gf.inv? m with | some _ => 0 | none => 17) else 1
theorem inv_bad {m : List (List UInt8)} (h : Gf.sq m = false) : Gf.invL m = [] ∧ Gf.invE m = 1 := by
  unfold Gf.invL Gf.invE; rw [h]; exact ⟨rfl, rfl⟩
theorem inv_none {m : List (List UInt8)} {n : Nat} (h : Gf.sq m = true) (hn : m.length = n) (hg : Gf.gauss n (at2 m) n = none) : Gf.invL m = [] ∧ Gf.invE m = 17 := by
  subst hn
  unfold Gf.invL Gf.invE Gf.inv?; rw [if_pos h, if_pos h, hg]; exact ⟨rfl, rfl⟩
theorem inv_some {m : List (List UInt8)} {n : Nat} {s : Gf.Mt × Gf.Mt} (h : Gf.sq m = true) (hn : m.length = n) (hg : Gf.gauss n (at2 m) n = some s) : Gf.invL m = mat n n s.2 ∧ Gf.invE m = 0 := by
  subst hn
  unfold Gf.invL Gf.invE Gf.inv?; rw [if_pos h, if_pos h, hg]; exact ⟨rfl, rfl⟩

/-- Blocks of the two matrices. -/
def Mb (B1 B2 B3 B4 : Nat) (b : Nat) : Prop := (B1 ≤ b ∧ b < B2) ∨ (B3 ≤ b ∧ b < B4)
/-- The two matrices while they are turned. -/
structure GI (w : World) (B1 B2 B3 B4 gA gO n : Nat) (s : Gf.Mt × Gf.Mt) : Prop where
  a : ∃ bl cp, My w B1 gA n n bl cp s.1 ∧ ∀ i, i < n → B1 ≤ bl i ∧ bl i < B2
  o : ∃ bl cp, My w B3 gO n n bl cp s.2 ∧ ∀ i, i < n → B3 ≤ bl i ∧ bl i < B4
theorem GI.onl {w w' : World} {B1 B2 B3 B4 gA gO n : Nat} {s : Gf.Mt × Gf.Mt} {S : Nat → Prop} (h : GI w B1 B2 B3 B4 gA gO n s) (k : Onl w w' S) (hS : ∀ b, S b → ¬ Mb B1 B2 B3 B4 b) (hA : B1 ≤ gA ∧ gA < B2) (hO : B3 ≤ gO ∧ gO < B4) : GI w' B1 B2 B3 B4 gA gO n s := by
  obtain ⟨bl, cp, h1, h2⟩ := h.a
  obtain ⟨bl', cp', h3, h4⟩ := h.o
  exact ⟨⟨bl, cp, h1.onl k (fun e => hS _ e (.inl hA)) (fun i hi e => hS _ e (.inl (h2 i hi))), h2⟩, ⟨bl', cp', h3.onl k (fun e => hS _ e (.inr hO)) (fun i hi e => hS _ e (.inr (h4 i hi))), h4⟩⟩
theorem GI.below {w w' : World} {B1 B2 B3 B4 gA gO n : Nat} {s : Gf.Mt × Gf.Mt} (h : GI w B1 B2 B3 B4 gA gO n s) (k : Below w.heap.size w w') : GI w' B1 B2 B3 B4 gA gO n s := by
  obtain ⟨bl, cp, h1, h2⟩ := h.a
  obtain ⟨bl', cp', h3, h4⟩ := h.o
  exact ⟨⟨bl, cp, h1.below k, h2⟩, ⟨bl', cp', h3.below k, h4⟩⟩
/-- Both are done to. -/
theorem both_do (f : Nat) (cap : Array Value) (T : Gf.Mt → Gf.Mt) (ba bo : Nat) (w : World) (eg : Enters Try.prog f) {B1 B2 B3 B4 gA gO n : Nat} {s : Gf.Mt × Gf.Mt} (h : GI w B1 B2 B3 B4 gA gO n s)
    (hA : B1 ≤ gA ∧ gA < B2) (hO : B3 ≤ gO ∧ gO < B4) (h23 : B2 ≤ B3) (hba : ¬ Mb B1 B2 B3 B4 ba) (hbo : ¬ Mb B1 B2 B3 B4 bo)
    (ca : w.cell? ⟨ba, 0, none⟩ = some (.slice (some ⟨gA, 0, none⟩) n n)) (co : w.cell? ⟨bo, 0, none⟩ = some (.slice (some ⟨gO, 0, none⟩) n n))
    (hT : ∀ (W : World) (B g : Nat) (bl cp : Nat → Nat) (Z : Gf.Mt), Onl w W (Mb B1 B2 B3 B4) → Mb B1 B2 B3 B4 g → My W B g n n bl cp Z → Calls Try.prog f (#[.slice (some ⟨g, 0, none⟩) n n] ++ cap) W (DoP B g n n bl (T Z) W)) :
    Calls Try.prog 65 #[.func (.func f) #[] cap, .pointer (some ⟨ba, 0, none⟩), .pointer (some ⟨bo, 0, none⟩)] w fun e w2 => e = .returned (.tuple #[]) ∧ (Onl w w2 (Mb B1 B2 B3 B4) ∧ GI w2 B1 B2 B3 B4 gA gO n (T s.1, T s.2)) := by
  obtain ⟨blA, cpA, a1, a2⟩ := h.a
  obtain ⟨blO, cpO, o1, o2⟩ := h.o
  refine both_any f cap _ _ ba bo w eg (fun w1 => Onl w w1 (fun b => B1 ≤ b ∧ b < B2) ∧ ∃ bl cp, My w1 B1 gA n n bl cp (T s.1) ∧ ∀ i, i < n → B1 ≤ bl i ∧ bl i < B2) _ ca
    ((hT w B1 gA blA cpA s.1 (Onl.refl _ _) (.inl hA) a1).mono fun e w1 ⟨g1, bl, cp, g2, g3, g4⟩ => ⟨g1, g3.mono (fun b hb => by
      rcases hb with rfl | ⟨i, hi, rfl⟩
      · exact hA
      · exact a2 i hi), bl, cp, g2, fun i hi => by obtain ⟨j, hj, e⟩ := g4 i hi; rw [e]; exact a2 j hj⟩)
    (fun w1 ⟨g1, _⟩ => g1.cell co (fun e => hbo (.inl e))) (fun w1 ⟨g1, bl1, cp1, g2, g3⟩ => ?_)
  have o3 := o1.onl g1 (fun e => by omega) (fun i hi e => by have := o2 i hi; omega)
  refine (hT w1 B3 gO blO cpO s.2 (g1.mono fun b hb => .inl hb) (.inr hO) o3).mono fun e w2 ⟨k1, bl, cp, k2, k3, k4⟩ => ⟨k1, ?_, ⟨bl1, cp1, ?_, g3⟩, ⟨bl, cp, k2, fun i hi => by obtain ⟨j, hj, e⟩ := k4 i hi; rw [e]; exact o2 j hj⟩⟩
  · refine (g1.mono fun b hb => .inl hb).trans (k3.mono fun b hb => ?_)
    rcases hb with rfl | ⟨i, hi, rfl⟩
    · exact .inr hO
    · exact .inr (o2 i hi)
  · refine g2.onl k3 (fun e => ?_) (fun i hi e => ?_)
    · rcases e with e | ⟨i, hi, e⟩
      · omega
      · have := o2 i hi; omega
    · have h1 := g3 i hi
      rcases e with e | ⟨j, hj, e⟩
      · omega
      · have := o2 j hj; omega
theorem div_one (x : UInt8) : Gf.div 1 x = Gf.inv x := by
  unfold Gf.div
  split
  · rename_i h; rw [h, inv_zero]
  · rw [Gf.one_mul]
/-- Places of blocks. -/
structure Nm (w : World) (B1 B2 B4 gA gO : Nat) : Prop where
  b1 : w.heap.size ≤ B1
  a : B1 ≤ gA ∧ gA < B2
  o : B2 + 1 ≤ gO ∧ gO < B4
structure St (w wr : World) (B1 B2 B4 gA gO n : Nat) (s : Gf.Mt × Gf.Mt) : Prop where
  below : Below w.heap.size w wr
  ca : wr.cell? ⟨B2, 0, none⟩ = some (.slice (some ⟨gA, 0, none⟩) n n)
  co : wr.cell? ⟨B4, 0, none⟩ = some (.slice (some ⟨gO, 0, none⟩) n n)
  size : B4 < wr.heap.size
  gi : GI wr B1 B2 (B2 + 1) B4 gA gO n s
theorem St.later {w wr w2 : World} {B1 B2 B4 gA gO n : Nat} {s : Gf.Mt × Gf.Mt} (h : St w wr B1 B2 B4 gA gO n s) (k : Below wr.heap.size wr w2) : St w w2 B1 B2 B4 gA gO n s :=
  ⟨h.below.trans (k.mono h.below.size), cell_later k h.ca, cell_later k h.co, Nat.lt_of_lt_of_le h.size k.size, h.gi.below k⟩
theorem St.turn {w wr w2 : World} {B1 B2 B4 gA gO n : Nat} {s s' : Gf.Mt × Gf.Mt} (h : St w wr B1 B2 B4 gA gO n s) (N : Nm w B1 B2 B4 gA gO) (k : Onl wr w2 (Mb B1 B2 (B2 + 1) B4) ∧ GI w2 B1 B2 (B2 + 1) B4 gA gO n s') : St w w2 B1 B2 B4 gA gO n s' := by
  have := N.b1; have := N.a; have := N.o
  refine ⟨h.below.trans (k.1.below h.below.size (fun b hb => ?_)), k.1.cell h.ca ?_, k.1.cell h.co ?_, Nat.lt_of_lt_of_le h.size k.1.size, k.2⟩
  · unfold Mb at hb; omega
  · unfold Mb; omega
  · unfold Mb; omega
theorem St.both {w wr : World} {B1 B2 B4 gA gO n : Nat} {s : Gf.Mt × Gf.Mt} (h : St w wr B1 B2 B4 gA gO n s) (N : Nm w B1 B2 B4 gA gO) (f : Nat) (cap : Array Value) (T : Gf.Mt → Gf.Mt) (eg : Enters Try.prog f)
    (hT : ∀ (W : World) (B g : Nat) (bl cp : Nat → Nat) (Z : Gf.Mt), Onl wr W (Mb B1 B2 (B2 + 1) B4) → g < B4 → My W B g n n bl cp Z → Calls Try.prog f (#[.slice (some ⟨g, 0, none⟩) n n] ++ cap) W (DoP B g n n bl (T Z) W)) :
    Calls Try.prog 65 #[.func (.func f) #[] cap, .pointer (some ⟨B2, 0, none⟩), .pointer (some ⟨B4, 0, none⟩)] wr fun e w2 => e = .returned (.tuple #[]) ∧ (Onl wr w2 (Mb B1 B2 (B2 + 1) B4) ∧ St w w2 B1 B2 B4 gA gO n (T s.1, T s.2)) := by
  have := N.a; have := N.o
  exact (both_do f cap T B2 B4 wr eg h.gi N.a N.o (by omega) (by unfold Mb; omega) (by unfold Mb; omega) h.ca h.co (fun W B g bl cp Z h1 h2 h3 => hT W B g bl cp Z h1 (by unfold Mb at h2; omega) h3)).mono fun e w2 ⟨g1, g2⟩ => ⟨g1, g2.1, h.turn N g2⟩
/-- A box behind the matrices is kept. -/
theorem box_kept {wr w2 : World} {B1 B2 B4 b : Nat} {v : Value} (k : Onl wr w2 (Mb B1 B2 (B2 + 1) B4)) (hb : B4 < b) (h24 : B2 < B4) (h : wr.cell? ⟨b, 0, none⟩ = some v) : w2.cell? ⟨b, 0, none⟩ = some v :=
  k.cell h (by unfold Mb; omega)
theorem box_new (w : World) (v : Value) (t : TypeId) : (w.alloc (.cells #[v] t)).cell? ⟨w.heap.size, 0, none⟩ = some v := cell_of_row _ _ 0 #[v] t (0, 0) (heap_alloc_new w _)
theorem below_alloc (w : World) (o : Obj) : Below w.heap.size w (w.alloc o) := (Below.refl _ _).alloc (Nat.le_refl _) o
theorem piv_at {n k i : Nat} {A : Gf.Mt} (hi : i < n - k) (h1 : (!(A (k + i) k == 0)) = true) (h2 : ∀ j, j < i → (!(A (k + j) k == 0)) = false) : Gf.piv n A k = k + i := by
  refine Gf.piv_of (by omega) (by omega) (fun r hr hr' => ?_) (fun _ => by simpa using h1)
  have := h2 (r - k) (by omega)
  rw [show k + (r - k) = r by omega] at this
  simpa using this
theorem piv_no {n k : Nat} {A : Gf.Mt} (hk : k ≤ n) (h : ∀ j, j < n - k → (!(A (k + j) k == 0)) = false) : Gf.piv n A k = n := by
  refine Gf.piv_of hk (Nat.le_refl _) (fun r hr hr' => ?_) (fun h => by omega)
  have := h (r - k) (by omega)
  rw [show k + (r - k) = r by omega] at this
  simpa using this
theorem slice_from (g n k : Nat) (hk : k < n) (W : World) : (Instr.slice 55 (.slice (some ⟨g, 0, none⟩) n n) (some (.int .i64 k)) none none).run Try.prog W = .ok (.slice (some ⟨g, k, none⟩) (n - k) (n - k)) W := by
  obtain ⟨i, hi, h0, h1, h2⟩ := info_parts infoBs
  have := run_slice_l (P := Try.prog) (t := 55) Try.underlying55 hi h1 (some ⟨g, 0, none⟩) n n (lo := (k : Int)) (lo' := k) rfl (by omega) W
  rw [this]
  simp [subAn, Addr.add_lit]
  omega
end Go.Proofs.Ytppgbapfmijboaa
