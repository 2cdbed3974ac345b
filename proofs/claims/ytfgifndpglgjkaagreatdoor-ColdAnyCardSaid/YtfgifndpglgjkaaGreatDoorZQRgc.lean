/- gf's Inverse: the closures scale, plus, both, the pivot. -/
import Derived.Test.YtfgifndpglgjkaaGreatDoorZQRgU
set_option linter.unusedVariables false
set_option linter.unusedSimpArgs false
set_option linter.unusedVariables false
set_option linter.unusedSimpArgs false
set_option maxRecDepth 100000
namespace Go.Proofs.YtfgifndpglgjkaaGreatDoor
open Go.RowKit Go.Deep

theorem DoP.from_drew {B g n C : Nat} {bl : Nat → Nat} {Y : Nat → Nat → UInt8} {w w' : World} {e : Ending} (h : DoP B g n C bl Y w.drew e w') : DoP B g n C bl Y w e w' := by
  obtain ⟨h1, bl', cp', h2, h3, h4⟩ := h
  exact ⟨h1, bl', cp', h2, (Onl.of_below (Below.refl _ _).drew).trans h3, h4⟩
set_option maxHeartbeats 1000000 in
theorem doScale (B g n c C : Nat) (bl cp : Nat → Nat) (Z : Nat → Nat → UInt8) (x : UInt8) (k bk bx : Nat) (w : World) (h : My w B g n C bl cp Z) (hk : k < n) (hn : n ≤ 255) (hC : C ≤ 255)
    (ck : w.cell? ⟨bk, 0, none⟩ = some (.int .i64 k)) (cx : w.cell? ⟨bx, 0, none⟩ = some (.int .u8 (n8 x))) :
    Calls Tryz.prog 135 #[.slice (some ⟨g, 0, none⟩) n c, .pointer (some ⟨bk, 0, none⟩), .pointer (some ⟨bx, 0, none⟩)] w (DoP B g n C bl (Gf.scaleR Z k x) w) := by
  have c1 := h.top.cell hk
  have HR := Lib.hid (h.row k hk).2.2
  have HH := Lib.hid h
  have hk2 : k ≤ 255 := by omega
  clear h
  go_enter Tryz.func135, Tryz.ntmps135
  go_wp2_with fail
  go_still_tail 5, (by kernel_rfl)
  go_wp2_with (go_at_call 136; refine (scale_any _ _ _ _ x _ (HR.out.below (Below.refl _ _).drew) hC).mono ?_; rintro e w1 hr; obtain rfl := hr.1; have HP := Lib.hid (turn_do (HH.out.below (Below.refl _ _).drew) hk hr).from_drew; clear hr)
  go_end0
  exact HP.out
set_option maxHeartbeats 1000000 in
theorem doPlus (B g n c C : Nat) (bl cp : Nat → Nat) (Z : Nat → Nat → UInt8) (x : UInt8) (i k bi bk bx : Nat) (w : World) (h : My w B g n C bl cp Z) (hi : i < n) (hk : k < n) (hik : i ≠ k) (hn : n ≤ 255) (hC : C ≤ 255)
    (ci : w.cell? ⟨bi, 0, none⟩ = some (.int .i64 i)) (ck : w.cell? ⟨bk, 0, none⟩ = some (.int .i64 k)) (cx : w.cell? ⟨bx, 0, none⟩ = some (.int .u8 (n8 x))) :
    Calls Tryz.prog 137 #[.slice (some ⟨g, 0, none⟩) n c, .pointer (some ⟨bi, 0, none⟩), .pointer (some ⟨bk, 0, none⟩), .pointer (some ⟨bx, 0, none⟩)] w (DoP B g n C bl (Gf.mixR Z i k x) w) := by
  have c1 := h.top.cell hk
  have c2 := h.top.cell hi
  have HR := Lib.hid (h.row k hk).2.2
  have HI := Lib.hid (h.row i hi).2.2
  have HN := Lib.hid (show bl k ≠ bl i from fun e => hik (h.apart k i hk hi e).symm)
  have HH := Lib.hid h
  have hk2 : k ≤ 255 ∧ i ≤ 255 := by omega
  clear h
  go_enter Tryz.func137, Tryz.ntmps137
  go_wp2_with fail
  go_still_tail 9, (by kernel_rfl)
  go_wp2_with (go_at_call 138; refine (plus_any _ _ _ _ _ _ _ x _ (HI.out.below (Below.refl _ _).drew) (HR.out.below (Below.refl _ _).drew) HN.out hC).mono ?_; rintro e w1 hr; obtain rfl := hr.1; have HP := Lib.hid (turn_do (HH.out.below (Below.refl _ _).drew) hi hr).from_drew; clear hr)
  go_end0
  exact HP.out
theorem both_any (f : Nat) (cap : Array Value) (va vo : Value) (ba bo : Nat) (w : World) (eg : Enters Tryz.prog f) (P Q : World → Prop) (ca : w.cell? ⟨ba, 0, none⟩ = some va)
    (h1 : Calls Tryz.prog f (#[va] ++ cap) w fun e w1 => e = .returned (.tuple #[]) ∧ P w1) (hc : ∀ w1, P w1 → w1.cell? ⟨bo, 0, none⟩ = some vo)
    (h2 : ∀ w1, P w1 → Calls Tryz.prog f (#[vo] ++ cap) w1 fun e w2 => e = .returned (.tuple #[]) ∧ Q w2) :
    Calls Tryz.prog 131 #[.func (.func f) #[] cap, .pointer (some ⟨ba, 0, none⟩), .pointer (some ⟨bo, 0, none⟩)] w fun e w2 => e = .returned (.tuple #[]) ∧ Q w2 := by
  have eg' : ∀ (args : Array Value) (w : World), (callFunc f args).run Tryz.prog w = .ok (.enter f args) w := eg
  have H1 := Lib.hid h1
  have H2 := Lib.hid h2
  have HC := Lib.hid hc
  clear h1 h2 hc
  go_enter Tryz.func131, Tryz.ntmps131
  go_wp2_with fail
  go_at_fn f
  refine H1.out.mono ?_
  rintro e w1 ⟨rfl, hp⟩
  have c2 := HC.out w1 hp
  have HP := Lib.hid hp
  clear hp
  go_wp2_with fail
  go_at_fn f
  refine (H2.out w1 HP.out).mono ?_
  rintro e w2 ⟨rfl, hq⟩
  have HQ := Lib.hid hq
  clear hq
  go_wp2
  go_end0
  exact ⟨rfl, HQ.out⟩
theorem n8_bne0 (a : UInt8) : (n8 a != (0 : Int)) = !(a == 0) := by
  show (!(n8 a == (0 : Int))) = _
  rw [n8_beq_0]
theorem pivElem (ai : Option Addr) (C ci : Nat) (F : Nat → UInt8) (k b bk : Nat) (w : World) (hai : ai = some ⟨b, 0, none⟩) (h : rowTo w b 5 C (fun j => .int .u8 (n8 (F j)))) (hk : k < C) (hC : C ≤ 255) (ck : w.cell? ⟨bk, 0, none⟩ = some (.int .i64 k)) :
    Calls Tryz.prog 133 #[.slice ai C ci, .pointer (some ⟨bk, 0, none⟩)] w fun e w' => e = .returned (.bool (!(F k == 0))) ∧ ∃ q, w' = w.drewN q := by
  subst hai
  have c1 := h.cell hk
  have hk2 : k ≤ 255 := by omega
  have t := n8_bne0 (F k)
  clear h
  go_enter Tryz.func133, Tryz.ntmps133
  generalize F k = x at *
  by_cases hx : x = 0
  · subst hx
    have t2 : ((n8 0 != (0 : Int))) = false := rfl
    have e1 : (!((0 : UInt8) == 0)) = false := rfl
    rw [e1]
    clear t
    go_wp2
    go_ret
    exact ⟨rfl, 0, rfl⟩
  · have hx2 : (x == 0) = false := by simpa using hx
    rw [hx2] at t ⊢
    clear hx
    go_wp2
    go_ret
    exact ⟨rfl, 0, rfl⟩
theorem copyElem (i j : Nat) (am : Option Addr) (nm cm : Nat) (lm : List (List UInt8)) (b : Nat) (C : Nat) (w : World) (hm : Bss w am nm cm lm) (c2 : w.cell? ⟨b, 0, none⟩ = some (.slice am nm cm)) (hi : i < nm) (hj : j < C) (hb : nm ≤ 255) (hC : C ≤ 255) (hl : (nth lm i).length = C) :
    Calls Tryz.prog 130 #[.int .i64 i, .int .i64 j, .pointer (some ⟨b, 0, none⟩)] w fun e w' => e = .returned (.int .u8 (n8 (at2 lm i j))) ∧ ∃ q, w' = w.drewN q := by
  obtain ⟨x1, o1, k1, y1, p1, rfl, d1, d2⟩ := hm.at2 hi (j := j) (by rw [hl]; exact hj)
  rw [hl] at d1
  have hi2 : i ≤ 255 ∧ j ≤ 255 := by omega
  clear hm hl
  go_enter Tryz.func130, Tryz.ntmps130
  go_wp2
  go_ret
  exact ⟨rfl, 0, rfl⟩
end Go.Proofs.YtfgifndpglgjkaaGreatDoor

/- gf's Inverse. -/
set_option maxRecDepth 100000
namespace Go.Proofs.YtfgifndpglgjkaaGreatDoor
open Go.RowKit Go.Deep

def Gf.sq (m : List (List UInt8)) : Bool := Gf.right m && decide (m.length = (nth m 0).length)
def Gf.inv? (m : List (List UInt8)) : Option (Gf.Mt × Gf.Mt) := Gf.gauss m.length (at2 m) m.length
def Gf.invL (m : List (List UInt8)) : List (List UInt8) := if Gf.sq m = true then (match Gf.inv? m with | some s => mat m.length m.length s.2 | none => []) else []
def Gf.invE (m : List (List UInt8)) : Int := if Gf.sq m = true then (match Gf.inv? m with | some _ => 0 | none => 17) else 1
theorem inv_bad {m : List (List UInt8)} (h : Gf.sq m = false) : Gf.invL m = [] ∧ Gf.invE m = 1 := by
  unfold Gf.invL Gf.invE; rw [h]; exact ⟨rfl, rfl⟩
theorem inv_none {m : List (List UInt8)} {n : Nat} (h : Gf.sq m = true) (hn : m.length = n) (hg : Gf.gauss n (at2 m) n = none) : Gf.invL m = [] ∧ Gf.invE m = 17 := by
  subst hn
  unfold Gf.invL Gf.invE Gf.inv?; rw [if_pos h, if_pos h, hg]; exact ⟨rfl, rfl⟩
theorem inv_some {m : List (List UInt8)} {n : Nat} {s : Gf.Mt × Gf.Mt} (h : Gf.sq m = true) (hn : m.length = n) (hg : Gf.gauss n (at2 m) n = some s) : Gf.invL m = mat n n s.2 ∧ Gf.invE m = 0 := by
  subst hn
  unfold Gf.invL Gf.invE Gf.inv?; rw [if_pos h, if_pos h, hg]; exact ⟨rfl, rfl⟩

/-- Blocks of the two matrices. -/
def Mb (B1 B2 B3 B4 : Nat) (b : Nat) : Prop := (B1 ≤ b ∧ b < B2) ∨ (B3 ≤ b ∧ b < B4)
/-- The two matrices while they are turned. -/
structure GI (w : World) (B1 B2 B3 B4 gA gO n : Nat) (s : Gf.Mt × Gf.Mt) : Prop where
  a : ∃ bl cp, My w B1 gA n n bl cp s.1 ∧ ∀ i, i < n → B1 ≤ bl i ∧ bl i < B2
  o : ∃ bl cp, My w B3 gO n n bl cp s.2 ∧ ∀ i, i < n → B3 ≤ bl i ∧ bl i < B4
theorem GI.onl {w w' : World} {B1 B2 B3 B4 gA gO n : Nat} {s : Gf.Mt × Gf.Mt} {S : Nat → Prop} (h : GI w B1 B2 B3 B4 gA gO n s) (k : Onl w w' S) (hS : ∀ b, S b → ¬ Mb B1 B2 B3 B4 b) (hA : B1 ≤ gA ∧ gA < B2) (hO : B3 ≤ gO ∧ gO < B4) : GI w' B1 B2 B3 B4 gA gO n s := by
  obtain ⟨bl, cp, h1, h2⟩ := h.a
  obtain ⟨bl', cp', h3, h4⟩ := h.o
  exact ⟨⟨bl, cp, h1.onl k (fun e => hS _ e (.inl hA)) (fun i hi e => hS _ e (.inl (h2 i hi))), h2⟩, ⟨bl', cp', h3.onl k (fun e => hS _ e (.inr hO)) (fun i hi e => hS _ e (.inr (h4 i hi))), h4⟩⟩
theorem GI.below {w w' : World} {B1 B2 B3 B4 gA gO n : Nat} {s : Gf.Mt × Gf.Mt} (h : GI w B1 B2 B3 B4 gA gO n s) (k : Below w.heap.size w w') : GI w' B1 B2 B3 B4 gA gO n s := by
  obtain ⟨bl, cp, h1, h2⟩ := h.a
  obtain ⟨bl', cp', h3, h4⟩ := h.o
  exact ⟨⟨bl, cp, h1.below k, h2⟩, ⟨bl', cp', h3.below k, h4⟩⟩
/-- Both are done to. -/
theorem both_do (f : Nat) (cap : Array Value) (T : Gf.Mt → Gf.Mt) (ba bo : Nat) (w : World) (eg : Enters Tryz.prog f) {B1 B2 B3 B4 gA gO n : Nat} {s : Gf.Mt × Gf.Mt} (h : GI w B1 B2 B3 B4 gA gO n s)
    (hA : B1 ≤ gA ∧ gA < B2) (hO : B3 ≤ gO ∧ gO < B4) (h23 : B2 ≤ B3) (hba : ¬ Mb B1 B2 B3 B4 ba) (hbo : ¬ Mb B1 B2 B3 B4 bo)
    (ca : w.cell? ⟨ba, 0, none⟩ = some (.slice (some ⟨gA, 0, none⟩) n n)) (co : w.cell? ⟨bo, 0, none⟩ = some (.slice (some ⟨gO, 0, none⟩) n n))
    (hT : ∀ (W : World) (B g : Nat) (bl cp : Nat → Nat) (Z : Gf.Mt), Onl w W (Mb B1 B2 B3 B4) → Mb B1 B2 B3 B4 g → My W B g n n bl cp Z → Calls Tryz.prog f (#[.slice (some ⟨g, 0, none⟩) n n] ++ cap) W (DoP B g n n bl (T Z) W)) :
    Calls Tryz.prog 131 #[.func (.func f) #[] cap, .pointer (some ⟨ba, 0, none⟩), .pointer (some ⟨bo, 0, none⟩)] w fun e w2 => e = .returned (.tuple #[]) ∧ (Onl w w2 (Mb B1 B2 B3 B4) ∧ GI w2 B1 B2 B3 B4 gA gO n (T s.1, T s.2)) := by
  obtain ⟨blA, cpA, a1, a2⟩ := h.a
  obtain ⟨blO, cpO, o1, o2⟩ := h.o
  refine both_any f cap _ _ ba bo w eg (fun w1 => Onl w w1 (fun b => B1 ≤ b ∧ b < B2) ∧ ∃ bl cp, My w1 B1 gA n n bl cp (T s.1) ∧ ∀ i, i < n → B1 ≤ bl i ∧ bl i < B2) _ ca
    ((hT w B1 gA blA cpA s.1 (Onl.refl _ _) (.inl hA) a1).mono fun e w1 ⟨g1, bl, cp, g2, g3, g4⟩ => ⟨g1, g3.mono (fun b hb => by
      rcases hb with rfl | ⟨i, hi, rfl⟩
      · exact hA
      · exact a2 i hi), bl, cp, g2, fun i hi => by obtain ⟨j, hj, e⟩ := g4 i hi; rw [e]; exact a2 j hj⟩)
    (fun w1 ⟨g1, _⟩ => g1.cell co (fun e => hbo (.inl e))) (fun w1 ⟨g1, bl1, cp1, g2, g3⟩ => ?_)
  have o3 := o1.onl g1 (fun e => by omega) (fun i hi e => by have := o2 i hi; omega)
  refine (hT w1 B3 gO blO cpO s.2 (g1.mono fun b hb => .inl hb) (.inr hO) o3).mono fun e w2 ⟨k1, bl, cp, k2, k3, k4⟩ => ⟨k1, ?_, ⟨bl1, cp1, ?_, g3⟩, ⟨bl, cp, k2, fun i hi => by obtain ⟨j, hj, e⟩ := k4 i hi; rw [e]; exact o2 j hj⟩⟩
  · refine (g1.mono fun b hb => .inl hb).trans (k3.mono fun b hb => ?_)
    rcases hb with rfl | ⟨i, hi, rfl⟩
    · exact .inr hO
    · exact .inr (o2 i hi)
  · refine g2.onl k3 (fun e => ?_) (fun i hi e => ?_)
    · rcases e with e | ⟨i, hi, e⟩
      · omega
      · have := o2 i hi; omega
    · have h1 := g3 i hi
      rcases e with e | ⟨j, hj, e⟩
      · omega
      · have := o2 j hj; omega
theorem div_one (x : UInt8) : Gf.div 1 x = Gf.inv x := by
  unfold Gf.div
  split
  · rename_i h; rw [h, inv_zero]
  · rw [Gf.one_mul]
/-- Places of blocks. -/
structure Nm (w : World) (B1 B2 B4 gA gO : Nat) : Prop where
  b1 : w.heap.size ≤ B1
  a : B1 ≤ gA ∧ gA < B2
  o : B2 + 1 ≤ gO ∧ gO < B4
structure St (w wr : World) (B1 B2 B4 gA gO n : Nat) (s : Gf.Mt × Gf.Mt) : Prop where
  below : Below w.heap.size w wr
  ca : wr.cell? ⟨B2, 0, none⟩ = some (.slice (some ⟨gA, 0, none⟩) n n)
  co : wr.cell? ⟨B4, 0, none⟩ = some (.slice (some ⟨gO, 0, none⟩) n n)
  size : B4 < wr.heap.size
  gi : GI wr B1 B2 (B2 + 1) B4 gA gO n s
theorem St.later {w wr w2 : World} {B1 B2 B4 gA gO n : Nat} {s : Gf.Mt × Gf.Mt} (h : St w wr B1 B2 B4 gA gO n s) (k : Below wr.heap.size wr w2) : St w w2 B1 B2 B4 gA gO n s :=
  ⟨h.below.trans (k.mono h.below.size), cell_later k h.ca, cell_later k h.co, Nat.lt_of_lt_of_le h.size k.size, h.gi.below k⟩
theorem St.turn {w wr w2 : World} {B1 B2 B4 gA gO n : Nat} {s s' : Gf.Mt × Gf.Mt} (h : St w wr B1 B2 B4 gA gO n s) (N : Nm w B1 B2 B4 gA gO) (k : Onl wr w2 (Mb B1 B2 (B2 + 1) B4) ∧ GI w2 B1 B2 (B2 + 1) B4 gA gO n s') : St w w2 B1 B2 B4 gA gO n s' := by
  have := N.b1; have := N.a; have := N.o
  refine ⟨h.below.trans (k.1.below h.below.size (fun b hb => ?_)), k.1.cell h.ca ?_, k.1.cell h.co ?_, Nat.lt_of_lt_of_le h.size k.1.size, k.2⟩
  · unfold Mb at hb; omega
  · unfold Mb; omega
  · unfold Mb; omega
theorem St.both {w wr : World} {B1 B2 B4 gA gO n : Nat} {s : Gf.Mt × Gf.Mt} (h : St w wr B1 B2 B4 gA gO n s) (N : Nm w B1 B2 B4 gA gO) (f : Nat) (cap : Array Value) (T : Gf.Mt → Gf.Mt) (eg : Enters Tryz.prog f)
    (hT : ∀ (W : World) (B g : Nat) (bl cp : Nat → Nat) (Z : Gf.Mt), Onl wr W (Mb B1 B2 (B2 + 1) B4) → g < B4 → My W B g n n bl cp Z → Calls Tryz.prog f (#[.slice (some ⟨g, 0, none⟩) n n] ++ cap) W (DoP B g n n bl (T Z) W)) :
    Calls Tryz.prog 131 #[.func (.func f) #[] cap, .pointer (some ⟨B2, 0, none⟩), .pointer (some ⟨B4, 0, none⟩)] wr fun e w2 => e = .returned (.tuple #[]) ∧ (Onl wr w2 (Mb B1 B2 (B2 + 1) B4) ∧ St w w2 B1 B2 B4 gA gO n (T s.1, T s.2)) := by
  have := N.a; have := N.o
  exact (both_do f cap T B2 B4 wr eg h.gi N.a N.o (by omega) (by unfold Mb; omega) (by unfold Mb; omega) h.ca h.co (fun W B g bl cp Z h1 h2 h3 => hT W B g bl cp Z h1 (by unfold Mb at h2; omega) h3)).mono fun e w2 ⟨g1, g2⟩ => ⟨g1, g2.1, h.turn N g2⟩
/-- A box behind the matrices is kept. -/
theorem box_kept {wr w2 : World} {B1 B2 B4 b : Nat} {v : Value} (k : Onl wr w2 (Mb B1 B2 (B2 + 1) B4)) (hb : B4 < b) (h24 : B2 < B4) (h : wr.cell? ⟨b, 0, none⟩ = some v) : w2.cell? ⟨b, 0, none⟩ = some v :=
  k.cell h (by unfold Mb; omega)
theorem box_new (w : World) (v : Value) (t : TypeId) : (w.alloc (.cells #[v] t)).cell? ⟨w.heap.size, 0, none⟩ = some v := cell_of_row _ _ 0 #[v] t (0, 0) (heap_alloc_new w _)
theorem below_alloc (w : World) (o : Obj) : Below w.heap.size w (w.alloc o) := (Below.refl _ _).alloc (Nat.le_refl _) o
theorem piv_at {n k i : Nat} {A : Gf.Mt} (hi : i < n - k) (h1 : (!(A (k + i) k == 0)) = true) (h2 : ∀ j, j < i → (!(A (k + j) k == 0)) = false) : Gf.piv n A k = k + i := by
  refine Gf.piv_of (by omega) (by omega) (fun r hr hr' => ?_) (fun _ => by simpa using h1)
  have := h2 (r - k) (by omega)
  rw [show k + (r - k) = r by omega] at this
  simpa using this
theorem piv_no {n k : Nat} {A : Gf.Mt} (hk : k ≤ n) (h : ∀ j, j < n - k → (!(A (k + j) k == 0)) = false) : Gf.piv n A k = n := by
  refine Gf.piv_of hk (Nat.le_refl _) (fun r hr hr' => ?_) (fun h => by omega)
  have := h (r - k) (by omega)
  rw [show k + (r - k) = r by omega] at this
  simpa using this
theorem slice_from (g n k : Nat) (hk : k < n) (W : World) : (Instr.slice 97 (.slice (some ⟨g, 0, none⟩) n n) (some (.int .i64 k)) none none).run Tryz.prog W = .ok (.slice (some ⟨g, k, none⟩) (n - k) (n - k)) W := by
  obtain ⟨i, hi, h0, h1, h2⟩ := info_parts infoBs
  have := run_slice_l (P := Tryz.prog) (t := 97) Tryz.underlying97 hi h1 (some ⟨g, 0, none⟩) n n (lo := (k : Int)) (lo' := k) rfl (by omega) W
  rw [this]
  simp [subAn, Addr.add_lit]
  omega
end Go.Proofs.YtfgifndpglgjkaaGreatDoor

/- The reference's Apply, Rows. -/
set_option maxRecDepth 100000
namespace Go.Proofs.YtfgifndpglgjkaaGreatDoor
open Go.RowKit Go.Deep

theorem bs_row {w : World} {b n : Nat} {F : Nat → UInt8} (h : rowTo w b 5 n (fun j => .int .u8 (n8 (F j)))) (hn : n ≤ maxLen) : Bs w (some ⟨b, 0, none⟩) n n ((List.range n).map F) := by
  refine ⟨by simp, Nat.le_refl _, hn, fun j v hv => ?_⟩
  have hj : j < n := by
    rcases Nat.lt_or_ge j n with h' | h'
    · exact h'
    · rw [List.getElem?_eq_none (by simp [vs]; omega)] at hv; cases hv
  refine ⟨b, 0, rfl, ?_⟩
  rw [Nat.zero_add, h.cell hj]
  simp [vs, hj] at hv
  rw [hv]
/-- While a matrix is applied: the places before i, of place i the first k terms. -/
def Gf.partV (f : Nat → Nat → UInt8) (K i k : Nat) : Nat → UInt8 := fun r => if r < i then Gf.sm K (f r) else if r = i then Gf.sm k (f r) else 0
theorem partV_next (f : Nat → Nat → UInt8) (K i r : Nat) : Gf.partV f K i K r = Gf.partV f K (i + 1) 0 r := by
  unfold Gf.partV
  by_cases h1 : r < i
  · simp [h1, Nat.lt_succ_of_lt h1]
  · by_cases h2 : r = i
    · simp [h2]
    · rw [if_neg h1, if_neg h2, if_neg (by omega)]; split <;> rfl
theorem partV_term (f : Nat → Nat → UInt8) (K i k r : Nat) : (if r = i then Gf.partV f K i k i ^^^ f i k else Gf.partV f K i k r) = Gf.partV f K i (k + 1) r := by
  unfold Gf.partV
  by_cases h : r = i
  · subst h; simp [Gf.sm]
  · simp [h]
theorem partV_zero (f : Nat → Nat → UInt8) (K r : Nat) : Gf.partV f K 0 0 r = 0 := by unfold Gf.partV; simp [Gf.sm]
theorem partV_full (f : Nat → Nat → UInt8) (K R r : Nat) (hr : r < R) : Gf.partV f K R 0 r = Gf.sm K (f r) := by unfold Gf.partV; simp [hr]

end Go.Proofs.YtfgifndpglgjkaaGreatDoor

/- The reference's Rows. -/
set_option maxRecDepth 100000
namespace Go.Proofs.YtfgifndpglgjkaaGreatDoor
open Go.RowKit Go.Deep

theorem own_rowTo {w : World} {B n c : Nat} {a : Option Addr} {l : List UInt8} (h : Own w B a n c l) (hn : 0 < n) : ∃ g, a = some ⟨g, 0, none⟩ ∧ B ≤ g ∧ (n ≤ c ∧ c ≤ maxLen) ∧ rowTo w g 5 n (fun j => .int .u8 (n8 (nth l j))) := by
  have hb := h.bs
  rcases h.2 with ⟨h1, h2⟩ | ⟨g, cap, cur, h1, h2, h3, h4, h5, h6, h7⟩
  · cases h1; omega
  · cases h1
    refine ⟨g, rfl, h2, ⟨h4, h5⟩, cur, h3, by simp at h6; omega, fun i hi => ?_⟩
    have e : (List.take (n * 1) cur.toList)[i]? = (vs l)[i]? := by rw [h7]
    rw [List.getElem?_take] at e
    have hl := hb.1
    simp [vs, hi, nth_eq l (show i < l.length by omega), (show i < l.length by omega)] at e ⊢
    exact e
/-- What a new row brings: all the facts that its append wants. -/
structure NewRow (w w3 : World) (B : Nat) (a : Option Addr) (n c C : Nat) (bl cp : Nat → Nat) (Z : Nat → Nat → UInt8) (g3 c3 : Nat) : Prop where
  below : Below w.heap.size w w3
  le : w.heap.size ≤ g3
  cap : C ≤ c3 ∧ c3 ≤ maxLen
  mo : Mo (w3.alloc (.cells #[.slice (some ⟨g3, 0, none⟩) C c3] 25)) B a n c C bl cp Z
  row : rowTo (w3.alloc (.cells #[.slice (some ⟨g3, 0, none⟩) C c3] 25)) g3 5 C (fun j => .int .u8 (n8 (Z n j)))
  cell : (w3.alloc (.cells #[.slice (some ⟨g3, 0, none⟩) C c3] 25)).cell? ⟨w3.heap.size, 0, none⟩ = some (.slice (some ⟨g3, 0, none⟩) C c3)
  ne : (∀ x, a = some x → g3 ≠ x.block) ∧ ∀ i, i < n → bl i ≠ g3
theorem new_row {w w3 : World} {B : Nat} {a a3 : Option Addr} {n c C c3 : Nat} {bl cp : Nat → Nat} {Z : Nat → Nat → UInt8} {o : Obj} {l : List UInt8} (hm : Mo w B a n c C bl cp Z) (hB : B ≤ w.heap.size) (hC : 0 < C)
    (h3 : Own w3 w.heap.size a3 C c3 l) (hb3 : Below w.heap.size (w.alloc o) w3) (hl : ∀ j, j < C → nth l j = Z n j) : ∃ g3, a3 = some ⟨g3, 0, none⟩ ∧ NewRow w w3 B a n c C bl cp Z g3 c3 := by
  obtain ⟨g3, rfl, h4, h5, h6⟩ := own_rowTo h3 hC
  have hb := (below_alloc w o).trans hb3
  refine ⟨g3, rfl, hb, h4, h5, (hm.below hb).below (below_alloc w3 _), (h6.congr (fun j hj => by rw [hl j hj])).below (below_alloc w3 _), box_new w3 _ _, fun x hx e => ?_, fun i hi e => ?_⟩
  · have := (hm.own.new x hx).2; omega
  · have := (hm.row i hi).2.2.lt; omega
end Go.Proofs.YtfgifndpglgjkaaGreatDoor
