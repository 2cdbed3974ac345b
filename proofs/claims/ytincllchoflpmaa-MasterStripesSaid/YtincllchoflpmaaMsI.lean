/- master.Do. -/
import Derived.Test.YtincllchoflpmaaMsH
namespace Go.Proofs.Ytincllchoflpmaa
open Go.RowKit
set_option linter.unusedVariables false

/-- A command as a value; in cells. -/
def xval (x : Cm) : Value := .agg #[.int .i64 x.kind, .int .i64 x.node, .int .i64 x.birth, .int .i64 x.epoch]
structure CmAt (w : World) (b o : Nat) (x : Cm) : Prop where
  kind : w.cell? ⟨b, o, none⟩ = some (.int .i64 x.kind)
  node : w.cell? ⟨b, o + 1, none⟩ = some (.int .i64 x.node)
  birth : w.cell? ⟨b, o + 2, none⟩ = some (.int .i64 x.birth)
  epoch : w.cell? ⟨b, o + 3, none⟩ = some (.int .i64 x.epoch)
theorem CmAt.below {w w' : World} {b o : Nat} {x : Cm} (h : CmAt w b o x) (hb : Below w.heap.size w w') : CmAt w' b o x := ⟨cell_later hb h.kind, cell_later hb h.node, cell_later hb h.birth, cell_later hb h.epoch⟩
theorem cm_box (w : World) (x : Cm) : CmAt (w.alloc (.cells #[.int .i64 x.kind, .int .i64 x.node, .int .i64 x.birth, .int .i64 x.epoch] 45)) w.heap.size 0 x := by
  have h := heap_alloc_new w (.cells #[.int .i64 x.kind, .int .i64 x.node, .int .i64 x.birth, .int .i64 x.epoch] 45)
  exact ⟨(cell_of_row _ _ 0 _ _ _ h).trans rfl, (cell_of_row _ _ 1 _ _ _ h).trans rfl, (cell_of_row _ _ 2 _ _ _ h).trans rfl, (cell_of_row _ _ 3 _ _ _ h).trans rfl⟩
/-- What Do tells: a configuration of the call's own, and a number. -/
def DoP (w : World) (r : Cf × Int) (e : Ending) (w' : World) : Prop :=
  ∃ ac cc ast cs, e = .returned (.tuple #[cval r.1 ac cc ast cs, .int .i64 r.2]) ∧ CfO w' w.heap.size r.1 ac cc ast cs ∧ Below w.heap.size w w'
/-- The three boxes of Do: the configuration, the command, what is told. -/
structure Box3 (w W : World) (b2 b3 b4 : Nat) (c : Cf) (ac : Option Addr) (cc : Nat) (ast : Option Addr) (cs : Nat) (x : Cm) : Prop where
  cf : CfAt W b2 c ac cc ast cs
  cm : CmAt W b3 0 x
  res : CfAt W b4 Ms.zero none 0 none 0
  f2 : ∀ j, W.frozen? ⟨b2, j, none⟩ = false
  f4 : ∀ j, W.frozen? ⟨b4, j, none⟩ = false
  below : Below w.heap.size w W
  place : w.heap.size ≤ b2 ∧ w.heap.size ≤ b4 ∧ b2 < W.heap.size ∧ b3 < W.heap.size ∧ b4 < W.heap.size ∧ b2 ≠ b3 ∧ b2 ≠ b4 ∧ b3 ≠ b4
theorem Box3.later {w W W' : World} {b2 b3 b4 : Nat} {c : Cf} {ac ast : Option Addr} {cc cs : Nat} {x : Cm} (h : Box3 w W b2 b3 b4 c ac cc ast cs x) (hb : Below W.heap.size W W') : Box3 w W' b2 b3 b4 c ac cc ast cs x :=
  ⟨h.cf.below hb, h.cm.below hb, h.res.below hb, fun j => (hb.frozen (p := ⟨b2, j, none⟩) h.place.2.2.1).trans (h.f2 j), fun j => (hb.frozen (p := ⟨b4, j, none⟩) h.place.2.2.2.2.1).trans (h.f4 j), h.below.trans (hb.mono h.below.size), by have := hb.size; have := h.place; omega⟩
theorem box3 (w : World) (c : Cf) (ac : Option Addr) (cc : Nat) (ast : Option Addr) (cs : Nat) (x : Cm) :
    Box3 w (((w.alloc (.cells #[.int .i64 c.epoch, .slice ac c.chain.length cc, .slice ast c.stores.length cs] 41)).alloc (.cells #[.int .i64 x.kind, .int .i64 x.node, .int .i64 x.birth, .int .i64 x.epoch] 45)).alloc (.cells #[.int .i64 0, .slice none 0 0, .slice none 0 0] 41)) w.heap.size (w.heap.size + 1) (w.heap.size + 2) c ac cc ast cs x := by
  have hz1 := World.size_alloc w (.cells #[.int .i64 c.epoch, .slice ac c.chain.length cc, .slice ast c.stores.length cs] 41)
  have h1 := cf_box w c ac cc ast cs
  have hb1 := below_alloc1 w (.cells #[.int .i64 c.epoch, .slice ac c.chain.length cc, .slice ast c.stores.length cs] 41)
  have hf1 : ∀ j, (w.alloc (.cells #[.int .i64 c.epoch, .slice ac c.chain.length cc, .slice ast c.stores.length cs] 41)).frozen? ⟨w.heap.size, j, none⟩ = false := fun j => (frozen?_alloc_cells _ _ _ _).trans (by simp [World.frozen?])
  obtain ⟨w1, hw1⟩ : ∃ w1, w.alloc (.cells #[.int .i64 c.epoch, .slice ac c.chain.length cc, .slice ast c.stores.length cs] 41) = w1 := ⟨_, rfl⟩
  rw [hw1] at hz1 h1 hb1 hf1 ⊢
  have hz2 := World.size_alloc w1 (.cells #[.int .i64 x.kind, .int .i64 x.node, .int .i64 x.birth, .int .i64 x.epoch] 45)
  have h2 := cm_box w1 x
  have hb2 := below_alloc1 w1 (.cells #[.int .i64 x.kind, .int .i64 x.node, .int .i64 x.birth, .int .i64 x.epoch] 45)
  obtain ⟨w2, hw2⟩ : ∃ w2, w1.alloc (.cells #[.int .i64 x.kind, .int .i64 x.node, .int .i64 x.birth, .int .i64 x.epoch] 45) = w2 := ⟨_, rfl⟩
  rw [hw2] at hz2 h2 hb2 ⊢
  have hz3 := World.size_alloc w2 (.cells #[.int .i64 0, .slice none 0 0, .slice none 0 0] 41)
  have h3 := cf_box w2 Ms.zero none 0 none 0
  have hb3 := below_alloc1 w2 (.cells #[.int .i64 0, .slice none 0 0, .slice none 0 0] 41)
  have hf3 : ∀ j, (w2.alloc (.cells #[.int .i64 0, .slice none 0 0, .slice none 0 0] 41)).frozen? ⟨w2.heap.size, j, none⟩ = false := fun j => (frozen?_alloc_cells _ _ _ _).trans (by simp [World.frozen?])
  have h3' : CfAt (w2.alloc (.cells #[.int .i64 0, .slice none 0 0, .slice none 0 0] 41)) w2.heap.size Ms.zero none 0 none 0 := h3
  obtain ⟨w3, hw3⟩ : ∃ w3, w2.alloc (.cells #[.int .i64 0, .slice none 0 0, .slice none 0 0] 41) = w3 := ⟨_, rfl⟩
  rw [hw3] at hz3 h3' hb3 hf3 ⊢
  have hb23 : Below w1.heap.size w1 w3 := hb2.trans ((show Below w2.heap.size w2 w3 from hb3).mono hb2.size)
  refine ⟨h1.below hb23, by rw [← hz1]; exact h2.below hb3, by rw [show w.heap.size + 2 = w2.heap.size by omega]; exact h3', fun j => (hb23.frozen (p := ⟨w.heap.size, j, none⟩) (by show w.heap.size < _; omega)).trans (hf1 j), fun j => by rw [show w.heap.size + 2 = w2.heap.size by omega]; exact hf3 j, hb1.trans (hb23.mono hb1.size), by omega⟩
/-- Behind a refusal. -/
theorem err_end {w W : World} {b2 b3 b4 : Nat} {c : Cf} {ac ast : Option Addr} {cc cs : Nat} {x : Cm} (h : Box3 w W b2 b3 b4 c ac cc ast cs x) :
    (((W.setCell ⟨b4, 0, none⟩ (.int .i64 0)).setCell ⟨b4, 1, none⟩ (.slice none 0 0)).setCell ⟨b4, 2, none⟩ (.slice none 0 0)).cell? ⟨b4, 0, none⟩ = some (.int .i64 0) ∧ (((W.setCell ⟨b4, 0, none⟩ (.int .i64 0)).setCell ⟨b4, 1, none⟩ (.slice none 0 0)).setCell ⟨b4, 2, none⟩ (.slice none 0 0)).cell? ⟨b4, 1, none⟩ = some (.slice none 0 0) ∧ (((W.setCell ⟨b4, 0, none⟩ (.int .i64 0)).setCell ⟨b4, 1, none⟩ (.slice none 0 0)).setCell ⟨b4, 2, none⟩ (.slice none 0 0)).cell? ⟨b4, 2, none⟩ = some (.slice none 0 0) ∧ Below w.heap.size w (((W.setCell ⟨b4, 0, none⟩ (.int .i64 0)).setCell ⟨b4, 1, none⟩ (.slice none 0 0)).setCell ⟨b4, 2, none⟩ (.slice none 0 0)) := by
  have h1 := cset_at (c := Ms.zero) (ac := none) (cc := 0) (ast := none) (cs := 0) h.res
  exact ⟨h1.epoch, h1.chain, h1.stores, cset_below (c := Ms.zero) (ac := none) (cc := 0) (ast := none) (cs := 0) h.below h.place.2.1⟩
theorem DoP.err {w W : World} {k : Int} (hb : Below w.heap.size w W) : DoP w (Ms.zero, k) (.returned (.tuple #[.agg #[.int .i64 0, .slice none 0 0, .slice none 0 0], .int .i64 k])) W :=
  ⟨none, 0, none, 0, rfl, ⟨AccM.nil _ _, AccI.nil _ _⟩, hb⟩
theorem Box3.cset {w W : World} {b2 b3 b4 : Nat} {c c' : Cf} {ac ast ac' ast' : Option Addr} {cc cs cc' cs' : Nat} {x : Cm} (h : Box3 w W b2 b3 b4 c ac cc ast cs x) : Box3 w (cset W b2 c' ac' cc' ast' cs') b2 b3 b4 c' ac' cc' ast' cs' x := by
  have hp := h.place
  have hne : ∀ {b j k : Nat}, b2 ≠ b → (⟨b2, j, none⟩ : Addr) ≠ ⟨b, k, none⟩ := fun hn e => hn (by cases e; rfl)
  have hc : ∀ {b j : Nat} {v : Value}, b2 ≠ b → W.cell? ⟨b, j, none⟩ = some v → (Go.Proofs.Ytincllchoflpmaa.cset W b2 c' ac' cc' ast' cs').cell? ⟨b, j, none⟩ = some v := fun hn hv => by
    unfold Go.Proofs.Ytincllchoflpmaa.cset
    rw [World.cell?_setCell_other _ _ _ _ (hne hn), World.cell?_setCell_other _ _ _ _ (hne hn), World.cell?_setCell_other _ _ _ _ (hne hn)]
    exact hv
  have hf : ∀ p, (Go.Proofs.Ytincllchoflpmaa.cset W b2 c' ac' cc' ast' cs').frozen? p = W.frozen? p := fun p => by unfold Go.Proofs.Ytincllchoflpmaa.cset; simp
  refine ⟨cset_at h.cf, ⟨hc hp.2.2.2.2.2.1 h.cm.kind, hc hp.2.2.2.2.2.1 h.cm.node, hc hp.2.2.2.2.2.1 h.cm.birth, hc hp.2.2.2.2.2.1 h.cm.epoch⟩, ⟨hc hp.2.2.2.2.2.2.1 h.res.epoch, hc hp.2.2.2.2.2.2.1 h.res.chain, hc hp.2.2.2.2.2.2.1 h.res.stores⟩, fun j => (hf _).trans (h.f2 j), fun j => (hf _).trans (h.f4 j), cset_below h.below hp.1, ?_⟩
  have hz : (Go.Proofs.Ytincllchoflpmaa.cset W b2 c' ac' cc' ast' cs').heap.size = W.heap.size := by unfold Go.Proofs.Ytincllchoflpmaa.cset; simp
  rw [hz]
  exact hp
/-! What a command makes, case by case. -/
theorem step_bad {c : Cf} {x : Cm} (h : c.ok = false) : c.step x = (Ms.zero, 1) := by
  unfold Cf.step
  rw [if_pos h]
theorem step_arg {c : Cf} {x : Cm} (h : x.kind < 1 ∨ 5 < x.kind ∨ Ms.node x.node = false ∨ Ms.born x.birth = false ∨ (c.epoch = 1099511627776 ∧ x.kind ≠ 3)) : c.step x = (Ms.zero, 1) := by
  unfold Cf.step
  by_cases h0 : c.ok = false
  · rw [if_pos h0]
  · rw [if_neg h0, if_pos h]

/-! Behind the switch. -/
theorem CfAt.set0 {w : World} {b : Nat} {c : Cf} {ac ast : Option Addr} {cc cs : Nat} (h : CfAt w b c ac cc ast cs) (e : Int) : CfAt (w.setCell ⟨b, 0, none⟩ (.int .i64 e)) b ⟨e, c.chain, c.stores⟩ ac cc ast cs := by
  have h0 := h.epoch
  have h1 := h.chain
  have h2 := h.stores
  refine ⟨?_, ?_, ?_⟩
  · exact World.cell?_setCell_same' _ _ _ (by rw [h0]; rfl)
  · rw [World.cell?_setCell_other _ _ _ _ (caddr_ne (by decide))]; exact h1
  · rw [World.cell?_setCell_other _ _ _ _ (caddr_ne (by decide))]; exact h2
theorem CfAt.set1 {w : World} {b : Nat} {c : Cf} {ac ast : Option Addr} {cc cs : Nat} (h : CfAt w b c ac cc ast cs) {l : List Mb} {n : Nat} (hn : l.length = n) (a : Option Addr) (cc' : Nat) : CfAt (w.setCell ⟨b, 1, none⟩ (.slice a n cc')) b ⟨c.epoch, l, c.stores⟩ a cc' ast cs := by
  have h0 := h.epoch
  have h1 := h.chain
  have h2 := h.stores
  subst hn
  refine ⟨?_, ?_, ?_⟩
  · rw [World.cell?_setCell_other _ _ _ _ (caddr_ne (by decide))]; exact h0
  · exact World.cell?_setCell_same' _ _ _ (by rw [h1]; rfl)
  · rw [World.cell?_setCell_other _ _ _ _ (caddr_ne (by decide))]; exact h2
theorem CfAt.set2 {w : World} {b : Nat} {c : Cf} {ac ast : Option Addr} {cc cs : Nat} (h : CfAt w b c ac cc ast cs) {l : List Int} {n : Nat} (hn : l.length = n) (a : Option Addr) (cs' : Nat) : CfAt (w.setCell ⟨b, 2, none⟩ (.slice a n cs')) b ⟨c.epoch, c.chain, l⟩ ac cc a cs' := by
  have h0 := h.epoch
  have h1 := h.chain
  have h2 := h.stores
  subst hn
  refine ⟨?_, ?_, ?_⟩
  · rw [World.cell?_setCell_other _ _ _ _ (caddr_ne (by decide))]; exact h0
  · rw [World.cell?_setCell_other _ _ _ _ (caddr_ne (by decide))]; exact h1
  · exact World.cell?_setCell_same' _ _ _ (by rw [h2]; rfl)
theorem Box3.setB2 {w W : World} {b2 b3 b4 : Nat} {c c' : Cf} {ac ast ac' ast' : Option Addr} {cc cs cc' cs' : Nat} {x : Cm} (h : Box3 w W b2 b3 b4 c ac cc ast cs x) (j : Nat) (v : Value) (hc : CfAt (W.setCell ⟨b2, j, none⟩ v) b2 c' ac' cc' ast' cs') : Box3 w (W.setCell ⟨b2, j, none⟩ v) b2 b3 b4 c' ac' cc' ast' cs' x := by
  have hp := h.place
  have hk : ∀ {b k : Nat} {v' : Value}, b2 ≠ b → W.cell? ⟨b, k, none⟩ = some v' → (W.setCell ⟨b2, j, none⟩ v).cell? ⟨b, k, none⟩ = some v' := fun hn hv => by
    rw [World.cell?_setCell_other _ _ _ _ (fun e => hn (by cases e; rfl))]; exact hv
  refine ⟨hc, ⟨hk hp.2.2.2.2.2.1 h.cm.kind, hk hp.2.2.2.2.2.1 h.cm.node, hk hp.2.2.2.2.2.1 h.cm.birth, hk hp.2.2.2.2.2.1 h.cm.epoch⟩, ⟨hk hp.2.2.2.2.2.2.1 h.res.epoch, hk hp.2.2.2.2.2.2.1 h.res.chain, hk hp.2.2.2.2.2.2.1 h.res.stores⟩, fun j => (by rw [World.frozen?_setCell]; exact h.f2 j), fun j => (by rw [World.frozen?_setCell]; exact h.f4 j), h.below.setCell (p := ⟨b2, j, none⟩) hp.1 _, by rw [World.size_setCell]; exact hp⟩
theorem Box3.later2 {w W W' : World} {n b2 b3 b4 : Nat} {c : Cf} {ac ast : Option Addr} {cc cs : Nat} {x : Cm} (h : Box3 w W b2 b3 b4 c ac cc ast cs x) (hb : Below n W W') (hn : b2 < n ∧ b3 < n ∧ b4 < n ∧ w.heap.size ≤ n) : Box3 w W' b2 b3 b4 c ac cc ast cs x := by
  have hc : ∀ {b k : Nat} {v : Value}, b < n → W.cell? ⟨b, k, none⟩ = some v → W'.cell? ⟨b, k, none⟩ = some v := fun hl hv => (hb.cell (p := ⟨_, _, none⟩) hl).trans hv
  refine ⟨⟨hc hn.1 h.cf.epoch, hc hn.1 h.cf.chain, hc hn.1 h.cf.stores⟩, ⟨hc hn.2.1 h.cm.kind, hc hn.2.1 h.cm.node, hc hn.2.1 h.cm.birth, hc hn.2.1 h.cm.epoch⟩, ⟨hc hn.2.2.1 h.res.epoch, hc hn.2.2.1 h.res.chain, hc hn.2.2.1 h.res.stores⟩, fun j => (hb.frozen (p := ⟨b2, j, none⟩) hn.1).trans (h.f2 j), fun j => (hb.frozen (p := ⟨b4, j, none⟩) hn.2.2.1).trans (h.f4 j), h.below.trans (hb.mono hn.2.2.2), by have := hb.size; have := h.place; omega⟩
/-- Where the switch stands. -/
structure SwS (w W : World) (B b2 b3 b4 : Nat) (c : Cf) (ac : Option Addr) (cc : Nat) (ast : Option Addr) (cs : Nat) (x : Cm) : Prop where
  box : Box3 w W b2 b3 b4 c ac cc ast cs x
  own : CfO W B c ac cc ast cs
  low : b2 < B ∧ b3 < B ∧ b4 < B ∧ w.heap.size ≤ B
  base : B ≤ W.heap.size
noncomputable def codeIsR (k : Nat) : Code → Bool
  | .region id _ _ => id == k
  | .seq a _ => codeIsR k a
  | _ => false
/-- The code from a region on. -/
noncomputable def codeFrom (k : Nat) : Code → Option Code
  | .seq a b => if codeIsR k a then some (.seq a b) else match codeFrom k a with
    | some c => some c
    | none => codeFrom k b
  | .cond _ a b => match codeFrom k a with
    | some c => some c
    | none => codeFrom k b
  | .block _ c => codeFrom k c
  | .scope c => codeFrom k c
  | .loop c => codeFrom k c
  | _ => none
noncomputable def doTail : Code := (Try.f18.body.bind (codeFrom 36)).getD .skip
/-- The first block. -/
noncomputable def codeBlock : Code → Option Code
  | .block i c => some (.block i c)
  | .seq a b => match codeBlock a with
    | some c => some c
    | none => codeBlock b
  | .cond _ a b => match codeBlock a with
    | some c => some c
    | none => codeBlock b
  | .scope c => codeBlock c
  | .loop c => codeBlock c
  | _ => none
noncomputable def doSwitch : Code := (Try.f18.body.bind codeBlock).getD .skip

set_option maxRecDepth 8000 in
set_option maxHeartbeats 1000000 in
theorem tail_err {w W : World} {b2 b3 b4 : Nat} {c : Cf} {ac ast : Option Addr} {cc cs : Nat} {x : Cm} {r : Cf × Int} (h : Box3 w W b2 b3 b4 c ac cc ast cs x) {k : Int} (hk : (k != 0) = true) (hr : r = (Ms.zero, k)) {u0 u1 u3 u5 u6 u7 u8 u9 u11 u12 u13 u14 u15 u16 u17 u18 u19 u20 u21 u22 u23 u24 u25 u26 u27 u28 u29 u30 u31 u32 u33 u34 u35 u36 u37 u38 u39 u40 u41 u42 u43 u44 u45 u46 u47 u48 u49 u50 u51 u52 u53 u54 u55 u56 u57 u58 u59 u60 u61 u62 u63 u64 u65 u66 u67 u68 u69 u70 u71 u72 u73 u74 u75 u76 u77 u78 u79 u80 u81 u82 u83 u84 u85 u86 u87 u88 u89 u90 u91 u92 u93 u94 u95 u96 u97 u98 u99 u100 u101 u102 u103 u104 u105 u106 u107 u108 u109 u110 u111 u112 u113 u114 u115 u116 u117 u118 u119 u120 u121 u122 u123 u124 u125 u126 u127 u128 u129 u130 u131 u132 u133 u134 u135 u136 u137 u138 u139 u140 u141 u142 u143 u144 u145 u146 u147 u148 u149 u150 u151 u152 u153 u154 u155 u156 u157 u158 u159 u160 u161 u162 u163 : Value} :
    Code.wp Try.prog doTail (bodyPost Try.prog Try.f18 (DoP w r)) ⟨#[u0, u1, .pointer (some ⟨b2, 0, none⟩), u3, .pointer (some ⟨b4, 0, none⟩), u5, u6, u7, u8, u9, .int .i64 k, u11, u12, u13, u14, u15, u16, u17, u18, u19, u20, u21, u22, u23, u24, u25, u26, u27, u28, u29, u30, u31, u32, u33, u34, u35, u36, u37, u38, u39, u40, u41, u42, u43, u44, u45, u46, u47, u48, u49, u50, u51, u52, u53, u54, u55, u56, u57, u58, u59, u60, u61, u62, u63, u64, u65, u66, u67, u68, u69, u70, u71, u72, u73, u74, u75, u76, u77, u78, u79, u80, u81, u82, u83, u84, u85, u86, u87, u88, u89, u90, u91, u92, u93, u94, u95, u96, u97, u98, u99, u100, u101, u102, u103, u104, u105, u106, u107, u108, u109, u110, u111, u112, u113, u114, u115, u116, u117, u118, u119, u120, u121, u122, u123, u124, u125, u126, u127, u128, u129, u130, u131, u132, u133, u134, u135, u136, u137, u138, u139, u140, u141, u142, u143, u144, u145, u146, u147, u148, u149, u150, u151, u152, u153, u154, u155, u156, u157, u158, u159, u160, u161, u162, u163], []⟩ W := by
  obtain ⟨y0, y1, y2, hbe⟩ := err_end h
  have HBE := Lib.hid hbe
  have HR := Lib.hid hr
  have r0 := h.res.epoch
  have r1 := h.res.chain
  have r2 := h.res.stores
  have f4 := h.f4
  clear hbe h hr
  conv => arg 2; whnf
  go_wp2
  refine bodyPost_ret (v := .tuple #[.agg #[.int .i64 0, .slice none 0 0, .slice none 0 0], .int .i64 k]) (by simp [results, Try.results18, go_sem, y0, y1, y2]) rfl ?_
  rw [HR.out]
  exact DoP.err HBE.out

set_option maxRecDepth 8000 in
set_option maxHeartbeats 1000000 in
theorem tail_ok {w W : World} {B b2 b3 b4 : Nat} {c : Cf} {ac ast : Option Addr} {cc cs : Nat} {x : Cm} {r : Cf × Int} (h : SwS w W B b2 b3 b4 c ac cc ast cs x) (hep : 0 ≤ c.epoch ∧ c.epoch ≤ 1099511627776) (hr : r = (⟨c.epoch + 1, c.chain, c.stores⟩, 0)) {u0 u1 u3 u5 u6 u7 u8 u9 u11 u12 u13 u14 u15 u16 u17 u18 u19 u20 u21 u22 u23 u24 u25 u26 u27 u28 u29 u30 u31 u32 u33 u34 u35 u36 u37 u38 u39 u40 u41 u42 u43 u44 u45 u46 u47 u48 u49 u50 u51 u52 u53 u54 u55 u56 u57 u58 u59 u60 u61 u62 u63 u64 u65 u66 u67 u68 u69 u70 u71 u72 u73 u74 u75 u76 u77 u78 u79 u80 u81 u82 u83 u84 u85 u86 u87 u88 u89 u90 u91 u92 u93 u94 u95 u96 u97 u98 u99 u100 u101 u102 u103 u104 u105 u106 u107 u108 u109 u110 u111 u112 u113 u114 u115 u116 u117 u118 u119 u120 u121 u122 u123 u124 u125 u126 u127 u128 u129 u130 u131 u132 u133 u134 u135 u136 u137 u138 u139 u140 u141 u142 u143 u144 u145 u146 u147 u148 u149 u150 u151 u152 u153 u154 u155 u156 u157 u158 u159 u160 u161 u162 u163 : Value} :
    Code.wp Try.prog doTail (bodyPost Try.prog Try.f18 (DoP w r)) ⟨#[u0, u1, .pointer (some ⟨b2, 0, none⟩), u3, .pointer (some ⟨b4, 0, none⟩), u5, u6, u7, u8, u9, .int .i64 0, u11, u12, u13, u14, u15, u16, u17, u18, u19, u20, u21, u22, u23, u24, u25, u26, u27, u28, u29, u30, u31, u32, u33, u34, u35, u36, u37, u38, u39, u40, u41, u42, u43, u44, u45, u46, u47, u48, u49, u50, u51, u52, u53, u54, u55, u56, u57, u58, u59, u60, u61, u62, u63, u64, u65, u66, u67, u68, u69, u70, u71, u72, u73, u74, u75, u76, u77, u78, u79, u80, u81, u82, u83, u84, u85, u86, u87, u88, u89, u90, u91, u92, u93, u94, u95, u96, u97, u98, u99, u100, u101, u102, u103, u104, u105, u106, u107, u108, u109, u110, u111, u112, u113, u114, u115, u116, u117, u118, u119, u120, u121, u122, u123, u124, u125, u126, u127, u128, u129, u130, u131, u132, u133, u134, u135, u136, u137, u138, u139, u140, u141, u142, u143, u144, u145, u146, u147, u148, u149, u150, u151, u152, u153, u154, u155, u156, u157, u158, u159, u160, u161, u162, u163], []⟩ W := by
  have hb1 := h.box.setB2 0 (.int .i64 (c.epoch + 1)) (h.box.cf.set0 (c.epoch + 1))
  have ho1 := h.own.setLow (p := ⟨b2, 0, none⟩) h.low.1 (.int .i64 (c.epoch + 1))
  have p0 := h.box.cf.epoch
  have f2 := h.box.f2
  have x0 := hb1.cf.epoch
  have x1 := hb1.cf.chain
  have x2 := hb1.cf.stores
  have s0 := hb1.res.epoch
  have s1 := hb1.res.chain
  have s2 := hb1.res.stores
  have f4 := hb1.f4
  have hfin := cset_at (c := ⟨c.epoch + 1, c.chain, c.stores⟩) (ac := ac) (cc := cc) (ast := ast) (cs := cs) hb1.res
  have hbe := cset_below (c := ⟨c.epoch + 1, c.chain, c.stores⟩) (ac := ac) (cc := cc) (ast := ast) (cs := cs) hb1.below hb1.place.2.1
  have hown : CfO (cset (W.setCell ⟨b2, 0, none⟩ (.int .i64 (c.epoch + 1))) b4 ⟨c.epoch + 1, c.chain, c.stores⟩ ac cc ast cs) B c ac cc ast cs := cset_low ho1 h.low.2.2.1
  have y0 := hfin.epoch
  have y1 := hfin.chain
  have y2 := hfin.stores
  unfold cset at y0 y1 y2 hbe hown
  have HBE := Lib.hid hbe
  have HOW := Lib.hid (hown.mono h.low.2.2.2)
  have HR := Lib.hid hr
  obtain ⟨e0, e1⟩ := hep
  simp only [World.frozen?_setCell] at f4
  obtain ⟨ep, hep⟩ : ∃ ep, ep = c.epoch := ⟨_, rfl⟩
  obtain ⟨n, hn⟩ : ∃ n, n = c.chain.length := ⟨_, rfl⟩
  obtain ⟨m, hm⟩ : ∃ n, n = c.stores.length := ⟨_, rfl⟩
  have HN := Lib.hid (And.intro hn (And.intro hm hep))
  simp only [← hep, ← hn, ← hm] at p0 x0 x1 x2 s0 s1 s2 f4 y0 y1 y2 hbe hown HBE HOW HR e0 e1
  clear hn hm hep hbe hown hfin hb1 ho1 hr h
  conv => arg 2; whnf
  go_wp2
  refine bodyPost_ret (v := .tuple #[.agg #[.int .i64 (ep + 1), .slice ac n cc, .slice ast m cs], .int .i64 0]) (by simp [results, Try.results18, go_sem, y0, y1, y2]) rfl ?_
  rw [HR.out]
  obtain ⟨hn, hm, hep⟩ := HN.out
  refine ⟨ac, cc, ast, cs, ?_, ⟨HOW.out.chain, HOW.out.stores⟩, HBE.out⟩
  unfold cval
  rw [hn, hm, hep]
end Go.Proofs.Ytincllchoflpmaa
