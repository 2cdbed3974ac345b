/- The walk of MergeParts. -/
import Derived.Test.YtmmlgcfhcdpolaaMgZ
import Derived.Test.YtmmlgcfhcdpolaaReads2
import Derived.Test.YtmmlgcfhcdpolaaInts
import Derived.Deep.DeepCutAuto
namespace Go.Proofs.Ytmmlgcfhcdpolaa
open Go.RowKit
set_option linter.unusedVariables false

/-! Parts, plain. -/
/-- What part k holds of the first i entries. -/
def partTo (num : Nat → Nat) (l : List Ent) (k : Nat) : Nat → List Ent
  | 0 => []
  | i + 1 => if num i = k then partTo num l k i ++ [nth l i] else partTo num l k i
theorem partTo_mem {num : Nat → Nat} {l : List Ent} {k : Nat} {x : Ent} : ∀ {i : Nat}, x ∈ partTo num l k i ↔ ∃ j, j < i ∧ num j = k ∧ x = nth l j
  | 0 => by simp [partTo]
  | i + 1 => by
    unfold partTo
    split
    · rename_i h
      rw [List.mem_append, partTo_mem, List.mem_singleton]
      constructor
      · rintro (⟨j, h1, h2, h3⟩ | h1)
        · exact ⟨j, by omega, h2, h3⟩
        · exact ⟨i, by omega, h, h1⟩
      · rintro ⟨j, h1, h2, h3⟩
        by_cases e : j = i
        · subst e; exact .inr h3
        · exact .inl ⟨j, by omega, h2, h3⟩
    · rename_i h
      rw [partTo_mem]
      constructor
      · rintro ⟨j, h1, h2, h3⟩; exact ⟨j, by omega, h2, h3⟩
      · rintro ⟨j, h1, h2, h3⟩
        by_cases e : j = i
        · subst e; exact absurd h2 h
        · exact ⟨j, by omega, h2, h3⟩
theorem partTo_sub (num : Nat → Nat) (l : List Ent) (k : Nat) : ∀ {i : Nat}, i ≤ l.length → List.Sublist (partTo num l k i) (l.take i)
  | 0, _ => by simp [partTo]
  | i + 1, h => by
    unfold partTo
    have ih := partTo_sub num l k (i := i) (by omega)
    rw [take_snoc l (by omega)]
    split
    · exact ih.append (List.Sublist.refl _)
    · exact ih.trans (List.sublist_append_left _ _)
theorem InL_of_mem {l : List Ent} (hu : ∀ y ∈ l, ∀ x ∈ l, Ent.eqv y x → y = x) : ∀ {ls : List (List Ent)} {x : Ent}, (∀ k ∈ ls, ∀ y ∈ k, y ∈ l) → x ∈ l → (∃ k ∈ ls, x ∈ k) → Ent.InL ls x
  | [], _, _, _, h => by obtain ⟨k, hk, _⟩ := h; cases hk
  | k :: ls, x, hs, hx, h => by
    by_cases e : x ∈ k
    · exact .inl e
    · refine .inr ⟨InL_of_mem hu (fun j hj => hs j (by simp [hj])) hx ?_, fun y hy he => ?_⟩
      · obtain ⟨j, hj, hxj⟩ := h
        rcases List.mem_cons.1 hj with e2 | e2
        · rw [e2] at hxj; exact absurd hxj e
        · exact ⟨j, e2, hxj⟩
      · have := hu y (hs k (by simp) y hy) x hx he
        rw [this] at hy
        exact e hy
theorem sorted_unique {l : List Ent} (h : l.Pairwise Ent.lt) : ∀ y ∈ l, ∀ x ∈ l, Ent.eqv y x → y = x := by
  induction l with
  | nil => intro y hy; cases hy
  | cons a l ih =>
    rw [List.pairwise_cons] at h
    intro y hy x hx he
    rcases List.mem_cons.1 hy with e1 | e1 <;> rcases List.mem_cons.1 hx with e2 | e2
    · rw [e1, e2]
    · rw [e1] at he; exact absurd he (Ent.lt_not_eqv (h.1 x e2))
    · rw [e2] at he; exact absurd (Ent.eqv_symm he) (Ent.lt_not_eqv (h.1 y e1))
    · exact ih h.2 y e1 x e2 he
theorem parts_merge {num : Nat → Nat} {l : List Ent} (hr : Ent.Right l) (h7 : ∀ i, i < l.length → num i < 7) : Ent.mergeL ((List.range 7).map fun k => partTo num l k l.length) = l ∧ Ent.allR ((List.range 7).map fun k => partTo num l k l.length) = true := by
  have hsub : ∀ k, List.Sublist (partTo num l k l.length) l := fun k => by
    have := partTo_sub num l k (Nat.le_refl l.length)
    rwa [List.take_length] at this
  have hs : ∀ k ∈ (List.range 7).map (fun k => partTo num l k l.length), k.Pairwise Ent.lt := fun k hk => by
    obtain ⟨j, _, rfl⟩ := List.mem_map.1 hk
    exact hr.2.sublist (hsub j)
  constructor
  · refine Ent.sorted_ext (Ent.merge_sorted hs) hr.2 fun x => ?_
    rw [Ent.mem_merge hs]
    constructor
    · intro h
      obtain ⟨k, hk, hx⟩ := Ent.InL_mem h
      obtain ⟨j, _, rfl⟩ := List.mem_map.1 hk
      exact (hsub j).subset hx
    · intro hx
      refine InL_of_mem (sorted_unique hr.2) (fun k hk y hy => ?_) hx ?_
      · obtain ⟨j, _, rfl⟩ := List.mem_map.1 hk
        exact (hsub j).subset hy
      · obtain ⟨i, hi, rfl⟩ := List.getElem_of_mem hx
        exact ⟨_, List.mem_map.2 ⟨num i, List.mem_range.2 (h7 i hi), rfl⟩, partTo_mem.2 ⟨i, hi, rfl, (nth_eq _ hi).symm⟩⟩
  · unfold Ent.allR
    rw [List.all_eq_true]
    intro k hk
    obtain ⟨j, _, rfl⟩ := List.mem_map.1 hk
    exact Ent.rightB_iff.2 (hr.sub (hsub j))
/-- A number's part. -/
def partOf (ln : List Int) (i : Nat) : Nat := if i < ln.length then (Int.tmod (nth ln i) 7).natAbs else 0
theorem partOf_lt (ln : List Int) (i : Nat) : partOf ln i < 7 := by
  unfold partOf
  split
  · generalize nth ln i = z
    have := Int.natAbs_tmod z 7
    rw [this]
    exact Nat.mod_lt _ (by decide)
  · omega

/-! Seven rows of entries, their slices in one block. -/
def EntO (w : World) (O : Nat) (cs : List Value) (i : Nat) (e : Ent) : Prop :=
  ∃ ai ci, (∀ j v, (entCells e ai ci)[j]? = some v → cs[i * 4 + j]? = some v) ∧ Bs w ai e.val.length ci e.val ∧ (0 < e.val.length → ∀ x, ai = some x → x.block < O)
/-- A row of entries that is the call's own; their values lie below O. -/
structure AccO (w : World) (B O : Nat) (a : Option Addr) (n c : Nat) (l : List Ent) : Prop where
  len : l.length = n
  row : ∃ cs, w.ownsRow B 25 4 (.slice a n c) n cs ∧ ∀ i, i < n → EntO w O cs i (nth l i)
theorem AccO.nil (w : World) (B O : Nat) : AccO w B O none 0 0 [] := ⟨rfl, [], World.ownsRow_nil w B _ _, fun i hi => by omega⟩
theorem AccO.new {w : World} {B O n c : Nat} {a : Option Addr} {l : List Ent} (h : AccO w B O a n c l) : ∀ z, a = some z → B ≤ z.block ∧ z.block < w.heap.size := by
  obtain ⟨cs, h1, _⟩ := h.row
  intro z hz
  subst hz
  exact World.ownsRow.lt h1 z.block rfl
theorem AccO.es {w : World} {B O n c : Nat} {a : Option Addr} {l : List Ent} (h : AccO w B O a n c l) (hO : O ≤ B) : Es w a n c l := by
  obtain ⟨cs, h1, h2⟩ := h.row
  have : AccE w B a n c l := by
    refine ⟨h.len, cs, h1, fun i hi => ?_⟩
    obtain ⟨ai, ci, g1, g2, g3⟩ := h2 i hi
    exact ⟨ai, ci, g1, g2, fun h0 x y hx hy e => by have := g3 h0 x hx; have := (h.new y hy).1; omega⟩
  exact this.es
theorem AccO.acc {w : World} {B O n c : Nat} {a : Option Addr} {l : List Ent} (h : AccO w B O a n c l) (hO : O ≤ B) : AccE w B a n c l := by
  obtain ⟨cs, h1, h2⟩ := h.row
  refine ⟨h.len, cs, h1, fun i hi => ?_⟩
  obtain ⟨ai, ci, g1, g2, g3⟩ := h2 i hi
  exact ⟨ai, ci, g1, g2, fun h0 x y hx hy e => by have := g3 h0 x hx; have := (h.new y hy).1; omega⟩
/-- A change of another block. -/
theorem AccO.other {w w' : World} {B O n c : Nat} {a : Option Addr} {l : List Ent} {row : Option Nat} (h : AccO w B O a n c l) (hg : w.grownBy w' row) (hne : ∀ g, row = some g → O ≤ g ∧ ∀ z, a = some z → z.block ≠ g) : AccO w' B O a n c l := by
  obtain ⟨cs, h1, h2⟩ := h.row
  refine ⟨h.len, cs, h1.kept hg ?_, fun i hi => ?_⟩
  · rw [own_block h1]
    cases a with
    | none =>
      exact .inl rfl
    | some x =>
      refine .inr fun e => ?_
      exact (hne x.block (by simpa using e.symm)).2 x rfl rfl
  · obtain ⟨ai, ci, g1, g2, g3⟩ := h2 i hi
    refine ⟨ai, ci, g1, ⟨g2.1, g2.2.1, g2.2.2.1, ?_⟩, g3⟩
    by_cases h0 : 0 < (nth l i).val.length
    · refine g2.2.2.2.grown hg fun x hx e => ?_
      have := g3 h0 x hx
      have := (hne x.block e.symm).1
      omega
    · have : (nth l i).val = [] := List.eq_nil_of_length_eq_zero (by omega)
      rw [this]
      exact Row.nil _ _
section
variable {w : World} {ops : Array Oper} {rest : List Oper} {o : Oper} {a : Act} {Q : Exit → Act → World → Prop}
/-- append of one entry whose value lies below O. -/
theorem app_ento (hgd : Region.wanted o (yielded ops a.tmps) = true) (s x : Operand) (ho : o.op = .call { callee := .builtin .append, args := #[s, x], argTypes := #[26, 26] })
    (B O : Nat) {aq : Option Addr} {n c : Nat} {l : List Ent} (hs : a.eval s = .slice aq n c) (hacc : AccO w B O aq n c l) (hOB : O ≤ B)
    {k : Nat} {e : Ent} {ae : Option Addr} {ce : Nat} (hx : a.eval x = .slice (some ⟨k, 0, none⟩) 1 1) (hcell : EntAt w k 0 e ae ce) (he : Bs w ae e.val.length ce e.val)
    (hne : 0 < e.val.length → ∀ x, ae = some x → x.block < O) (hb : n ≤ 1000000000) (hB : B ≤ w.heap.size)
    (h : ∀ a' c' w', AccO w' B O a' (n + 1) c' (l ++ [e]) → Below B w w' → Evol w aq w' a' → wpList Try.prog ops Q rest (a.put o.dst (.slice a' (n + 1) c')) w') : wpList Try.prog ops Q (o :: rest) a w := by
  obtain ⟨i, hi, h0, h1, h2⟩ := info_parts infoE
  obtain ⟨cs, hown, hin⟩ := hacc.row
  have hr : Row w (some ⟨k, 0, none⟩) (entCells e ae ce) := fun j v hj => ⟨k, 0, rfl, hcell.cells j v hj⟩
  refine wpList_app_own hgd s x 26 ho B 25 i (.agg #[.string ByteArray.empty, .int .u64 0, .bool false, .slice none 0 0]) 4 56 Try.underlying26 hi h0 h1 h2 rfl (by decide) aq n c cs hs hown (some ⟨k, 0, none⟩) 1 1 (entCells e ae ce) hx hr rfl (entCells_one e ae ce) (by omega) (by simp only [maxLen]; omega) hB ?_
  intro a' c' w' g1 g2
  have hold : ∀ x, aq = some x → B ≤ x.block := fun x hx => (hacc.new x hx).1
  have hbs : ∀ {ai : Option Addr} {m ci : Nat} {b : List UInt8}, Bs w ai m ci b → (0 < m → ∀ x, ai = some x → x.block < O) → Bs w' ai m ci b := fun hb hO => hb.evol g2 (fun h0 y x hy hx e => by have := hO h0 y hy; have := hold x hx; omega)
  refine h a' c' w' ⟨by simp [hacc.len], cs ++ entCells e ae ce, g1, fun j hj => ?_⟩ (g2.below hB hold) g2
  have hcl : cs.length = n * 4 := hown.1
  by_cases ej : j = n
  · subst ej
    rw [nth_eq _ (by simp [hacc.len])]
    have : (l ++ [e])[j]'(by simp [hacc.len]) = e := by simp [← hacc.len]
    rw [this]
    exact ⟨ae, ce, fun i v hi => by rw [List.getElem?_append_right (by omega), hcl, Nat.add_sub_cancel_left]; exact hi, hbs he hne, hne⟩
  · rw [nth_append_left _ _ (by rw [hacc.len]; omega)]
    obtain ⟨ai, ci, k1, k2, k3⟩ := hin j (by omega)
    exact ⟨ai, ci, fun i v hi => by rw [List.getElem?_append_left (List.getElem?_eq_some_iff.1 (k1 i v hi)).1]; exact k1 i v hi, hbs k2 k3, k3⟩
end
def upd {α : Type} (f : Nat → α) (k : Nat) (v : α) : Nat → α := fun j => if j = k then v else f j
theorem upd_same {α : Type} (f : Nat → α) (k : Nat) (v : α) : upd f k v k = v := by simp [upd]
theorem upd_other {α : Type} (f : Nat → α) {k j : Nat} (v : α) (h : j ≠ k) : upd f k v j = f j := by simp [upd, h]
structure Seven (w : World) (O b5 : Nat) (A : Nat → Option Addr) (N C : Nat → Nat) (pl : Nat → List Ent) : Prop where
  cell : ∀ k, k < 7 → w.cell? ⟨b5, k, none⟩ = some (.slice (A k) (N k) (C k))
  frz : ∀ k, w.frozen? ⟨b5, k, none⟩ = false
  acc : ∀ k, k < 7 → AccO w (b5 + 1) O (A k) (N k) (C k) (pl k)
  apart : ∀ j k, j < 7 → k < 7 → j ≠ k → ∀ x y, A j = some x → A k = some y → x.block ≠ y.block
theorem Seven.below {w w' : World} {O b5 : Nat} {A : Nat → Option Addr} {N C : Nat → Nat} {pl : Nat → List Ent} (h : Seven w O b5 A N C pl) (hb : Below w.heap.size w w') : Seven w' O b5 A N C pl := by
  have hlt : b5 < w.heap.size := World.block_lt_of_cell? _ _ (h.cell 0 (by omega))
  refine ⟨fun k hk => cell_later hb (h.cell k hk), fun k => (hb.frozen (p := ⟨b5, k, none⟩) hlt).trans (h.frz k), fun k hk => ?_, h.apart⟩
  obtain ⟨cs, h1, h2⟩ := (h.acc k hk).row
  exact ⟨(h.acc k hk).len, cs, own_below h1 hb, fun i hi => by obtain ⟨ai, ci, g1, g2, g3⟩ := h2 i hi; exact ⟨ai, ci, g1, g2.below hb, g3⟩⟩
theorem Seven.step {w w4 : World} {O b5 k c' : Nat} {A : Nat → Option Addr} {N C : Nat → Nat} {pl : Nat → List Ent} {a' : Option Addr} {e : Ent} (h : Seven w O b5 A N C pl) (hk : k < 7) (hO : O ≤ b5)
    (h4 : AccO w4 (b5 + 1) O a' (N k + 1) c' (pl k ++ [e])) (hev : Evol w (A k) w4 a') :
    Seven (w4.setCell ⟨b5, k, none⟩ (.slice a' (N k + 1) c')) O b5 (upd A k a') (upd N k (N k + 1)) (upd C k c') (upd pl k (pl k ++ [e])) := by
  have hrow : ∀ g, (A k).map (·.block) = some g → b5 + 1 ≤ g := fun g hg => by
    cases ha : A k with
    | none => rw [ha] at hg; cases hg
    | some z => rw [ha] at hg; have := ((h.acc k hk).new z ha).1; have e : z.block = g := by simpa using hg
                omega
  have hb5 : some b5 ≠ (A k).map (·.block) := fun e => by have := hrow b5 e.symm; omega
  have hcell : ∀ j, j < 7 → w4.cell? ⟨b5, j, none⟩ = some (.slice (A j) (N j) (C j)) := fun j hj => hev.1.cell (h.cell j hj) hb5
  have hfrz : ∀ j, w4.frozen? ⟨b5, j, none⟩ = false := fun j => by
    have hlt : b5 < w.heap.size := World.block_lt_of_cell? _ _ (h.cell 0 (by omega))
    have hh := hev.1.block b5 hlt hb5
    have h2 := h.frz j
    unfold World.frozen? at h2 ⊢
    rw [hh]; exact h2
  have hgr : w4.grownBy (w4.setCell ⟨b5, k, none⟩ (.slice a' (N k + 1) c')) (some b5) := ⟨rfl, rfl, rfl, by simp, fun i _ hi => Below.heap_setCell _ _ _ i (fun e => hi (by rw [e]))⟩
  have hset : ∀ {aj : Option Addr} {nj cj : Nat} {lj : List Ent}, AccO w4 (b5 + 1) O aj nj cj lj → AccO (w4.setCell ⟨b5, k, none⟩ (.slice a' (N k + 1) c')) (b5 + 1) O aj nj cj lj := fun hj =>
    hj.other hgr (fun g hg => by cases hg; exact ⟨hO, fun z hz => by have := (hj.new z hz).1; omega⟩)
  have hoth : ∀ j, j < 7 → j ≠ k → AccO w4 (b5 + 1) O (A j) (N j) (C j) (pl j) := fun j hj hjk =>
    (h.acc j hj).other hev.1 (fun g hg => ⟨by have := hrow g hg; omega, fun z hz => by
      cases ha : A k with
      | none => rw [ha] at hg; cases hg
      | some y =>
        rw [ha] at hg
        have e : y.block = g := by simpa using hg
        rw [← e]
        exact h.apart j k hj hk hjk z y hz ha⟩)
  have hfar : ∀ j, j < 7 → j ≠ k → ∀ x y, A j = some x → a' = some y → x.block ≠ y.block := fun j hj hjk x y hx hy e => by
    rcases hev.2 y hy with g | g
    · cases ha : A k with
      | none => rw [ha] at g; cases g
      | some z =>
        rw [ha] at g
        have e2 : z.block = y.block := by simpa using g
        exact h.apart j k hj hk hjk x z hx ha (by rw [e, e2])
    · have := ((h.acc j hj).new x hx).2
      omega
  refine ⟨fun j hj => ?_, fun j => by rw [World.frozen?_setCell]; exact hfrz j, fun j hj => ?_, fun i j hi hj hij x y hx hy => ?_⟩
  · by_cases e : j = k
    · subst e
      rw [upd_same, upd_same, upd_same]
      exact World.cell?_setCell_same' _ _ _ (by rw [hcell j hj]; rfl)
    · rw [upd_other _ _ e, upd_other _ _ e, upd_other _ _ e]
      exact (World.cell?_setCell_other _ _ _ _ (fun k => e (by cases k; rfl))).trans (hcell j hj)
  · by_cases e : j = k
    · subst e
      rw [upd_same, upd_same, upd_same, upd_same]
      exact hset h4
    · rw [upd_other _ _ e, upd_other _ _ e, upd_other _ _ e, upd_other _ _ e]
      exact hset (hoth j hj e)
  · by_cases e1 : i = k
    · subst e1
      rw [upd_same] at hx
      rw [upd_other _ _ (Ne.symm hij)] at hy
      exact (hfar j hj (Ne.symm hij) y x hy hx).symm
    · by_cases e2 : j = k
      · subst e2
        rw [upd_same] at hy
        rw [upd_other _ _ e1] at hx
        exact hfar i hi e1 x y hx hy
      · rw [upd_other _ _ e1] at hx
        rw [upd_other _ _ e2] at hy
        exact h.apart i j hi hj hij x y hx hy
theorem Seven.beside {w w4 : World} {O b5 k : Nat} {A : Nat → Option Addr} {N C : Nat → Nat} {pl : Nat → List Ent} {a' : Option Addr} (h : Seven w O b5 A N C pl) (hk : k < 7) (hev : Evol w (A k) w4 a') :
    w4.cell? ⟨b5, k, none⟩ = some (.slice (A k) (N k) (C k)) ∧ w4.frozen? ⟨b5, k, none⟩ = false := by
  have hb5 : some b5 ≠ (A k).map (·.block) := fun e => by
    cases ha : A k with
    | none => rw [ha] at e; cases e
    | some z => rw [ha] at e; have := ((h.acc k hk).new z ha).1; have e : b5 = z.block := by simpa using e
                omega
  have hlt : b5 < w.heap.size := World.block_lt_of_cell? _ _ (h.cell 0 (by omega))
  exact ⟨hev.1.cell (h.cell k hk) hb5, by have hh := hev.1.block b5 hlt hb5; have h2 := h.frz k; unfold World.frozen? at h2 ⊢; rw [hh]; exact h2⟩
theorem Seven.lt {w : World} {O b5 : Nat} {A : Nat → Option Addr} {N C : Nat → Nat} {pl : Nat → List Ent} (h : Seven w O b5 A N C pl) : b5 < w.heap.size := World.block_lt_of_cell? _ _ (h.cell 0 (by omega))
theorem ess7 (w : World) (A : Nat → Option Addr) (N C : Nat → Nat) (pl : Nat → List Ent) (h : ∀ k, k < 7 → Es w (A k) (N k) (C k) (pl k)) :
    Ess (w.alloc (.cells #[.slice (A 0) (N 0) (C 0), .slice (A 1) (N 1) (C 1), .slice (A 2) (N 2) (C 2), .slice (A 3) (N 3) (C 3), .slice (A 4) (N 4) (C 4), .slice (A 5) (N 5) (C 5), .slice (A 6) (N 6) (C 6)] 26)) (some ⟨w.heap.size, 0, none⟩) 7 7 ((List.range 7).map pl) := by
  have hn := heap_alloc_new w (.cells #[.slice (A 0) (N 0) (C 0), .slice (A 1) (N 1) (C 1), .slice (A 2) (N 2) (C 2), .slice (A 3) (N 3) (C 3), .slice (A 4) (N 4) (C 4), .slice (A 5) (N 5) (C 5), .slice (A 6) (N 6) (C 6)] 26)
  have hb := below_alloc1 w (.cells #[.slice (A 0) (N 0) (C 0), .slice (A 1) (N 1) (C 1), .slice (A 2) (N 2) (C 2), .slice (A 3) (N 3) (C 3), .slice (A 4) (N 4) (C 4), .slice (A 5) (N 5) (C 5), .slice (A 6) (N 6) (C 6)] 26)
  have hc := fun j => cell_of_row _ _ j _ _ _ hn
  refine ⟨by simp, Nat.le_refl _, by simp [maxLen], fun i hi => ?_⟩
  match i, hi with
  | 0, _ => exact ⟨w.heap.size, 0, _, _, _, rfl, hc 0, (h 0 (by omega)).below hb⟩
  | 1, _ => exact ⟨w.heap.size, 0, _, _, _, rfl, hc 1, (h 1 (by omega)).below hb⟩
  | 2, _ => exact ⟨w.heap.size, 0, _, _, _, rfl, hc 2, (h 2 (by omega)).below hb⟩
  | 3, _ => exact ⟨w.heap.size, 0, _, _, _, rfl, hc 3, (h 3 (by omega)).below hb⟩
  | 4, _ => exact ⟨w.heap.size, 0, _, _, _, rfl, hc 4, (h 4 (by omega)).below hb⟩
  | 5, _ => exact ⟨w.heap.size, 0, _, _, _, rfl, hc 5, (h 5 (by omega)).below hb⟩
  | 6, _ => exact ⟨w.heap.size, 0, _, _, _, rfl, hc 6, (h 6 (by omega)).below hb⟩
  | i + 7, hi => omega
set_option maxHeartbeats 8000000 in
theorem mergeParts_walk (a an : Option Addr) (n c nn cn : Nat) (l : List Ent) (ln : List Int) (w : World) (h : Es w a n c l) (hn : Is w an nn cn ln) (hf : Ent.tot l + n ≤ 1000000000) :
    Calls Try.prog 7 #[.slice a n c, .slice an nn cn] w fun e w' => e = .returned (.bool true) ∧ Below w.heap.size w w' := by
  have hle := h.le.1
  have hln := hn.le.1
  have HN := Lib.hid h.1
  have HNN := Lib.hid hn.1
  have HE : Hid (∀ W, Below w.heap.size w W → Es W a n c l) := Lib.hid fun W k => h.below k
  have HI : Hid (∀ W, Below w.heap.size w W → Is W an nn cn ln) := Lib.hid fun W k => hn.below k
  have HF := Lib.hid hf
  clear h hn hf
  go_enter Try.func7, Try.ntmps7
  go_wp2_with fail
  refine (known_any _).mono ?_
  rintro e w1 ⟨rfl, hb1⟩
  have HB1 := Lib.hid hb1
  clear hb1
  go_wp2_with fail
  refine (efew_any a n c l 1000 _ (HE.out _ HB1.out) HF.out (by omega)).mono ?_
  rintro e w2 ⟨rfl, q, rfl⟩
  have HB2 := Lib.hid (below_drewN HB1.out q)
  cases hfw : decide (n ≤ 1000 ∧ Ent.tot l ≤ 131072) with
  | false =>
    clear hfw
    go_wp2
    go_ret
    exact ⟨rfl, HB2.out⟩
  | true =>
    have HFW := Lib.hid (few_yes hfw)
    clear hfw
    go_wp2_with fail
    refine (mright_any a n c l _ (HE.out _ HB2.out)).mono ?_
    rintro e w3 ⟨rfl, hb3⟩
    have HB3 := Lib.hid (HB2.out.trans (hb3.mono HB2.out.size))
    clear hb3
    cases hR : Ent.rightB l with
    | false =>
      clear hR
      go_wp2
      go_ret
      exact ⟨rfl, HB3.out⟩
    | true =>
    have HR := Lib.hid (Ent.rightB_iff.1 hR)
    clear hR
    obtain ⟨b5, hb5⟩ : ∃ b5, b5 = w3.heap.size := ⟨_, rfl⟩
    go_wp2_with fail
    go_loopw [6] (fun i wr => ∃ (k : Nat) (A : Nat → Option Addr) (N C : Nat → Nat), k ≤ n ∧ i = .int .i64 k ∧ Hid (Seven wr w3.heap.size w3.heap.size A N C (fun j => partTo (partOf ln) l j k)) ∧ (∀ j, j < 7 → N j ≤ k) ∧ Hid (Below w3.heap.size w3 wr)) (fun i _ => n - (intOf i).toNat)
    case atStart =>
      refine ⟨0, fun _ => none, fun _ => 0, fun _ => 0, Nat.zero_le _, rfl, Lib.hid ⟨fun k hk => ?_, fun k => ?_, fun k _ => AccO.nil _ _ _, fun _ _ _ _ _ x y h => by cases h⟩, fun _ _ => Nat.le_refl _, Lib.hid (below_alloc1 _ _)⟩
      · have hn := heap_alloc_new w3 (.cells #[.slice none 0 0, .slice none 0 0, .slice none 0 0, .slice none 0 0, .slice none 0 0, .slice none 0 0, .slice none 0 0] 47)
        have hc := fun j => cell_of_row _ _ j _ _ _ hn
        match k, hk with
        | 0, _ => exact hc 0
        | 1, _ => exact hc 1
        | 2, _ => exact hc 2
        | 3, _ => exact hc 3
        | 4, _ => exact hc 4
        | 5, _ => exact hc 5
        | 6, _ => exact hc 6
        | k + 7, hk => omega
      · exact (frozen?_alloc_cells _ _ _ _).trans (by simp [World.frozen?])
    case round =>
      obtain ⟨i, A, N, C, hi, rfl, hsv, hN, hbr⟩ := hrel
      by_cases hlt : i < n
      · go_upto_if 29 with fail
        go_cut [7] (fun s wx => s = .int .i64 (partOf ln i : Nat) ∧ wx = wr)
        case first =>
          by_cases hin : i < nn
          · obtain ⟨bi, oi, rfl, hci⟩ := (HI.out _ (HB3.out.trans (hbr.out.mono HB3.out.size))).get hin
            have t1 : decide (i < nn) = true := decide_eq_true hin
            have hpo : partOf ln i = (Int.tmod (nth ln i) 7).natAbs := by unfold partOf; rw [if_pos (by rw [HNN.out]; exact hin)]
            have hab := Int.natAbs_tmod (nth ln i) 7
            have hbd := partOf_lt ln i
            rw [← hpo] at hab
            have HPO := Lib.hid hpo
            clear hpo hab
            generalize nth ln i = z at *
            by_cases hz : Int.tmod z 7 < 0
            · go_wp2
              go_meet
              have := HPO.out
              exact ⟨by rw [show wrap64 (-z.tmod 7) = ((partOf ln i : Nat) : Int) by rw [show wrap64 (-z.tmod 7) = -z.tmod 7 by unfold wrap64; omega]; omega], rfl⟩
            · go_wp2
              go_meet
              have := HPO.out
              exact ⟨by rw [show z.tmod 7 = ((partOf ln i : Nat) : Int) by omega], rfl⟩
          · have t1 : decide (i < nn) = false := decide_eq_false hin
            have E : partOf ln i = 0 := by unfold partOf; rw [if_neg (by rw [HNN.out]; exact hin)]
            go_wp2
            go_meet
            exact ⟨by rw [E]; rfl, rfl⟩
        case rest =>
          obtain ⟨rfl, rfl⟩ := hcut
          go_upto_region 14 with fail
          have hk7 := partOf_lt ln i
          have hkN := hN _ hk7
          have hst : partTo (partOf ln) l (partOf ln i) (i + 1) = partTo (partOf ln) l (partOf ln i) i ++ [nth l i] := by show (if _ then _ else _) = _; rw [if_pos rfl]
          have hso : ∀ j, j ≠ partOf ln i → partTo (partOf ln) l j (i + 1) = partTo (partOf ln) l j i := fun j hj => by show (if _ then _ else _) = _; rw [if_neg (Ne.symm hj)]
          obtain ⟨be, oe, ae, ce, rfl, hent, hbs⟩ := (HE.out w3 HB3.out).2.2.2 i hlt
          have hval : 0 < (nth l i).val.length → ∀ x, ae = some x → x.block < w3.heap.size := fun h0 => hbs.old h0
          have hent2 := hent.below hbr.out
          have hbs2 := hbs.below hbr.out
          have m0 := hsv.out.cell _ hk7
          have m1 := hent2.key
          have m2 := hent2.seq
          have m3 := hent2.gone
          have m4 := hent2.val
          have HSV : Hid (Seven wc w3.heap.size w3.heap.size A N C (fun j => partTo (partOf ln) l j i)) := hsv
          have HVAL := Lib.hid hval
          have HBS := Lib.hid hbs2
          have HST := Lib.hid hst
          have HSO := Lib.hid hso
          clear hsv hval hbs hbs2 hent hent2 hst hso
          generalize nth l i = x at *
          generalize hk : partOf ln i = k at *
          have hkz : (k : Int) < 7 := by omega
          refine wp_region_order [0, 1, 2, 4, 5, 6] [3, 7] [8] [9, 10, 11] 9 (by intro c a d v w h; cases d <;> exact h) (by kernel_rfl) (by kernel_rfl) (fun W' => ∃ V : BW wc, W' = V.w) ⟨⟨wc.drew, (Below.refl _ _).drew⟩, rfl⟩ ?_
          simp only [opsAt, List.filterMap_cons, List.filterMap_nil, List.getElem?_cons_zero, List.getElem?_cons_succ]
          iterate 6
            apply held_step
            · rfl
            · intro W _
              go_simp
              rfl
          refine held_nil ?_
          iterate 2
            apply held_step
            · rfl
            · rintro _ ⟨V, rfl⟩
              have q0 := BW.cell m0 V
              have q1 := BW.cell m1 V
              have q2 := BW.cell m2 V
              have q3 := BW.cell m3 V
              have q4 := BW.cell m4 V
              go_simp
              rfl
          refine held_nil ?_
          refine walkS_step rfl (fun K hK => ?_)
          go_simp
          refine hK _ _ ⟨⟨_, (Below.refl wc.heap.size wc).drew.alloc (by simp) _⟩, rfl⟩ ?_
          refine walkS_nil ?_
          clear hK
          have hb1 : Below wc.heap.size wc (wc.alloc (.cells #[.string (bstr x.key), .int .u64 x.seq, .bool x.gone, .slice ae x.val.length ce] 25)).drew := (below_alloc1 _ _).drew
          have hbx := (load_box wc x ae ce).below ((Below.refl _ _).drew)
          have hz := HSV.out.lt
          have hz1 := hb1.size
          have HS1 := Lib.hid (HSV.out.below hb1)
          have HBX := Lib.hid hbx
          have HBS1 := Lib.hid (HBS.out.below hb1)
          have HB1w := Lib.hid (hbr.out.trans (hb1.mono hbr.out.size))
          clear hb1 hbx m0 m1 m2 m3 m4 HSV HBS hbr
          have hn1 := HFW.out.1
          obtain ⟨W1, hW1⟩ : ∃ W1, (wc.alloc (.cells #[.string (bstr x.key), .int .u64 x.seq, .bool x.gone, .slice ae x.val.length ce] 25)).drew = W1 := ⟨_, rfl⟩
          rw [hW1] at hz1 HS1 HBX HBS1 HB1w ⊢
          clear hW1
          refine app_ento rfl _ _ rfl (w3.heap.size + 1) w3.heap.size rfl (HS1.out.acc _ hk7) (by omega) rfl HBX.out HBS1.out HVAL.out (by omega) (by omega) ?_
          intro a4 c4 w4 h4 hb4 hev4
          obtain ⟨cb4, fb4⟩ := HS1.out.beside hk7 hev4
          have H4 := Lib.hid h4
          have HB4 := Lib.hid hb4
          have HEV4 := Lib.hid hev4
          clear h4 hb4 hev4
          go_wp2
          go_roundw
          case rel =>
            refine ⟨i + 1, upd A k a4, upd N k (N k + 1), upd C k c4, by omega, by go_num, Lib.hid ?_, fun j hj => ?_, Lib.hid ?_⟩
            · have := HS1.out.step hk7 (Nat.le_refl _) H4.out HEV4.out
              rwa [show upd (fun j => partTo (partOf ln) l j i) k (partTo (partOf ln) l k i ++ [x]) = (fun j => partTo (partOf ln) l j (i + 1)) by
                funext j
                by_cases e : j = k
                · rw [e, upd_same, HST.out]
                · rw [upd_other _ _ e, HSO.out j e]] at this
            · have := hN j hj
              unfold upd
              split
              · rename_i e; rw [e] at this; omega
              · omega
            · exact (HB1w.out.trans (HB4.out.mono (by omega))).setCell (Nat.le_refl _) _
          case measure => simp [intOf]; omega
      · obtain rfl : n = i := by omega
        have hn1 := HFW.out.1
        have hrt := HR.out
        have hln7 : l.length = n := HN.out
        have hpm := parts_merge (num := partOf ln) hrt (fun i _ => partOf_lt ln i)
        rw [hln7] at hpm
        have HPM := Lib.hid hpm
        have c0 := hsv.out.cell 0 (by omega)
        have c1 := hsv.out.cell 1 (by omega)
        have c2 := hsv.out.cell 2 (by omega)
        have c3 := hsv.out.cell 3 (by omega)
        have c4 := hsv.out.cell 4 (by omega)
        have c5 := hsv.out.cell 5 (by omega)
        have c6 := hsv.out.cell 6 (by omega)
        have HES : Hid (∀ k, k < 7 → Es wr (A k) (N k) (C k) (partTo (partOf ln) l k n)) := Lib.hid fun k hk => (hsv.out.acc k hk).es (by omega)
        have HNK := Lib.hid hN
        have HBR := Lib.hid (HB3.out.trans (hbr.out.mono HB3.out.size))
        clear hsv hN hbr hrt hpm
        have HSUB : Hid (∀ k, ∀ e ∈ partTo (partOf ln) l k n, e ∈ l) := Lib.hid fun k e he => List.mem_of_mem_take ((partTo_sub (partOf ln) l k (i := n) (by omega)).subset he)
        clear hln7
        go_wp2_with fail
        refine (merge_any _ 7 7 _ _ (ess7 wr A N C _ HES.out) (by omega) (fun k hk e he => ?_) ?_).mono ?_
        · obtain ⟨j, _, rfl⟩ := List.mem_map.1 hk
          exact HFW.out.2 e (HSUB.out j e he)
        · have h0 := (HES.out 0 (by omega)).1
          have h1 := (HES.out 1 (by omega)).1
          have h2 := (HES.out 2 (by omega)).1
          have h3 := (HES.out 3 (by omega)).1
          have h4 := (HES.out 4 (by omega)).1
          have h5 := (HES.out 5 (by omega)).1
          have h6 := (HES.out 6 (by omega)).1
          have g0 := HNK.out 0 (by omega)
          have g1 := HNK.out 1 (by omega)
          have g2 := HNK.out 2 (by omega)
          have g3 := HNK.out 3 (by omega)
          have g4 := HNK.out 4 (by omega)
          have g5 := HNK.out 5 (by omega)
          have g6 := HNK.out 6 (by omega)
          simp [Ent.sumL, List.range, List.range.loop]
          omega
        rw [(allR_yes HPM.out.2).1, (allR_yes HPM.out.2).2, HPM.out.1]
        rintro e w8 ⟨a8, n8', k8, rfl, ha8, hb8⟩
        have HB8 := Lib.hid (HBR.out.trans (((below_alloc1 wr _).trans (hb8.mono (le_alloc (Nat.le_refl _)))).mono HBR.out.size))
        have HA8 := Lib.hid ha8.es
        clear ha8 hb8 HES c0 c1 c2 c3 c4 c5 c6
        go_wp2_with fail
        refine (srows_same _ _ _ _ _ _ _ _ HA8.out (HE.out _ HB8.out)).mono ?_
        rintro e w9 ⟨rfl, hb9⟩
        have HB9 := Lib.hid (HB8.out.trans (hb9.mono HB8.out.size))
        clear hb9
        go_wp2
        go_ret
        exact ⟨rfl, HB9.out⟩
end Go.Proofs.Ytmmlgcfhcdpolaa
