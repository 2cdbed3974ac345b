/- Lists of entries merged. Plain. -/
import Derived.Test.YtfcfipoldkjloaaMgSpec
namespace Go.Proofs.Ytfcfipoldkjloaa
open Go.RowKit
set_option linter.unusedVariables false
namespace Ent

theorem lt_asymm {a b : Ent} (h : lt a b) : ¬ lt b a := fun k => lt_irrefl a (lt_trans h k)
theorem lt_not_eqv {a b : Ent} (h : lt a b) : ¬ eqv a b := fun k => by
  rcases h with h | h
  · rw [k.1, klt_irrefl] at h; cases h
  · have := k.2; omega
theorem eqv_symm {a b : Ent} (h : eqv a b) : eqv b a := ⟨h.1.symm, h.2.symm⟩
theorem eqv_trans {a b c : Ent} (h : eqv a b) (k : eqv b c) : eqv a c := ⟨h.1.trans k.1, h.2.trans k.2⟩
instance (a b : Ent) : Decidable (eqv a b) := inferInstanceAs (Decidable (_ ∧ _))
/-- Lists in order with the same entries are the same. -/
theorem sorted_ext : ∀ {l m : List Ent}, l.Pairwise lt → m.Pairwise lt → (∀ x, x ∈ l ↔ x ∈ m) → l = m
  | [], [], _, _, _ => rfl
  | [], y :: m, _, _, h => by have := (h y).2 (by simp); cases this
  | x :: l, [], _, _, h => by have := (h x).1 (by simp); cases this
  | x :: l, y :: m, hl, hm, h => by
    rw [List.pairwise_cons] at hl hm
    have hxy : x = y := by
      rcases List.mem_cons.1 ((h x).1 (by simp)) with h1 | h1
      · exact h1
      · rcases List.mem_cons.1 ((h y).2 (by simp)) with h2 | h2
        · exact h2.symm
        · exact absurd (hm.1 x h1) (lt_asymm (hl.1 y h2))
    subst hxy
    congr 1
    refine sorted_ext hl.2 hm.2 fun z => ⟨fun hz => ?_, fun hz => ?_⟩
    · rcases List.mem_cons.1 ((h z).1 (by simp [hz])) with h1 | h1
      · subst h1; exact absurd (hl.1 z hz) (lt_irrefl z)
      · exact h1
    · rcases List.mem_cons.1 ((h z).2 (by simp [hz])) with h1 | h1
      · subst h1; exact absurd (hm.1 z hz) (lt_irrefl z)
      · exact h1
/-- Two lists as one; of the same the first one's. -/
def two : List Ent → List Ent → List Ent
  | [], b => b
  | x :: a, [] => x :: a
  | x :: a, y :: b => if cmp x y = -1 then x :: two a (y :: b) else if cmp x y = 0 then x :: two a b else y :: two (x :: a) b
termination_by a b => a.length + b.length
theorem two_nil (b : List Ent) : two [] b = b := by rw [two]
theorem two_nil_right (a : List Ent) : two a [] = a := by cases a <;> rw [two]
theorem two_cons (x y : Ent) (a b : List Ent) : two (x :: a) (y :: b) = if cmp x y = -1 then x :: two a (y :: b) else if cmp x y = 0 then x :: two a b else y :: two (x :: a) b := by rw [two]
theorem two_spec : ∀ (n : Nat) (a b : List Ent), a.length + b.length ≤ n → a.Pairwise lt → b.Pairwise lt → (two a b).Pairwise lt ∧ ∀ x, x ∈ two a b ↔ x ∈ a ∨ (x ∈ b ∧ ∀ y ∈ a, ¬ eqv y x)
  | n, [], b, _, _, hb => by rw [two_nil]; exact ⟨hb, fun x => by simp⟩
  | n, x :: a, [], _, ha, _ => by rw [two_nil_right]; exact ⟨ha, fun z => by simp⟩
  | 0, x :: a, y :: b, h, _, _ => by simp at h
  | n + 1, x :: a, y :: b, h, ha, hb => by
    simp only [List.length_cons] at h
    have ha' := List.pairwise_cons.1 ha
    have hb' := List.pairwise_cons.1 hb
    rw [two_cons]
    by_cases h1 : cmp x y = -1
    · rw [if_pos h1]
      have hlt := cmp_lt.1 h1
      obtain ⟨s, m⟩ := two_spec n a (y :: b) (by simp only [List.length_cons]; omega) ha'.2 hb
      have hxb : ∀ z ∈ y :: b, lt x z := fun z hz => by
        rcases List.mem_cons.1 hz with e | e
        · rw [e]; exact hlt
        · exact lt_trans hlt (hb'.1 z e)
      refine ⟨List.pairwise_cons.2 ⟨fun z hz => ?_, s⟩, fun z => ?_⟩
      · rcases (m z).1 hz with e | e
        · exact ha'.1 z e
        · exact hxb z e.1
      · rw [List.mem_cons, m z, (List.mem_cons : z ∈ x :: a ↔ _)]
        constructor
        · rintro (e | e | e)
          · exact .inl (.inl e)
          · exact .inl (.inr e)
          · refine .inr ⟨e.1, fun u hu => ?_⟩
            rcases List.mem_cons.1 hu with k | k
            · rw [k]; exact lt_not_eqv (hxb z e.1)
            · exact e.2 u k
        · rintro ((e | e) | e)
          · exact .inl e
          · exact .inr (.inl e)
          · exact .inr (.inr ⟨e.1, fun u hu => e.2 u (by simp [hu])⟩)
    · rw [if_neg h1]
      by_cases h2 : cmp x y = 0
      · rw [if_pos h2]
        have heq := cmp_eq.1 h2
        obtain ⟨s, m⟩ := two_spec n a b (by omega) ha'.2 hb'.2
        have hxb : ∀ z ∈ b, lt x z := fun z hz => eqv_lt heq (hb'.1 z hz)
        refine ⟨List.pairwise_cons.2 ⟨fun z hz => ?_, s⟩, fun z => ?_⟩
        · rcases (m z).1 hz with e | e
          · exact ha'.1 z e
          · exact hxb z e.1
        · rw [List.mem_cons, m z, (List.mem_cons : z ∈ x :: a ↔ _)]
          constructor
          · rintro (e | e | e)
            · exact .inl (.inl e)
            · exact .inl (.inr e)
            · refine .inr ⟨by simp [e.1], fun u hu => ?_⟩
              rcases List.mem_cons.1 hu with k | k
              · rw [k]; exact lt_not_eqv (hxb z e.1)
              · exact e.2 u k
          · rintro ((e | e) | e)
            · exact .inl e
            · exact .inr (.inl e)
            · rcases List.mem_cons.1 e.1 with k | k
              · exact absurd (by rw [k]; exact heq) (e.2 x (by simp))
              · exact .inr (.inr ⟨k, fun u hu => e.2 u (by simp [hu])⟩)
      · rw [if_neg h2]
        have hlt : lt y x := by
          rcases cmp_cases x y with k | k | k
          · exact absurd k h1
          · exact absurd k h2
          · exact cmp_gt.1 k
        obtain ⟨s, m⟩ := two_spec n (x :: a) b (by simp only [List.length_cons]; omega) ha hb'.2
        have hya : ∀ z ∈ x :: a, lt y z := fun z hz => by
          rcases List.mem_cons.1 hz with e | e
          · rw [e]; exact hlt
          · exact lt_trans hlt (ha'.1 z e)
        refine ⟨List.pairwise_cons.2 ⟨fun z hz => ?_, s⟩, fun z => ?_⟩
        · rcases (m z).1 hz with e | e
          · exact hya z e
          · exact hb'.1 z e.1
        · rw [List.mem_cons, m z]
          constructor
          · rintro (e | e | e)
            · exact .inr ⟨by simp [e], fun u hu => by rw [e]; exact fun k => lt_not_eqv (hya u hu) (eqv_symm k)⟩
            · exact .inl e
            · exact .inr ⟨by simp [e.1], e.2⟩
          · rintro (e | e)
            · exact .inr (.inl e)
            · rcases List.mem_cons.1 e.1 with k | k
              · exact .inl k
              · exact .inr (.inr ⟨k, e.2⟩)
theorem two_sorted {a b : List Ent} (ha : a.Pairwise lt) (hb : b.Pairwise lt) : (two a b).Pairwise lt := (two_spec _ a b (Nat.le_refl _) ha hb).1
theorem mem_two {a b : List Ent} (ha : a.Pairwise lt) (hb : b.Pairwise lt) (x : Ent) : x ∈ two a b ↔ x ∈ a ∨ (x ∈ b ∧ ∀ y ∈ a, ¬ eqv y x) := (two_spec _ a b (Nat.le_refl _) ha hb).2 x
theorem two_len : ∀ (n : Nat) (a b : List Ent), a.length + b.length ≤ n → (two a b).length ≤ a.length + b.length
  | n, [], b, _ => by rw [two_nil]; omega
  | n, x :: a, [], _ => by rw [two_nil_right]; omega
  | 0, x :: a, y :: b, h => by simp at h
  | n + 1, x :: a, y :: b, h => by
    simp only [List.length_cons] at h
    rw [two_cons]
    split
    · have := two_len n a (y :: b) (by simp only [List.length_cons]; omega)
      simp only [List.length_cons] at this ⊢; omega
    · split
      · have := two_len n a b (by omega)
        simp only [List.length_cons]; omega
      · have := two_len n (x :: a) b (by simp only [List.length_cons]; omega)
        simp only [List.length_cons] at this ⊢; omega
/-- Lists as one. -/
def mergeL (ls : List (List Ent)) : List Ent := ls.foldl two []
/-- An entry is of lists: none of the same is in an earlier one. -/
def InL : List (List Ent) → Ent → Prop
  | [], _ => False
  | l :: ls, x => x ∈ l ∨ (InL ls x ∧ ∀ y ∈ l, ¬ eqv y x)
theorem foldl_two : ∀ (ls : List (List Ent)) (acc : List Ent), acc.Pairwise lt → (∀ l ∈ ls, l.Pairwise lt) → (ls.foldl two acc).Pairwise lt ∧ ∀ x, x ∈ ls.foldl two acc ↔ x ∈ acc ∨ (InL ls x ∧ ∀ y ∈ acc, ¬ eqv y x)
  | [], acc, ha, _ => ⟨ha, fun x => by simp [InL]⟩
  | l :: ls, acc, ha, hl => by
    have hl1 := hl l (by simp)
    obtain ⟨s, m⟩ := foldl_two ls (two acc l) (two_sorted ha hl1) (fun k hk => hl k (by simp [hk]))
    refine ⟨s, fun x => ?_⟩
    rw [List.foldl_cons, m x, mem_two ha hl1]
    have hall : (∀ y ∈ two acc l, ¬ eqv y x) ↔ (∀ y ∈ acc, ¬ eqv y x) ∧ (∀ y ∈ l, ¬ eqv y x) := by
      constructor
      · intro h
        refine ⟨fun y hy => h y ((mem_two ha hl1 y).2 (.inl hy)), fun y hy he => ?_⟩
        by_cases hc : ∃ u ∈ acc, eqv u y
        · obtain ⟨u, hu, hue⟩ := hc
          exact h u ((mem_two ha hl1 u).2 (.inl hu)) (eqv_trans hue he)
        · exact h y ((mem_two ha hl1 y).2 (.inr ⟨hy, fun u hu hue => hc ⟨u, hu, hue⟩⟩)) he
      · rintro ⟨h1, h2⟩ y hy
        rcases (mem_two ha hl1 y).1 hy with h | h
        · exact h1 y h
        · exact h2 y h.1
    rw [hall]
    simp only [InL]
    constructor
    · rintro ((h | h) | h)
      · exact .inl h
      · exact .inr ⟨.inl h.1, h.2⟩
      · exact .inr ⟨.inr ⟨h.1, h.2.2⟩, h.2.1⟩
    · rintro (h | ⟨h | h, h2⟩)
      · exact .inl (.inl h)
      · exact .inl (.inr ⟨h, h2⟩)
      · exact .inr ⟨h.1, h2, h.2⟩
theorem merge_sorted {ls : List (List Ent)} (h : ∀ l ∈ ls, l.Pairwise lt) : (mergeL ls).Pairwise lt := (foldl_two ls [] List.Pairwise.nil h).1
theorem mem_merge {ls : List (List Ent)} (h : ∀ l ∈ ls, l.Pairwise lt) (x : Ent) : x ∈ mergeL ls ↔ InL ls x := by
  rw [show mergeL ls = ls.foldl two [] from rfl, (foldl_two ls [] List.Pairwise.nil h).2 x]
  simp
theorem InL_mem : ∀ {ls : List (List Ent)} {x : Ent}, InL ls x → ∃ l ∈ ls, x ∈ l
  | [], _, h => h.elim
  | l :: ls, x, h => by
    rcases h with h | h
    · exact ⟨l, by simp, h⟩
    · obtain ⟨k, hk, hx⟩ := InL_mem h.1
      exact ⟨k, by simp [hk], hx⟩
theorem merge_right {ls : List (List Ent)} (h : ∀ l ∈ ls, Right l) : Right (mergeL ls) := by
  have hs : ∀ l ∈ ls, l.Pairwise lt := fun l hl => (h l hl).2
  refine ⟨fun e he => ?_, merge_sorted hs⟩
  obtain ⟨l, hl, hx⟩ := InL_mem ((mem_merge hs e).1 he)
  exact (h l hl).1 e hx
/-- What is left behind the same ones. -/
def dropEq (e : Ent) (l : List Ent) : List Ent := l.dropWhile (fun x => decide (eqv x e))
theorem dropEq_nil (e : Ent) : dropEq e [] = [] := rfl
theorem dropEq_cons (e x : Ent) (l : List Ent) : dropEq e (x :: l) = if eqv x e then dropEq e l else x :: l := by
  unfold dropEq
  rw [List.dropWhile_cons]
  by_cases h : eqv x e <;> simp [h]
/-- All of a list comes behind e, or is the same. -/
def Behind (e : Ent) (l : List Ent) : Prop := ∀ x ∈ l, lt e x ∨ eqv e x
theorem dropEq_mem {e : Ent} : ∀ {l : List Ent}, l.Pairwise lt → Behind e l → ∀ z, z ∈ dropEq e l ↔ z ∈ l ∧ ¬ eqv e z
  | [], _, _, z => by simp [dropEq_nil]
  | x :: l, h, hb, z => by
    rw [dropEq_cons]
    have h' := List.pairwise_cons.1 h
    by_cases hx : eqv x e
    · rw [if_pos hx, dropEq_mem h'.2 (fun y hy => hb y (by simp [hy]))]
      constructor
      · rintro ⟨h1, h2⟩; exact ⟨by simp [h1], h2⟩
      · rintro ⟨h1, h2⟩
        rcases List.mem_cons.1 h1 with k | k
        · exact absurd (by rw [k]; exact eqv_symm hx) h2
        · exact ⟨k, h2⟩
    · rw [if_neg hx]
      have hlt : lt e x := by
        rcases hb x (by simp) with k | k
        · exact k
        · exact absurd (eqv_symm k) hx
      constructor
      · intro hz
        refine ⟨hz, ?_⟩
        rcases List.mem_cons.1 hz with k | k
        · rw [k]; exact lt_not_eqv hlt
        · exact lt_not_eqv (lt_trans hlt (h'.1 z k))
      · exact fun hz => hz.1
theorem dropEq_sorted {e : Ent} {l : List Ent} (h : l.Pairwise lt) : (dropEq e l).Pairwise lt := h.sublist (List.dropWhile_sublist _)
theorem InL_map {e : Ent} : ∀ {ls : List (List Ent)}, (∀ l ∈ ls, l.Pairwise lt) → (∀ l ∈ ls, Behind e l) → ∀ z, InL (ls.map (dropEq e)) z ↔ InL ls z ∧ ¬ eqv e z
  | [], _, _, z => by simp [InL]
  | l :: ls, hs, hb, z => by
    have ih := InL_map (ls := ls) (fun k hk => hs k (by simp [hk])) (fun k hk => hb k (by simp [hk])) z
    have hm := dropEq_mem (hs l (by simp)) (hb l (by simp))
    simp only [List.map_cons, InL]
    rw [ih, hm z]
    constructor
    · rintro (⟨h1, h2⟩ | ⟨⟨h1, h2⟩, h3⟩)
      · exact ⟨.inl h1, h2⟩
      · exact ⟨.inr ⟨h1, fun y hy he => h3 y ((hm y).2 ⟨hy, fun k => h2 (eqv_trans k he)⟩) he⟩, h2⟩
    · rintro ⟨h1 | h1, h2⟩
      · exact .inl ⟨h1, h2⟩
      · exact .inr ⟨⟨h1.1, h2⟩, fun y hy => h1.2 y ((hm y).1 hy).1⟩
theorem InL_append : ∀ {p q : List (List Ent)} {z : Ent}, InL (p ++ q) z ↔ InL p z ∨ (InL q z ∧ ∀ l ∈ p, ∀ y ∈ l, ¬ eqv y z)
  | [], q, z => by simp [InL]
  | l :: p, q, z => by
    simp only [List.cons_append, InL]
    rw [InL_append]
    constructor
    · rintro (h | ⟨h | h, h2⟩)
      · exact .inl (.inl h)
      · exact .inl (.inr ⟨h, h2⟩)
      · refine .inr ⟨h.1, fun k hk => ?_⟩
        rcases List.mem_cons.1 hk with e | e
        · rw [e]; exact h2
        · exact h.2 k e
    · rintro ((h | h) | h)
      · exact .inl h
      · exact .inr ⟨.inl h.1, h.2⟩
      · exact .inr ⟨.inr ⟨h.1, fun k hk => h.2 k (by simp [hk])⟩, h.2 l (by simp)⟩
/-- The least head is taken; of the same the first list's. -/
theorem merge_take {p q : List (List Ent)} {e : Ent} {r : List Ent} (hs : ∀ l ∈ p ++ (e :: r) :: q, l.Pairwise lt) (hp : ∀ l ∈ p, ∀ x ∈ l, lt e x) (hq : ∀ l ∈ q, Behind e l) :
    mergeL (p ++ (e :: r) :: q) = e :: mergeL ((p ++ (e :: r) :: q).map (dropEq e)) := by
  have her := hs (e :: r) (by simp)
  have her' := List.pairwise_cons.1 her
  have hb : ∀ l ∈ p ++ (e :: r) :: q, Behind e l := fun l hl => by
    rcases List.mem_append.1 hl with h | h
    · exact fun x hx => .inl (hp l h x hx)
    · rcases List.mem_cons.1 h with h | h
      · rw [h]
        intro x hx
        rcases List.mem_cons.1 hx with k | k
        · rw [k]; exact .inr ⟨rfl, rfl⟩
        · exact .inl (her'.1 x k)
      · exact hq l h
  have hs' : ∀ l ∈ (p ++ (e :: r) :: q).map (dropEq e), l.Pairwise lt := fun l hl => by
    obtain ⟨k, hk, rfl⟩ := List.mem_map.1 hl
    exact dropEq_sorted (hs k hk)
  refine sorted_ext (merge_sorted hs) (List.pairwise_cons.2 ⟨fun z hz => ?_, merge_sorted hs'⟩) fun z => ?_
  · have h1 := (InL_map hs hb z).1 ((mem_merge hs' z).1 hz)
    obtain ⟨l, hl, hx⟩ := InL_mem h1.1
    rcases hb l hl z hx with k | k
    · exact k
    · exact absurd k h1.2
  · rw [mem_merge hs, List.mem_cons, mem_merge hs', InL_map hs hb]
    constructor
    · intro h
      by_cases hez : eqv e z
      · left
        rcases InL_append.1 h with k | ⟨k, _⟩
        · obtain ⟨l, hl, hx⟩ := InL_mem k
          exact absurd hez (lt_not_eqv (hp l hl z hx))
        · rcases k with k | ⟨_, k⟩
          · rcases List.mem_cons.1 k with j | j
            · exact j
            · exact absurd hez (lt_not_eqv (her'.1 z j))
          · exact absurd hez (k e (by simp))
      · exact .inr ⟨h, hez⟩
    · rintro (h | h)
      · subst h
        exact InL_append.2 (.inr ⟨.inl (by simp), fun l hl y hy k => lt_not_eqv (hp l hl y hy) (eqv_symm k)⟩)
      · exact h.1
theorem merge_none {ls : List (List Ent)} (h : ∀ l ∈ ls, l = []) : mergeL ls = [] := by
  cases hm : mergeL ls with
  | nil => rfl
  | cons x m =>
    have hs : ∀ l ∈ ls, l.Pairwise lt := fun l hl => by rw [h l hl]; exact List.Pairwise.nil
    obtain ⟨l, hl, hx⟩ := InL_mem ((mem_merge hs x).1 (by rw [hm]; simp))
    rw [h l hl] at hx
    cases hx
end Ent
end Go.Proofs.Ytfcfipoldkjloaa
