/- What a map of the newest entries tells. Plain. No program in sight. -/
import Derived.Test.YtmmlgcfhcdpolaaMgP
import Derived.Test.YtmmlgcfhcdpolaaMgT
namespace Go.Proofs.Ytmmlgcfhcdpolaa
open Go.RowKit
set_option linter.unusedVariables false
namespace Ent
theorem sorted_one {l : List Ent} (h : l.Pairwise lt) : ∀ y ∈ l, ∀ x ∈ l, eqv y x → y = x := by
  induction l with
  | nil => intro y hy; cases hy
  | cons a l ih =>
    rw [List.pairwise_cons] at h
    intro y hy x hx he
    rcases List.mem_cons.1 hy with e1 | e1 <;> rcases List.mem_cons.1 hx with e2 | e2
    · rw [e1, e2]
    · rw [e1] at he; exact absurd he (lt_not_eqv (h.1 x e2))
    · rw [e2] at he; exact absurd (eqv_symm he) (lt_not_eqv (h.1 y e1))
    · exact ih h.2 y e1 x e2 he

/-- x is the first of its kind in l. -/
def First : List Ent → Ent → Prop
  | [], _ => False
  | y :: l, x => y = x ∨ (First l x ∧ ¬ eqv y x)
theorem First.mem : ∀ {l : List Ent} {x : Ent}, First l x → x ∈ l
  | [], _, h => h.elim
  | y :: l, x, h => by
    rcases h with h | h
    · rw [h]; simp
    · exact List.mem_cons.2 (.inr h.1.mem)
theorem First.append : ∀ {k r : List Ent} {x : Ent}, First (k ++ r) x ↔ First k x ∨ (First r x ∧ ∀ y ∈ k, ¬ eqv y x)
  | [], r, x => by simp [First]
  | y :: k, r, x => by
    show y = x ∨ (First (k ++ r) x ∧ ¬ eqv y x) ↔ (y = x ∨ (First k x ∧ ¬ eqv y x)) ∨ (First r x ∧ ∀ z ∈ y :: k, ¬ eqv z x)
    rw [First.append]
    constructor
    · rintro (h | ⟨h | ⟨h1, h2⟩, h3⟩)
      · exact .inl (.inl h)
      · exact .inl (.inr ⟨h, h3⟩)
      · refine .inr ⟨h1, fun z hz => ?_⟩
        rcases List.mem_cons.1 hz with e | e
        · rw [e]; exact h3
        · exact h2 z e
    · rintro ((h | h) | ⟨h1, h2⟩)
      · exact .inl h
      · exact .inr ⟨.inl h.1, h.2⟩
      · exact .inr ⟨.inr ⟨h1, fun z hz => h2 z (by simp [hz])⟩, h2 y (by simp)⟩
theorem First.inL : ∀ {ls : List (List Ent)} {x : Ent}, First ls.flatten x → InL ls x
  | [], _, h => h.elim
  | k :: ls, x, h => by
    rw [List.flatten_cons, First.append] at h
    rcases h with h | h
    · exact .inl h.mem
    · exact .inr ⟨h.1.inL, h.2⟩

/-- What the map holds at each key. -/
abbrev Bst := List UInt8 → Option Ent
def take (up : Nat) (f : Bst) (e : Ent) : Bool := decide (e.seq ≤ up) && (match f e.key with | none => true | some b => decide (b.seq < e.seq))
def putB (f : Bst) (e : Ent) : Bst := fun k => if k = e.key then some e else f k
def bstep (up : Nat) (f : Bst) (e : Ent) : Bst := if take up f e = true then putB f e else f
def bmap (up : Nat) (l : List Ent) : Bst := l.foldl (bstep up) (fun _ => none)
structure BInv (up : Nat) (l : List Ent) (f : Bst) : Prop where
  no : ∀ k, f k = none → ∀ x ∈ l, x.key = k → up < x.seq
  yes : ∀ k b, f k = some b → b.key = k ∧ b.seq ≤ up ∧ (∀ x ∈ l, x.key = k → x.seq ≤ up → x.seq ≤ b.seq) ∧ First l b
theorem BInv.step {up : Nat} {l : List Ent} {f : Bst} (h : BInv up l f) (e : Ent) : BInv up (l ++ [e]) (bstep up f e) := by
  have hfst : ∀ {b}, First l b → First (l ++ [e]) b := fun hb => First.append.2 (.inl hb)
  unfold bstep
  by_cases ht : take up f e = true
  · rw [if_pos ht]
    unfold take at ht
    rw [Bool.and_eq_true, decide_eq_true_eq] at ht
    obtain ⟨hs, hm⟩ := ht
    have hnew : ∀ x ∈ l, x.key = e.key → x.seq ≤ up → x.seq < e.seq := fun x hx hk hu => by
      cases hf : f e.key with
      | none => have := h.no _ hf x hx hk; omega
      | some b =>
        rw [hf] at hm
        have := (h.yes _ _ hf).2.2.1 x hx hk hu
        have : b.seq < e.seq := by simpa using hm
        omega
    refine ⟨fun k hk x hx hxk => ?_, fun k b hb => ?_⟩
    · unfold putB at hk
      by_cases e1 : k = e.key
      · rw [if_pos e1] at hk; cases hk
      · rw [if_neg e1] at hk
        rcases List.mem_append.1 hx with h1 | h1
        · exact h.no k hk x h1 hxk
        · rw [List.mem_singleton.1 h1] at hxk; exact absurd hxk.symm e1
    · unfold putB at hb
      by_cases e1 : k = e.key
      · rw [if_pos e1] at hb
        cases hb
        refine ⟨e1.symm, hs, fun x hx hxk hu => ?_, First.append.2 (.inr ⟨.inl rfl, fun y hy he => ?_⟩)⟩
        · rcases List.mem_append.1 hx with h1 | h1
          · exact Nat.le_of_lt (hnew x h1 (by rw [hxk, e1]) hu)
          · rw [List.mem_singleton.1 h1]; exact Nat.le_refl _
        · have := hnew y hy he.1 (by rw [he.2]; exact hs)
          rw [he.2] at this
          omega
      · rw [if_neg e1] at hb
        obtain ⟨g1, g2, g3, g4⟩ := h.yes k b hb
        refine ⟨g1, g2, fun x hx hxk hu => ?_, hfst g4⟩
        rcases List.mem_append.1 hx with h1 | h1
        · exact g3 x h1 hxk hu
        · rw [List.mem_singleton.1 h1] at hxk; exact absurd hxk.symm e1
  · rw [if_neg ht]
    have hold : e.seq ≤ up → ∃ b, f e.key = some b ∧ e.seq ≤ b.seq := fun hu => by
      unfold take at ht
      rw [Bool.and_eq_true, decide_eq_true_eq] at ht
      cases hf : f e.key with
      | none => rw [hf] at ht; exact absurd ⟨hu, rfl⟩ ht
      | some b =>
        rw [hf] at ht
        refine ⟨b, rfl, ?_⟩
        have : ¬ b.seq < e.seq := fun h1 => ht ⟨hu, decide_eq_true h1⟩
        omega
    refine ⟨fun k hk x hx hxk => ?_, fun k b hb => ?_⟩
    · rcases List.mem_append.1 hx with h1 | h1
      · exact h.no k hk x h1 hxk
      · rw [List.mem_singleton.1 h1] at hxk ⊢
        rcases Nat.lt_or_ge up e.seq with h2 | h2
        · exact h2
        · obtain ⟨b, hb, _⟩ := hold h2
          rw [hxk, hk] at hb; cases hb
    · obtain ⟨g1, g2, g3, g4⟩ := h.yes k b hb
      refine ⟨g1, g2, fun x hx hxk hu => ?_, hfst g4⟩
      rcases List.mem_append.1 hx with h1 | h1
      · exact g3 x h1 hxk hu
      · rw [List.mem_singleton.1 h1] at hxk hu ⊢
        obtain ⟨b', hb', hle⟩ := hold hu
        rw [hxk, hb] at hb'
        cases hb'
        exact hle
theorem BInv.nil (up : Nat) : BInv up [] (fun _ => none) := ⟨fun k _ x hx => (by cases hx), fun k b h => (by cases h)⟩
theorem bmap_snoc (up : Nat) (l : List Ent) (e : Ent) : bmap up (l ++ [e]) = bstep up (bmap up l) e := by unfold bmap; rw [List.foldl_append]; rfl
theorem binv_go (up : Nat) : ∀ (m l : List Ent), BInv up l (bmap up l) → BInv up (l ++ m) (bmap up (l ++ m))
  | [], l, h => by rw [List.append_nil]; exact h
  | e :: m, l, h => by
    have := binv_go up m (l ++ [e]) (by rw [bmap_snoc]; exact h.step e)
    rwa [List.append_assoc] at this
theorem binv (up : Nat) (l : List Ent) : BInv up l (bmap up l) := by
  have := binv_go up l [] (BInv.nil up)
  simpa using this
/-- What is seen of merged lists is what the map tells. -/
theorem seen_best {ls : List (List Ent)} (hs : ∀ l ∈ ls, l.Pairwise lt) (up : Nat) (x : Ent) : x ∈ seen (mergeL ls) up ↔ bmap up ls.flatten x.key = some x ∧ x.gone = false := by
  have hM := merge_sorted hs
  have hI := binv up ls.flatten
  have hin : ∀ y ∈ mergeL ls, y ∈ ls.flatten := fun y hy => by
    obtain ⟨l, hl, hy'⟩ := InL_mem ((mem_merge hs y).1 hy)
    exact List.mem_flatten.2 ⟨l, hl, hy'⟩
  have hmax : ∀ y ∈ ls.flatten, ∃ z ∈ mergeL ls, eqv z y := fun y hy => by
    have : ∀ {js : List (List Ent)}, y ∈ js.flatten → ∃ z, InL js z ∧ eqv z y := by
      intro js
      induction js with
      | nil => intro h; cases h
      | cons k js ih =>
        intro h
        rw [List.flatten_cons, List.mem_append] at h
        by_cases hk : ∃ z ∈ k, eqv z y
        · obtain ⟨z, hz, he⟩ := hk; exact ⟨z, .inl hz, he⟩
        · rcases h with h | h
          · exact absurd ⟨y, h, rfl, rfl⟩ hk
          · obtain ⟨z, hz, he⟩ := ih h
            exact ⟨z, .inr ⟨hz, fun u hu hue => hk ⟨u, hu, eqv_trans hue he⟩⟩, he⟩
    obtain ⟨z, hz, he⟩ := this hy
    exact ⟨z, (mem_merge hs z).2 hz, he⟩
  unfold seen
  rw [List.mem_filter]
  unfold seenB
  rw [Bool.and_eq_true, decide_eq_true_eq]
  constructor
  · rintro ⟨hx, hnew, hg⟩
    refine ⟨?_, by simpa using hg⟩
    cases hf : bmap up ls.flatten x.key with
    | none => have := hI.no _ hf x (hin x hx) rfl; have := hnew.1; omega
    | some b =>
      obtain ⟨g1, g2, g3, g4⟩ := hI.yes _ _ hf
      have hb : b ∈ mergeL ls := (mem_merge hs b).2 g4.inL
      have h1 := hnew.2 b hb g1 g2
      have h2 := g3 x (hin x hx) rfl hnew.1
      rw [sorted_one hM b hb x hx ⟨g1, by omega⟩]
  · rintro ⟨hf, hg⟩
    obtain ⟨_, g2, g3, g4⟩ := hI.yes _ _ hf
    refine ⟨(mem_merge hs x).2 g4.inL, ⟨g2, fun y hy hk hu => g3 y (hin y hy) hk hu⟩, by simp [hg]⟩
theorem seen_keys {l : List Ent} (h : l.Pairwise lt) (up : Nat) : (seen l up).Pairwise (fun a b => klt a.key b.key = true) := by
  have hs : (seen l up).Pairwise lt := h.sublist List.filter_sublist
  have hnew : ∀ x ∈ seen l up, newest l up x ∧ x ∈ l := fun x hx => by
    unfold seen at hx
    rw [List.mem_filter] at hx
    refine ⟨?_, hx.1⟩
    have := hx.2
    unfold seenB at this
    rw [Bool.and_eq_true, decide_eq_true_eq] at this
    exact this.1
  refine List.Pairwise.imp_of_mem ?_ hs
  intro a b ha hb hab
  rcases hab with h1 | ⟨h1, h2⟩
  · exact h1
  · have := (hnew b hb).1.2 a (hnew a ha).2 h1 (hnew a ha).1.1
    omega
/-- As many keys as are seen. -/
theorem seen_count {ls : List (List Ent)} (hs : ∀ l ∈ ls, l.Pairwise lt) (up : Nat) {ks : List (List UInt8)} (hn : ks.Nodup)
    (hk : ∀ k, k ∈ ks ↔ ∃ b, bmap up ls.flatten k = some b ∧ b.gone = false) : ks.length = (seen (mergeL ls) up).length := by
  have h1 : ((seen (mergeL ls) up).map key).Nodup := by
    rw [List.Nodup, List.pairwise_map]
    exact (seen_keys (merge_sorted hs) up).imp fun h => klt_ne h
  have h2 : ks.Perm ((seen (mergeL ls) up).map key) := (List.perm_ext_iff_of_nodup hn h1).2 fun k => by
    rw [hk, List.mem_map]
    constructor
    · rintro ⟨b, hb, hg⟩
      have := ((binv up ls.flatten).yes _ _ hb).1
      exact ⟨b, (seen_best hs up b).2 ⟨by rw [this]; exact hb, hg⟩, this⟩
    · rintro ⟨x, hx, rfl⟩
      have := (seen_best hs up x).1 hx
      exact ⟨x, this.1, this.2⟩
  rw [h2.length_eq, List.length_map]
end Ent
end Go.Proofs.Ytmmlgcfhcdpolaa
