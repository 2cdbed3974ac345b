/- What is seen, what pruning leaves: plain laws. No program in sight. -/
import Derived.Test.YtfcfipoldkjloaaMgSpec
namespace Go.Proofs.Ytfcfipoldkjloaa
open Go.RowKit
namespace Ent

/-- The newest version of its key up to a number. -/
def newest (l : List Ent) (up : Nat) (e : Ent) : Prop := e.seq ≤ up ∧ ∀ x ∈ l, x.key = e.key → x.seq ≤ up → x.seq ≤ e.seq
instance (l : List Ent) (up : Nat) (e : Ent) : Decidable (newest l up e) := inferInstanceAs (Decidable (_ ∧ _))
def seenB (l : List Ent) (up : Nat) (e : Ent) : Bool := decide (newest l up e) && !e.gone
def seen (l : List Ent) (up : Nat) : List Ent := l.filter (seenB l up)
def pruneB (l : List Ent) (keep : Nat) (bottom : Bool) (e : Ent) : Bool := decide (keep < e.seq) || (decide (newest l keep e) && !(e.gone && bottom))
def prune (l : List Ent) (keep : Nat) (bottom : Bool) : List Ent := l.filter (pruneB l keep bottom)

/-- As the document goes: the key before, whether this key is done. -/
def seenGo (up : Nat) : List Ent → Option (List UInt8) → Bool → List Ent
  | [], _, _ => []
  | e :: l, p, d => if (d && decide (p = some e.key)) = true then seenGo up l (some e.key) true else if up < e.seq then seenGo up l (some e.key) false else (if e.gone = true then [] else [e]) ++ seenGo up l (some e.key) true
def pruneGo (keep : Nat) (bottom : Bool) : List Ent → Option (List UInt8) → Bool → List Ent
  | [], _, _ => []
  | e :: l, p, d => if keep < e.seq then e :: pruneGo keep bottom l (some e.key) (d && decide (p = some e.key)) else
      (if (d && decide (p = some e.key)) = false ∧ (e.gone && bottom) = false then [e] else []) ++ pruneGo keep bottom l (some e.key) true

theorem seenGo_cons (up : Nat) (e : Ent) (l : List Ent) (p : Option (List UInt8)) (d : Bool) : seenGo up (e :: l) p d = if (d && decide (p = some e.key)) = true then seenGo up l (some e.key) true else if up < e.seq then seenGo up l (some e.key) false else (if e.gone = true then [] else [e]) ++ seenGo up l (some e.key) true := rfl
theorem pruneGo_cons (keep : Nat) (bottom : Bool) (e : Ent) (l : List Ent) (p : Option (List UInt8)) (d : Bool) : pruneGo keep bottom (e :: l) p d = if keep < e.seq then e :: pruneGo keep bottom l (some e.key) (d && decide (p = some e.key)) else
      (if (d && decide (p = some e.key)) = false ∧ (e.gone && bottom) = false then [e] else []) ++ pruneGo keep bottom l (some e.key) true := rfl
theorem last_key {pre rest : List Ent} {e x : Ent} (h : (pre ++ e :: rest).Pairwise lt) (hx : x ∈ pre) (hk : x.key = e.key) : pre.getLast?.map key = some e.key := by
  rcases List.eq_nil_or_concat pre with h0 | ⟨q, y, h0⟩
  · rw [h0] at hx; cases hx
  · rw [List.concat_eq_append] at h0
    subst h0
    simp only [List.getLast?_append, List.getLast?_singleton, Option.some_or, Option.map_some, Option.some.injEq]
    rw [List.pairwise_append] at h
    have hye := h.2.2 y (by simp) e (by simp)
    rcases List.mem_append.1 hx with hx' | hx'
    · have hxy := (List.pairwise_append.1 h.1).2.2 x hx' y (by simp)
      rcases hye with hye | hye
      · rcases hxy with hxy | hxy
        · rw [hk] at hxy
          have := klt_asymm hye
          rw [hxy] at this; cases this
        · rw [← hxy.1, hk, klt_irrefl] at hye; cases hye
      · exact hye.1
    · simp at hx'
      rw [← hx', hk]

theorem newest_no {pre rest : List Ent} {e : Ent} {up : Nat} (h : (pre ++ e :: rest).Pairwise lt) (hx : ∃ x ∈ pre, x.key = e.key ∧ x.seq ≤ up) : ¬ newest (pre ++ e :: rest) up e := by
  obtain ⟨x, h1, h2, h3⟩ := hx
  intro hn
  have h4 := hn.2 x (by simp [h1]) h2 h3
  rw [List.pairwise_append] at h
  rcases h.2.2 x h1 e (by simp) with h5 | h5
  · rw [h2, klt_irrefl] at h5; cases h5
  · omega
theorem newest_yes {pre rest : List Ent} {e : Ent} {up : Nat} (h : (pre ++ e :: rest).Pairwise lt) (hx : ¬ ∃ x ∈ pre, x.key = e.key ∧ x.seq ≤ up) (hs : e.seq ≤ up) : newest (pre ++ e :: rest) up e := by
  refine ⟨hs, fun x h1 h2 h3 => ?_⟩
  rcases List.mem_append.1 h1 with h1 | h1
  · exact absurd ⟨x, h1, h2, h3⟩ hx
  · rcases List.mem_cons.1 h1 with h1 | h1
    · rw [h1]; exact Nat.le_refl _
    · rw [List.pairwise_append, List.pairwise_cons] at h
      rcases h.2.1.1 x h1 with h5 | h5
      · rw [h2, klt_irrefl] at h5; cases h5
      · omega
theorem done_iff {pre rest : List Ent} {e : Ent} {up : Nat} {p : Option (List UInt8)} {d : Bool} (h : (pre ++ e :: rest).Pairwise lt) (hp : p = pre.getLast?.map key) (hd : d = true ↔ ∃ x ∈ pre, p = some x.key ∧ x.seq ≤ up) :
    (d && decide (p = some e.key)) = true ↔ ∃ x ∈ pre, x.key = e.key ∧ x.seq ≤ up := by
  rw [Bool.and_eq_true, decide_eq_true_eq, hd]
  constructor
  · rintro ⟨⟨x, h1, h2, h3⟩, h4⟩
    rw [h2] at h4
    exact ⟨x, h1, by simpa using h4, h3⟩
  · rintro ⟨x, h1, h2, h3⟩
    have := last_key h h1 h2
    rw [hp, this]
    exact ⟨⟨x, h1, by rw [h2], h3⟩, rfl⟩
theorem seenGo_eq (up : Nat) : ∀ (rest pre : List Ent) (p : Option (List UInt8)) (d : Bool), (pre ++ rest).Pairwise lt → p = pre.getLast?.map key → (d = true ↔ ∃ x ∈ pre, p = some x.key ∧ x.seq ≤ up) →
    seenGo up rest p d = rest.filter (seenB (pre ++ rest) up)
  | [], _, _, _, _, _, _ => rfl
  | e :: rest, pre, p, d, h, hp, hd => by
    have ha : pre ++ e :: rest = (pre ++ [e]) ++ rest := by simp
    have hdn := done_iff h hp hd
    have hl : some e.key = (pre ++ [e]).getLast?.map key := by simp
    rw [seenGo_cons]
    by_cases h1 : (d && decide (p = some e.key)) = true
    · rw [if_pos h1]
      have hb : seenB (pre ++ e :: rest) up e = false := by
        unfold seenB; rw [decide_eq_false (newest_no h (hdn.1 h1))]; rfl
      rw [List.filter_cons_of_neg (by rw [hb]; simp), ha]
      refine seenGo_eq up rest (pre ++ [e]) _ _ (by rw [← ha]; exact h) hl ⟨fun _ => ?_, fun _ => rfl⟩
      obtain ⟨x, h2, h3, h4⟩ := hdn.1 h1
      exact ⟨x, by simp [h2], by rw [h3], h4⟩
    · rw [if_neg h1]
      by_cases h2 : up < e.seq
      · rw [if_pos h2]
        have hb : seenB (pre ++ e :: rest) up e = false := by
          unfold seenB; rw [decide_eq_false (fun hn => by have := hn.1; omega)]; rfl
        rw [List.filter_cons_of_neg (by rw [hb]; simp), ha]
        refine seenGo_eq up rest (pre ++ [e]) _ _ (by rw [← ha]; exact h) hl ⟨fun h => (by cases h), ?_⟩
        rintro ⟨x, h3, h4, h5⟩
        simp only [List.mem_append, List.mem_singleton] at h3
        rcases h3 with h3 | h3
        · exact absurd (hdn.2 ⟨x, h3, by simpa using h4.symm, h5⟩) h1
        · rw [h3] at h5; omega
      · rw [if_neg h2]
        have hn : newest (pre ++ e :: rest) up e := newest_yes h (fun hx => h1 (hdn.2 hx)) (by omega)
        have hr := seenGo_eq up rest (pre ++ [e]) (some e.key) true (by rw [← ha]; exact h) hl ⟨fun _ => ⟨e, by simp, rfl, by omega⟩, fun _ => rfl⟩
        rw [hr, ← ha]
        cases hg : e.gone with
        | true =>
          have hb : seenB (pre ++ e :: rest) up e = false := by unfold seenB; rw [hg, decide_eq_true hn]; rfl
          rw [List.filter_cons_of_neg (by rw [hb]; simp)]
          rfl
        | false =>
          have hb : seenB (pre ++ e :: rest) up e = true := by unfold seenB; rw [hg, decide_eq_true hn]; rfl
          rw [List.filter_cons_of_pos hb]
          simp
theorem seenGo_all {l : List Ent} (h : l.Pairwise lt) (up : Nat) : seenGo up l none false = seen l up :=
  seenGo_eq up l [] none false h rfl ⟨fun h => (by cases h), fun ⟨x, h, _⟩ => (by cases h)⟩
theorem pruneGo_eq (keep : Nat) (bottom : Bool) : ∀ (rest pre : List Ent) (p : Option (List UInt8)) (d : Bool), (pre ++ rest).Pairwise lt → p = pre.getLast?.map key → (d = true ↔ ∃ x ∈ pre, p = some x.key ∧ x.seq ≤ keep) →
    pruneGo keep bottom rest p d = rest.filter (pruneB (pre ++ rest) keep bottom)
  | [], _, _, _, _, _, _ => rfl
  | e :: rest, pre, p, d, h, hp, hd => by
    have ha : pre ++ e :: rest = (pre ++ [e]) ++ rest := by simp
    have hdn := done_iff h hp hd
    have hl : some e.key = (pre ++ [e]).getLast?.map key := by simp
    rw [pruneGo_cons]
    by_cases h2 : keep < e.seq
    · rw [if_pos h2]
      have hb : pruneB (pre ++ e :: rest) keep bottom e = true := by unfold pruneB; rw [decide_eq_true h2]; rfl
      rw [List.filter_cons_of_pos hb, ha]
      congr 1
      refine pruneGo_eq keep bottom rest (pre ++ [e]) _ _ (by rw [← ha]; exact h) hl ?_
      rw [hdn]
      constructor
      · rintro ⟨x, h3, h4, h5⟩
        exact ⟨x, by simp [h3], by rw [h4], h5⟩
      · rintro ⟨x, h3, h4, h5⟩
        simp only [List.mem_append, List.mem_singleton] at h3
        rcases h3 with h3 | h3
        · exact ⟨x, h3, by simpa using h4.symm, h5⟩
        · rw [h3] at h5; omega
    · rw [if_neg h2]
      have hr := pruneGo_eq keep bottom rest (pre ++ [e]) (some e.key) true (by rw [← ha]; exact h) hl ⟨fun _ => ⟨e, by simp, rfl, by omega⟩, fun _ => rfl⟩
      rw [hr, ← ha]
      by_cases h1 : (d && decide (p = some e.key)) = true
      · have hb : pruneB (pre ++ e :: rest) keep bottom e = false := by
          unfold pruneB; rw [decide_eq_false (newest_no h (hdn.1 h1)), decide_eq_false h2]; rfl
        rw [List.filter_cons_of_neg (by rw [hb]; simp), if_neg (by rw [h1]; simp)]
        rfl
      · have h1' : (d && decide (p = some e.key)) = false := by simpa using h1
        have hn : newest (pre ++ e :: rest) keep e := newest_yes h (fun hx => h1 (hdn.2 hx)) (by omega)
        have hb : pruneB (pre ++ e :: rest) keep bottom e = !(e.gone && bottom) := by
          unfold pruneB; rw [decide_eq_true hn, decide_eq_false h2]; simp
        cases hg : (e.gone && bottom) with
        | true =>
          rw [List.filter_cons_of_neg (by rw [hb, hg]; simp), if_neg (by simp)]
          rfl
        | false =>
          rw [List.filter_cons_of_pos (by rw [hb, hg]; rfl), if_pos ⟨h1', rfl⟩]
          simp
theorem pruneGo_all {l : List Ent} (h : l.Pairwise lt) (keep : Nat) (bottom : Bool) : pruneGo keep bottom l none false = prune l keep bottom :=
  pruneGo_eq keep bottom l [] none false h rfl ⟨fun h => (by cases h), fun ⟨x, h, _⟩ => (by cases h)⟩

/-! By groups. -/
def idx (up : Nat) (g : List Ent) : Nat := g.findIdx (fun e => decide (e.seq ≤ up))
def seenSeg (up : Nat) (g : List Ent) : List Ent := if idx up g < g.length ∧ (nth g (idx up g)).gone = false then [nth g (idx up g)] else []
def pruneSeg (keep : Nat) (bottom : Bool) (g : List Ent) : List Ent := if idx keep g < g.length ∧ ((nth g (idx keep g)).gone && bottom) = false then g.take (idx keep g + 1) else g.take (idx keep g)
theorem idx_cons (up : Nat) (e : Ent) (g : List Ent) : idx up (e :: g) = if e.seq ≤ up then 0 else idx up g + 1 := by
  unfold idx
  rw [List.findIdx_cons]
  by_cases h : e.seq ≤ up <;> simp [h]
theorem nth_zero (e : Ent) (g : List Ent) : nth (e :: g) 0 = e := rfl
theorem nth_cons (e : Ent) (g : List Ent) (i : Nat) : nth (e :: g) (i + 1) = nth g i := by simp [nth]
theorem seenGo_rest {k : List UInt8} {rest : List Ent} (hr : ∀ e r, rest = e :: r → e.key ≠ k) (up : Nat) : seenGo up rest (some k) true = seenGo up rest none false := by
  cases rest with
  | nil => rfl
  | cons e r =>
    have := hr e r rfl
    rw [seenGo_cons, seenGo_cons]
    simp [Ne.symm this]
theorem seenGo_false {rest : List Ent} (up : Nat) (p : Option (List UInt8)) : seenGo up rest p false = seenGo up rest none false := by
  cases rest with
  | nil => rfl
  | cons e r => rw [seenGo_cons, seenGo_cons]; simp
theorem seenGo_done {k : List UInt8} {rest : List Ent} (hr : ∀ e r, rest = e :: r → e.key ≠ k) (up : Nat) : ∀ g : List Ent, (∀ e ∈ g, e.key = k) → seenGo up (g ++ rest) (some k) true = seenGo up rest none false
  | [], _ => seenGo_rest hr up
  | e :: g, h => by
    have hk := h e (by simp)
    rw [List.cons_append, seenGo_cons]
    rw [if_pos (by rw [hk]; simp), hk]
    exact seenGo_done hr up g (fun x hx => h x (by simp [hx]))
theorem seenGo_seg {k : List UInt8} {rest : List Ent} (hr : ∀ e r, rest = e :: r → e.key ≠ k) (up : Nat) : ∀ (g : List Ent) (p : Option (List UInt8)), (∀ e ∈ g, e.key = k) → seenGo up (g ++ rest) p false = seenSeg up g ++ seenGo up rest none false
  | [], p, _ => by simp [seenSeg, seenGo_false]
  | e :: g, p, h => by
    have hk := h e (by simp)
    rw [List.cons_append, seenGo_cons]
    rw [if_neg (by simp)]
    by_cases h1 : e.seq ≤ up
    · rw [if_neg (by omega), hk, seenGo_done hr up g (fun x hx => h x (by simp [hx]))]
      unfold seenSeg
      rw [idx_cons, if_pos h1, nth_zero]
      cases hg : e.gone <;> simp
    · rw [if_pos (by omega), seenGo_seg hr up g _ (fun x hx => h x (by simp [hx]))]
      unfold seenSeg
      rw [idx_cons, if_neg h1, nth_cons]
      simp
theorem pruneGo_false {rest : List Ent} (keep : Nat) (bottom : Bool) (p : Option (List UInt8)) : pruneGo keep bottom rest p false = pruneGo keep bottom rest none false := by
  cases rest with
  | nil => rfl
  | cons e r => rw [pruneGo_cons, pruneGo_cons]; simp
theorem pruneGo_rest {k : List UInt8} {rest : List Ent} (hr : ∀ e r, rest = e :: r → e.key ≠ k) (keep : Nat) (bottom : Bool) : pruneGo keep bottom rest (some k) true = pruneGo keep bottom rest none false := by
  cases rest with
  | nil => rfl
  | cons e r =>
    have := hr e r rfl
    rw [pruneGo_cons, pruneGo_cons]
    simp [Ne.symm this]
theorem pruneGo_done {k : List UInt8} {rest : List Ent} (hr : ∀ e r, rest = e :: r → e.key ≠ k) (keep : Nat) (bottom : Bool) : ∀ g : List Ent, (∀ e ∈ g, e.key = k ∧ e.seq ≤ keep) → pruneGo keep bottom (g ++ rest) (some k) true = pruneGo keep bottom rest none false
  | [], _ => pruneGo_rest hr keep bottom
  | e :: g, h => by
    have hk := h e (by simp)
    rw [List.cons_append, pruneGo_cons]
    rw [if_neg (by omega), if_neg (by rw [hk.1]; simp), hk.1]
    exact pruneGo_done hr keep bottom g (fun x hx => h x (by simp [hx]))
theorem pruneGo_seg {k : List UInt8} {rest : List Ent} (hr : ∀ e r, rest = e :: r → e.key ≠ k) (keep : Nat) (bottom : Bool) : ∀ (g : List Ent) (p : Option (List UInt8)), (∀ e ∈ g, e.key = k) → g.Pairwise lt →
    pruneGo keep bottom (g ++ rest) p false = pruneSeg keep bottom g ++ pruneGo keep bottom rest none false
  | [], p, _, _ => by simp [pruneSeg, idx, pruneGo_false]
  | e :: g, p, h, hp => by
    have hk := h e (by simp)
    rw [List.pairwise_cons] at hp
    rw [List.cons_append, pruneGo_cons]
    by_cases h1 : e.seq ≤ keep
    · rw [if_neg (by omega), hk, pruneGo_done hr keep bottom g (fun x hx => ⟨h x (by simp [hx]), by
        rcases hp.1 x hx with h2 | h2
        · rw [hk, h x (by simp [hx]), klt_irrefl] at h2; cases h2
        · omega⟩)]
      unfold pruneSeg
      rw [idx_cons, if_pos h1, nth_zero]
      cases hg : (e.gone && bottom) <;> simp
    · rw [if_pos (by omega), Bool.false_and, pruneGo_seg hr keep bottom g _ (fun x hx => h x (by simp [hx])) hp.2]
      unfold pruneSeg
      rw [idx_cons, if_neg h1, nth_cons]
      by_cases h2 : idx keep g < g.length ∧ ((nth g (idx keep g)).gone && bottom) = false
      · rw [if_pos h2, if_pos ⟨by simp only [List.length_cons]; omega, h2.2⟩]; rfl
      · rw [if_neg h2, if_neg (fun h3 => h2 ⟨by simp only [List.length_cons] at h3; omega, h3.2⟩)]; rfl
/-- The entries of a stretch. -/
def seg (l : List Ent) (p : Nat × Nat) : List Ent := (l.take p.2).drop p.1
/-- Groups, one behind the other, from a place to a place. -/
def Segs (l : List Ent) : Nat → List (Nat × Nat) → Nat → Prop
  | a, [], b => a = b
  | a, p :: xs, b => p.1 = a ∧ p.1 < p.2 ∧ p.2 ≤ l.length ∧ (∀ i, p.1 ≤ i → i < p.2 → (nth l i).key = (nth l p.1).key) ∧ (p.2 < l.length → (nth l p.2).key ≠ (nth l p.1).key) ∧ Segs l p.2 xs b
theorem Segs.snoc {l : List Ent} {t : Nat} : ∀ {xs : List (Nat × Nat)} {a b : Nat}, Segs l a xs b → b < t → t ≤ l.length → (∀ i, b ≤ i → i < t → (nth l i).key = (nth l b).key) → (t < l.length → (nth l t).key ≠ (nth l b).key) → Segs l a (xs ++ [(b, t)]) t
  | [], a, b, h, h1, h2, h3, h4 => by
    have : a = b := h
    subst this
    exact ⟨rfl, h1, h2, h3, h4, rfl⟩
  | p :: xs, a, b, h, h1, h2, h3, h4 => ⟨h.1, h.2.1, h.2.2.1, h.2.2.2.1, h.2.2.2.2.1, Segs.snoc h.2.2.2.2.2 h1 h2 h3 h4⟩
theorem seg_split {l : List Ent} {f t : Nat} (h : f ≤ t) : l.drop f = seg l (f, t) ++ l.drop t := by
  unfold seg
  conv => lhs; rw [← List.take_append_drop t l]
  by_cases h2 : t ≤ l.length
  · rw [List.drop_append_of_le_length (by rw [List.length_take]; omega)]
  · rw [List.take_of_length_le (by omega), List.drop_eq_nil_of_le (by omega : l.length ≤ t)]; simp
theorem seg_nth {l : List Ent} {f t : Nat} {e : Ent} (he : e ∈ seg l (f, t)) (ht : t ≤ l.length) : ∃ i, f ≤ i ∧ i < t ∧ e = nth l i := by
  unfold seg at he
  obtain ⟨i, hi, rfl⟩ := List.getElem_of_mem he
  simp only [List.length_drop, List.length_take] at hi
  refine ⟨f + i, by omega, by omega, ?_⟩
  rw [nth_eq _ (by omega)]
  simp
theorem segs_rest {l : List Ent} {f t : Nat} (ht : t ≤ l.length) (h : t < l.length → (nth l t).key ≠ (nth l f).key) : ∀ e r, l.drop t = e :: r → e.key ≠ (nth l f).key := by
  intro e r hr
  have hlt : t < l.length := by
    rcases Nat.lt_or_ge t l.length with h' | h'
    · exact h'
    · rw [List.drop_eq_nil_of_le h'] at hr; cases hr
  rw [List.drop_eq_getElem_cons hlt] at hr
  cases hr
  rw [← nth_eq]
  exact h hlt
theorem segs_seen {l : List Ent} (up : Nat) : ∀ {xs : List (Nat × Nat)} {a : Nat}, Segs l a xs l.length → seenGo up (l.drop a) none false = xs.flatMap (fun p => seenSeg up (seg l p))
  | [], a, h => by
    have : a = l.length := h
    rw [List.drop_eq_nil_of_le (by omega)]; rfl
  | p :: xs, a, ⟨h1, h2, h3, h4, h5, h6⟩ => by
    subst h1
    rw [seg_split (Nat.le_of_lt h2), seenGo_seg (segs_rest h3 h5) up (seg l (p.1, p.2)) none (fun e he => by obtain ⟨i, g1, g2, rfl⟩ := seg_nth he h3; exact h4 i g1 g2), segs_seen up h6]
    rfl
theorem segs_prune {l : List Ent} (hl : l.Pairwise lt) (keep : Nat) (bottom : Bool) : ∀ {xs : List (Nat × Nat)} {a : Nat}, Segs l a xs l.length → pruneGo keep bottom (l.drop a) none false = xs.flatMap (fun p => pruneSeg keep bottom (seg l p))
  | [], a, h => by
    have : a = l.length := h
    rw [List.drop_eq_nil_of_le (by omega)]; rfl
  | p :: xs, a, ⟨h1, h2, h3, h4, h5, h6⟩ => by
    subst h1
    rw [seg_split (Nat.le_of_lt h2), pruneGo_seg (segs_rest h3 h5) keep bottom (seg l (p.1, p.2)) none (fun e he => by obtain ⟨i, g1, g2, rfl⟩ := seg_nth he h3; exact h4 i g1 g2) ((hl.sublist (List.take_sublist _ _)).sublist (List.drop_sublist _ _)), segs_prune hl keep bottom h6]
    rfl
end Ent
end Go.Proofs.Ytfcfipoldkjloaa
