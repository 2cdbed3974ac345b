/- Lists of entries in memory: those that are read, a row of them that a call owns. -/
import Derived.Test.YtfcfipoldkjloaaCgH
import Derived.Test.YtfcfipoldkjloaaMgT
import Derived.Test.YtfcfipoldkjloaaRange
set_option maxRecDepth 100000
set_option linter.unusedSimpArgs false
namespace Go.Proofs.Ytfcfipoldkjloaa
open Go.RowKit
set_option linter.unusedVariables false

theorem choose_cells {n : Nat} {R : Nat → Value → Prop} (h : ∀ i, i < n → ∃ v, R i v) : ∃ cs : List Value, cs.length = n ∧ ∀ i, i < n → ∃ v, cs[i]? = some v ∧ R i v := by
  induction n with
  | zero => exact ⟨[], rfl, fun i hi => by omega⟩
  | succ n ih =>
    obtain ⟨l, hl, hR⟩ := ih (fun i hi => h i (by omega))
    obtain ⟨x, hx⟩ := h n (by omega)
    refine ⟨l ++ [x], by simp [hl], fun i hi => ?_⟩
    by_cases e : i = n
    · subst e; exact ⟨x, by rw [← hl]; simp, hx⟩
    · obtain ⟨v, h1, h2⟩ := hR i (by omega)
      exact ⟨v, by rw [List.getElem?_append_left (by omega)]; exact h1, h2⟩
/-- Slices of entries that are read. -/
def Ess (w : World) (a : Option Addr) (n c : Nat) (ls : List (List Ent)) : Prop :=
  ls.length = n ∧ n ≤ c ∧ c ≤ maxLen ∧ ∀ i, i < n → ∃ b off ai ni ci, a = some ⟨b, off, none⟩ ∧ w.cell? ⟨b, off + i, none⟩ = some (.slice ai ni ci) ∧ Es w ai ni ci (nth ls i)
theorem Ess.below {w w' : World} {a : Option Addr} {n c : Nat} {ls : List (List Ent)} (h : Ess w a n c ls) (k : Below w.heap.size w w') : Ess w' a n c ls :=
  ⟨h.1, h.2.1, h.2.2.1, fun i hi => by obtain ⟨b, off, ai, ni, ci, h1, h2, h3⟩ := h.2.2.2 i hi; exact ⟨b, off, ai, ni, ci, h1, cell_later k h2, h3.below k⟩⟩
theorem Ess.le {w : World} {a : Option Addr} {n c : Nat} {ls : List (List Ent)} (h : Ess w a n c ls) : n ≤ 9223372036854775807 ∧ c ≤ 9223372036854775807 := by
  have := h.2.1; have := h.2.2.1; simp only [maxLen] at *; omega
theorem Ess.get {w : World} {a : Option Addr} {n c : Nat} {ls : List (List Ent)} (h : Ess w a n c ls) {i : Nat} (hi : i < n) :
    ∃ b off ai ni ci, a = some ⟨b, off, none⟩ ∧ w.cell? ⟨b, off + i, none⟩ = some (.slice ai ni ci) ∧ Es w ai ni ci (nth ls i) := h.2.2.2 i hi
theorem Ess.nil (w : World) : Ess w none 0 0 [] := ⟨rfl, Nat.le_refl _, by simp [maxLen], fun i hi => by omega⟩
theorem infoEs : (Try.prog.info? 26).map (fun i => (i.zero, i.size, i.bytes)) = some (some (.slice none 0 0), 1, 24) := by kernel_rfl
/-- A row of slices of the call's own; what they read lies in an elder world. -/
structure LR (w0 w : World) (a : Option Addr) (n c : Nat) (ls : List (List Ent)) : Prop where
  len : ls.length = n
  row : ∃ cs, w.ownsRow w0.heap.size 26 1 (.slice a n c) n cs ∧ ∀ i, i < n → ∃ ai ni ci, cs[i]? = some (.slice ai ni ci) ∧ Es w0 ai ni ci (nth ls i)
theorem LR.below {w0 w w' : World} {a : Option Addr} {n c : Nat} {ls : List (List Ent)} (h : LR w0 w a n c ls) (hb : Below w.heap.size w w') : LR w0 w' a n c ls := by
  obtain ⟨cs, h1, h2⟩ := h.row
  exact ⟨h.len, cs, own_below h1 hb, h2⟩
theorem LR.get {w0 w : World} {a : Option Addr} {n c : Nat} {ls : List (List Ent)} (h : LR w0 w a n c ls) {i : Nat} (hi : i < n) :
    ∃ g ai ni ci, a = some ⟨g, 0, none⟩ ∧ w.cell? ⟨g, i, none⟩ = some (.slice ai ni ci) ∧ w.frozen? ⟨g, i, none⟩ = false ∧ w0.heap.size ≤ g ∧ g < w.heap.size ∧ Es w0 ai ni ci (nth ls i) := by
  obtain ⟨cs, h1, h2⟩ := h.row
  obtain ⟨ai, ni, ci, g1, g2⟩ := h2 i hi
  rcases h1.2 with ⟨e, e0⟩ | ⟨g, cap, cur, e, hg, hgb, _⟩
  · omega
  · cases e
    have hc := h1.cells (g := g) rfl i _ g1
    rw [Addr.add_lit, Nat.zero_add] at hc
    exact ⟨g, ai, ni, ci, rfl, hc, by simp [World.frozen?, hgb], hg, (Array.getElem?_eq_some_iff.1 hgb).1, g2⟩
theorem LR.cap {w0 w : World} {a : Option Addr} {n c : Nat} {ls : List (List Ent)} (h : LR w0 w a n c ls) : n ≤ c ∧ c ≤ maxLen := by
  obtain ⟨cs, h1, _⟩ := h.row
  exact (own_cap h1).2
/-- One slice of the row is written. -/
theorem LR.set {w0 w : World} {g n c i : Nat} {ls : List (List Ent)} (h : LR w0 w (some ⟨g, 0, none⟩) n c ls) (hi : i < n) {ai : Option Addr} {ni ci : Nat} {l : List Ent} (hl : Es w0 ai ni ci l) :
    LR w0 (w.setCell ⟨g, i, none⟩ (.slice ai ni ci)) (some ⟨g, 0, none⟩) n c (ls.set i l) := by
  obtain ⟨cs, h1, h2⟩ := h.row
  have hcl : cs.length = n := by simpa using h1.1
  have hll := h.len
  refine ⟨by simp [hll], cs.set i (.slice ai ni ci), ?_, fun j hj => ?_⟩
  · refine ⟨by simpa using h1.1, ?_⟩
    rcases h1.2 with ⟨e, _⟩ | ⟨g', cap, cur, e, hg, hgb, hnc, hcm, hcs, htake⟩
    · cases e
    · cases e
      refine .inr ⟨g, c, cur.setIfInBounds i (.slice ai ni ci), rfl, hg, ?_, hnc, hcm, by simpa using hcs, ?_⟩
      · show (w.heap.modify g _)[g]? = _
        obtain ⟨hlt, hk⟩ := Array.getElem?_eq_some_iff.1 hgb
        rw [Array.getElem?_eq_getElem (by rw [Array.size_modify]; exact hlt), Array.getElem_modify_self, hk]
        rfl
      · rw [← htake]
        simp [List.take_set]
  · by_cases e : j = i
    · subst e
      refine ⟨ai, ni, ci, by simp [hcl, hj], ?_⟩
      rw [nth_eq _ (by simp; omega)]
      simpa using hl
    · obtain ⟨aj, nj, cj, g1, g2⟩ := h2 j hj
      refine ⟨aj, nj, cj, by rw [List.getElem?_set_ne (Ne.symm e)]; exact g1, ?_⟩
      rw [nth_eq _ (by simp; omega), List.getElem_set_ne (Ne.symm e), ← nth_eq]
      exact g2
/-- Rows of unlike types lie apart. -/
theorem own_apart {w : World} {B B' e e' s s' n n' : Nat} {v v' : Value} {cs cs' : List Value} (h : w.ownsRow B e s v n cs) (h' : w.ownsRow B' e' s' v' n' cs') (hne : e ≠ e') : v.ownBlock = none ∨ v.ownBlock ≠ v'.ownBlock := by
  rcases h.2 with ⟨rfl, _⟩ | ⟨g, cap, cur, rfl, _, hgb, _⟩
  · exact .inl rfl
  · right
    rcases h'.2 with ⟨rfl, _⟩ | ⟨g', cap', cur', rfl, _, hgb', _⟩
    · simp [Value.ownBlock]
    · intro k
      obtain rfl : g = g' := by simpa [Value.ownBlock] using k
      rw [hgb] at hgb'
      simp at hgb'
      exact hne hgb'.2
theorem LR.evol {w0 w w' : World} {a ao ao' : Option Addr} {n c B k co : Nat} {ls : List (List Ent)} {lo : List Ent} (h : LR w0 w a n c ls) (ho : AccE w B ao k co lo) (hev : Evol w ao w' ao') : LR w0 w' a n c ls := by
  obtain ⟨cs, h1, h2⟩ := h.row
  obtain ⟨cs', h1', _⟩ := ho.row
  refine ⟨h.len, cs, h1.kept hev.1 ?_, h2⟩
  have := own_apart h1 h1' (by decide)
  rw [own_block h1', own_block h1] at this
  rw [own_block h1]
  rcases this with h | h
  · cases a with
    | none =>
      rcases h1.2 with ⟨e, _⟩ | ⟨g, cap, cur, e, _⟩
      · exact .inl rfl
      · cases e
    | some x => cases h
  · exact .inr h
theorem Row.setAt {w : World} {a : Option Addr} {cs : List Value} {p : Addr} {u v : Value} (h : Row w a cs) (hp : w.cell? p = some u) (hu : ∀ x ∈ cs, x ≠ u) : Row (w.setCell p v) a cs := by
  intro j x hx
  obtain ⟨b, off, rfl, hc⟩ := h j x hx
  refine ⟨b, off, rfl, ?_⟩
  by_cases e : (⟨b, off + j, none⟩ : Addr) = p
  · rw [e, hp] at hc
    exact absurd (by simpa using hc.symm) (hu x (List.mem_of_getElem? hx))
  · exact (World.cell?_setCell_other _ _ _ _ (fun k => e k.symm)).trans hc
theorem Bs.setAt {w : World} {a : Option Addr} {n c : Nat} {l : List UInt8} {p : Addr} {q : Option Addr} {m k : Nat} {v : Value} (h : Bs w a n c l) (hp : w.cell? p = some (.slice q m k)) : Bs (w.setCell p v) a n c l :=
  ⟨h.1, h.2.1, h.2.2.1, h.2.2.2.setAt hp (fun x hx e => by
    unfold vs at hx
    obtain ⟨b, _, rfl⟩ := List.mem_map.1 hx
    cases e)⟩
theorem AccE.setAt {w0 w : World} {B k co g n c i : Nat} {ao : Option Addr} {lo : List Ent} {ls : List (List Ent)} {q : Option Addr} {m j : Nat} {v : Value} (h : AccE w B ao k co lo) (hl : LR w0 w (some ⟨g, 0, none⟩) n c ls) (hp : w.cell? ⟨g, i, none⟩ = some (.slice q m j)) :
    AccE (w.setCell ⟨g, i, none⟩ v) B ao k co lo := by
  obtain ⟨cs, h1, h2⟩ := h.row
  obtain ⟨cs', h1', _⟩ := hl.row
  have hgr : w.grownBy (w.setCell ⟨g, i, none⟩ v) (some g) := ⟨rfl, rfl, rfl, by simp, fun k _ hk => Below.heap_setCell _ _ _ k (fun e => hk (by rw [e]))⟩
  refine ⟨h.len, cs, h1.kept hgr ?_, fun i hi => ?_⟩
  · rcases own_apart h1' h1 (by decide) with e | e
    · cases e
    · exact .inr (Ne.symm e)
  · obtain ⟨ai, ci, g1, g2, g3⟩ := h2 i hi
    exact ⟨ai, ci, g1, g2.setAt hp, g3⟩
theorem EntAt.setAt {w : World} {b o g i : Nat} {e : Ent} {a : Option Addr} {c : Nat} {v : Value} (h : EntAt w b o e a c) (hne : b ≠ g) : EntAt (w.setCell ⟨g, i, none⟩ v) b o e a c :=
  have hk : ∀ o, (⟨g, i, none⟩ : Addr) ≠ ⟨b, o, none⟩ := fun o k => hne (by cases k; rfl)
  ⟨(World.cell?_setCell_other _ _ _ _ (hk _)).trans h.key, (World.cell?_setCell_other _ _ _ _ (hk _)).trans h.seq, (World.cell?_setCell_other _ _ _ _ (hk _)).trans h.gone, (World.cell?_setCell_other _ _ _ _ (hk _)).trans h.val⟩
/-- The rest of a slice of entries behind its first. -/
theorem Es.tail {w : World} {a : Option Addr} {n c : Nat} {l : List Ent} (h : Es w a n c l) (hn : 0 < n) : Es w (subAn a c 1 4) (n - 1) (c - 1) (l.drop 1) := by
  have := h.part (lo := 1) (hi := n) (mx := c) hn (Nat.le_refl _) h.2.1 (Nat.le_refl _)
  rwa [List.take_of_length_le (by rw [h.1]; exact Nat.le_refl _)] at this

set_option maxHeartbeats 1000000 in
theorem clonels_any (a : Option Addr) (n c : Nat) (ls : List (List Ent)) (w : World) (h : Ess w a n c ls) (hn : n ≤ 1000000) :
    Calls Try.prog 47 #[.slice a n c] w fun e w' => ∃ a' c', e = .returned (.slice a' n c') ∧ LR w w' a' n c' ls ∧ Below w.heap.size w w' := by
  have hq := fun (w : World) => Lib.run_eql_slice_nil (P := Try.prog) w 23 26 a n c 0 0 Try.underlying23
  have hle := h.le
  cases a with
  | none =>
    go_enter Try.func47, Try.ntmps47
    go_wp2
    go_ret
    have hn0 : n = 0 := by
      rcases Nat.eq_zero_or_pos n with h' | h'
      · exact h'
      · obtain ⟨_, _, _, _, _, h1, _⟩ := h.get h'; cases h1
    subst hn0
    exact ⟨none, 0, rfl, ⟨h.1, [], World.ownsRow_nil w _ _ _, fun i hi => by omega⟩, Below.refl _ _⟩
  | some ad =>
    obtain ⟨i0, hi0, hz0, hz1, hz2⟩ := info_parts infoEs
    obtain ⟨cs, hcl, hcs⟩ := choose_cells (n := n) (R := fun i v => ∃ b off ai ni ci, (some ad : Option Addr) = some ⟨b, off, none⟩ ∧ v = .slice ai ni ci ∧ w.cell? ⟨b, off + i, none⟩ = some v ∧ Es w ai ni ci (nth ls i)) (fun i hi => by
      obtain ⟨b, off, ai, ni, ci, h1, h2, h3⟩ := h.get hi
      exact ⟨_, b, off, ai, ni, ci, h1, rfl, h2, h3⟩)
    have hrow : Row (w.alloc (.cells #[] 26)) (some ad) cs := fun j v hj => by
      have hjn : j < n := by rw [← hcl]; exact (List.getElem?_eq_some_iff.1 hj).1
      obtain ⟨v', hv', b, off, ai, ni, ci, h1, h2, h3, _⟩ := hcs j hjn
      rw [hv'] at hj
      cases hj
      exact ⟨b, off, h1, cell_later (below_alloc1 w _) h3⟩
    have hone : ∀ u ∈ cs, u.oneCell' = true := fun u hu => by
      obtain ⟨j, hj, rfl⟩ := List.getElem_of_mem hu
      obtain ⟨v', hv', b, off, ai, ni, ci, h1, h2, _⟩ := hcs j (by omega)
      rw [List.getElem?_eq_getElem hj] at hv'
      cases hv'
      rw [h2]; rfl
    have hlit : (w.alloc (.cells #[] 26)).ownsRow w.heap.size 26 1 (.slice (some ⟨w.heap.size, 0, none⟩) 0 0) 0 [] :=
      ⟨rfl, .inr ⟨w.heap.size, 0, #[], rfl, Nat.le_refl _, heap_alloc_new w _, Nat.le_refl _, by simp [maxLen], rfl, rfl⟩⟩
    have HROW := Lib.hid hrow
    have HONE := Lib.hid hone
    have HLIT := Lib.hid hlit
    have HCL := Lib.hid hcl
    have HI := Lib.hid (And.intro hi0 (And.intro hz0 (And.intro hz1 hz2)))
    clear hrow hone hlit hcl hi0 hz0 hz1 hz2
    go_enter Try.func47, Try.ntmps47
    go_wp2_with (at_builtin; refine wpList_app_own rfl _ _ 23 rfl w.heap.size 26 i0 (.slice none 0 0) 1 24 Try.underlying23 HI.out.1 HI.out.2.1 HI.out.2.2.1 HI.out.2.2.2 rfl (by decide) (some ⟨w.heap.size, 0, none⟩) 0 0 [] rfl HLIT.out (some ad) n c cs rfl HROW.out (by rw [HCL.out]; simp) HONE.out (by omega) (by simp only [maxLen]; omega) (le_alloc (Nat.le_refl _)) ?_; intro a5 c5 w5 h5 hev5)
    go_ret
    simp only [Nat.zero_add, List.nil_append] at h5
    refine ⟨a5, c5, by simp, ⟨h.1, cs, h5, fun i hi => ?_⟩, (below_alloc1 w _).trans ((hev5.below (B := w.heap.size) (le_alloc (Nat.le_refl _)) (fun x hx => by cases hx; exact Nat.le_refl _)))⟩
    obtain ⟨v', hv', b, off, ai, ni, ci, h1, h2, h3, h4⟩ := hcs i hi
    exact ⟨ai, ni, ci, by rw [hv', h2], h4⟩
end Go.Proofs.Ytfcfipoldkjloaa
