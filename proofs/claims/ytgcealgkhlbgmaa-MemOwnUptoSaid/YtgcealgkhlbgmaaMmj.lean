/- An entry set in a row of the call's own. -/
import Derived.Test.YtgcealgkhlbgmaaMmi
namespace Go.Proofs.Ytgcealgkhlbgmaa
open Go.RowKit
set_option linter.unusedVariables false

theorem own_form {w : World} {B e s n c : Nat} {a : Option Addr} {cs : List Value} (h : w.ownsRow B e s (.slice a n c) n cs) (hn : 0 < n) : ∃ g, a = some ⟨g, 0, none⟩ ∧ B ≤ g ∧ g < w.heap.size := by
  rcases h.2 with ⟨h1, h2⟩ | ⟨g, cap, cur, h1, h2, h3, _⟩
  · omega
  · cases h1
    exact ⟨g, rfl, h2, (Array.getElem?_eq_some_iff.1 h3).1⟩
theorem own_frozen {w : World} {B e s n c g : Nat} {cs : List Value} (h : w.ownsRow B e s (.slice (some ⟨g, 0, none⟩) n c) n cs) (j : Nat) : w.frozen? ⟨g, j, none⟩ = false ∧ ∃ m, w.shape? g = some (e, m) := by
  rcases h.2 with ⟨h1, _⟩ | ⟨g', cap, cur, h1, h2, h3, _⟩
  · cases h1
  · cases h1
    exact ⟨by simp [World.frozen?, h3], _, shape_of h3⟩
theorem own_set {w : World} {B e s n c g : Nat} {cs : List Value} (h : w.ownsRow B e s (.slice (some ⟨g, 0, none⟩) n c) n cs) (k : Nat) (u : Value) : (w.setCell ⟨g, k, none⟩ u).ownsRow B e s (.slice (some ⟨g, 0, none⟩) n c) n (cs.set k u) := by
  refine ⟨by rw [List.length_set]; exact h.1, ?_⟩
  rcases h.2 with ⟨h1, _⟩ | ⟨g', cap, cur, h1, h2, h3, h4, h5, h6, h7⟩
  · cases h1
  · cases h1
    refine .inr ⟨g, c, cur.setIfInBounds k u, rfl, h2, ?_, h4, h5, by rw [Array.size_setIfInBounds]; exact h6, ?_⟩
    · simp only [World.setCell, Array.getElem?_modify]
      rw [if_pos trivial, h3]
      rfl
    · rw [Array.toList_setIfInBounds, ← h7, List.take_set]
theorem Bs.setOther {w : World} {a : Option Addr} {n c g k : Nat} {l : List UInt8} {u : Value} (h : Bs w a n c l) (hne : 0 < l.length → ∀ x, a = some x → x.block ≠ g) : Bs (w.setCell ⟨g, k, none⟩ u) a n c l :=
  ⟨h.1, h.2.1, h.2.2.1, fun j v hj => by
    obtain ⟨b, off, e, hc⟩ := h.2.2.2 j v hj
    have hl : 0 < l.length := by
      have := (List.getElem?_eq_some_iff.1 hj).1
      rw [vs_len] at this
      omega
    exact ⟨b, off, e, (World.cell?_setCell_other _ _ _ _ (fun e2 => hne hl _ e (congrArg Addr.block e2).symm)).trans hc⟩⟩
/-- An entry stored in the row of block g, at place i. -/
def putAt (w : World) (g i : Nat) (e : Ent) (a : Option Addr) (c : Nat) : World :=
  (((w.setCell ⟨g, i * 4, none⟩ (.string (bstr e.key))).setCell ⟨g, i * 4 + 1, none⟩ (.int .u64 e.seq)).setCell ⟨g, i * 4 + 2, none⟩ (.bool e.gone)).setCell ⟨g, i * 4 + 3, none⟩ (.slice a e.val.length c)
theorem AccE.setE {w : World} {B n c g i : Nat} {l : List Ent} (h : AccE w B (some ⟨g, 0, none⟩) n c l) (hi : i < n) (e : Ent) (ae : Option Addr) (ce : Nat) (he : Bs w ae e.val.length ce e.val) (hne : 0 < e.val.length → ∀ x, ae = some x → x.block ≠ g) :
    AccE (putAt w g i e ae ce) B (some ⟨g, 0, none⟩) n c (l.set i e) := by
  obtain ⟨cs, h1, h2⟩ := h.row
  have hl := h.len
  have hcl : cs.length = n * 4 := h1.1
  have hown := own_set (own_set (own_set (own_set h1 (i * 4) (.string (bstr e.key))) (i * 4 + 1) (.int .u64 e.seq)) (i * 4 + 2) (.bool e.gone)) (i * 4 + 3) (.slice ae e.val.length ce)
  have hbs : ∀ {a' : Option Addr} {n' c' : Nat} {l' : List UInt8}, Bs w a' n' c' l' → (0 < l'.length → ∀ x, a' = some x → x.block ≠ g) → Bs (putAt w g i e ae ce) a' n' c' l' := fun hb hn => by
    unfold putAt
    exact (((hb.setOther hn).setOther hn).setOther hn).setOther hn
  refine ⟨by simp [hl], _, hown, fun m hm => ?_⟩
  by_cases em : m = i
  · subst em
    have e1 : nth (l.set m e) m = e := by
      rw [nth_eq _ (by simp; omega)]
      simp
    rw [e1]
    refine ⟨ae, ce, fun j v hj => ?_, hbs he (fun h0 => hne h0), fun h0 x y hx hy => by cases hy; exact hne h0 x hx⟩
    match j, hj with
    | 0, hj => cases hj; simp [List.getElem?_set, hcl]; omega
    | 1, hj => cases hj; simp [List.getElem?_set, hcl]; omega
    | 2, hj => cases hj; simp [List.getElem?_set, hcl]; omega
    | 3, hj => cases hj; simp [List.getElem?_set, hcl]; omega
    | j + 4, hj => simp [entCells] at hj
  · have e1 : nth (l.set i e) m = nth l m := by
      simp only [nth, List.getD_eq_getElem?_getD]
      rw [List.getElem?_set_ne (fun e => em e.symm)]
    rw [e1]
    obtain ⟨ai, ci, g1, g2, g3⟩ := h2 m hm
    refine ⟨ai, ci, fun j v hj => ?_, hbs g2 (fun h0 x hx => g3 h0 x _ hx rfl), g3⟩
    have hj4 : j < 4 := (List.getElem?_eq_some_iff.1 hj).1
    rw [List.getElem?_set_ne (by omega), List.getElem?_set_ne (by omega), List.getElem?_set_ne (by omega), List.getElem?_set_ne (by omega)]
    exact g1 j v hj
theorem set_heap {w : World} {g k : Nat} {cs : Array Value} {t : TypeId} {fr : Nat × Nat} (u : Value) (h : w.heap[g]? = some (.cells cs t fr)) : (w.setCell ⟨g, k, none⟩ u).heap[g]? = some (.cells (cs.setIfInBounds k u) t fr) := by
  simp only [World.setCell, Array.getElem?_modify]
  rw [if_pos trivial, h]
  rfl
theorem RT.below {w w' : World} {B rb : Nat} {R : List Nat} {ad : Option Addr} {nd cd : Nat} {ld : List Int} {L : List Ent} {hs : List Nat} (h : RT w B rb R ad nd cd ld L hs) (hb : Below w.heap.size w w') : RT w' B rb R ad nd cd ld L hs := by
  obtain ⟨aL, cL, aH, cH, h1, h2, h3, h4, h5⟩ := h
  exact ⟨aL, cL, aH, cH, (hb.block rb (Array.getElem?_eq_some_iff.1 h1).1).trans h1, h2.below hb, own_below h3 hb, h4.below hb, h5⟩
theorem own_apart {S : List Nat} {w w' : World} {B e s n c : Nat} {a : Option Addr} {cs : List Value} (h : w.ownsRow B e s (.slice a n c) n cs) (k : Keep S w w') (hS : ∀ b ∈ S, ∃ t m, w.shape? b = some (t, m) ∧ t ≠ e) : w'.ownsRow B e s (.slice a n c) n cs := by
  refine ⟨h.1, ?_⟩
  rcases h.2 with g | ⟨g, cap, cur, g1, g2, g3, g4⟩
  · exact .inl g
  · refine .inr ⟨g, cap, cur, g1, g2, ?_, g4⟩
    rw [k.block g (Array.getElem?_eq_some_iff.1 g3).1 (fun hm => by
      obtain ⟨t, m, h1, h2⟩ := hS g hm
      rw [shape_of g3] at h1
      cases h1
      exact h2 rfl)]
    exact g3
theorem Is.keepB {S : List Nat} {w w' : World} {B : Nat} {a : Option Addr} {n c : Nat} {l : List Int} (h : Is w a n c l) (k : Keep S w w') (hS : ∀ b ∈ S, B ≤ b) (h7 : 0 < n → ∀ x, a = some x → x.block < B) : Is w' a n c l := by
  refine ⟨h.1, h.2.1, h.2.2.1, fun j v hj => ?_, h.2.2.2.2⟩
  obtain ⟨b, off, e, hc⟩ := h.2.2.2.1 j v hj
  refine ⟨b, off, e, k.cell (fun hm => ?_) hc⟩
  have hnd : 0 < n := by
    have h1 := (List.getElem?_eq_some_iff.1 hj).1
    have h2 := h.1
    have h3 : (zv l).length = l.length := by simp [zv]
    omega
  have h9 : b < B := h7 hnd _ e
  have h10 : B ≤ b := hS _ hm
  omega
theorem Keep.putAt {S : List Nat} {w w1 : World} {g i : Nat} {e e' : Ent} {a a' : Option Addr} {c c' : Nat} (h : Keep S w w1) (hg : g ∈ S) (hE : EntAt w1 g (i * 4) e' a' c') : Keep S w (putAt w1 g i e a c) := by
  have h0 := hE.key
  have h1 := hE.seq
  have h2 := hE.gone
  have h3 := hE.val
  unfold Go.Proofs.Ytgcealgkhlbgmaa.putAt
  have hne : ∀ {x y : Nat}, x ≠ y → (⟨g, x, none⟩ : Addr) ≠ ⟨g, y, none⟩ := fun h e => h (by cases e; rfl)
  refine (((h.set _ (.inr ⟨hg, fun n => ?_⟩)).set _ (.inr ⟨hg, fun n => ?_⟩)).set _ (.inr ⟨hg, fun n => ?_⟩)).set _ (.inr ⟨hg, fun n => ?_⟩)
  · rw [show (⟨g, i * 4, none⟩ : Addr) = ⟨g, i * 4 + 0, none⟩ from rfl]
    rw [show w1.cell? ⟨g, i * 4 + 0, none⟩ = _ from h0]; exact fun e => by cases e
  · rw [World.cell?_setCell_other _ _ _ _ (hne (by omega)), h1]; exact fun e => by cases e
  · rw [World.cell?_setCell_other _ _ _ _ (hne (by omega)), World.cell?_setCell_other _ _ _ _ (hne (by omega)), h2]; exact fun e => by cases e
  · rw [World.cell?_setCell_other _ _ _ _ (hne (by omega)), World.cell?_setCell_other _ _ _ _ (hne (by omega)), World.cell?_setCell_other _ _ _ _ (hne (by omega)), h3]; exact fun e => by cases e
/-- What touches none of its blocks leaves it. -/
theorem RT.keep {S : List Nat} {w w' : World} {B rb : Nat} {R : List Nat} {ad : Option Addr} {nd cd : Nat} {ld : List Int} {L : List Ent} {hs : List Nat} (h : RT w B rb R ad nd cd ld L hs) (k : Keep S w w') (hS : ∀ b ∈ S, B ≤ b) (hn : ∀ b ∈ S, ∃ t n, w.shape? b = some (t, n) ∧ t ≠ 43 ∧ t ≠ 30 ∧ t ≠ 3) : RT w' B rb R ad nd cd ld L hs := by
  obtain ⟨aL, cL, aH, cH, h1, h2, h3, h4, h5, h6, h7, h8⟩ := h
  have hno : ∀ {b : Nat} {t : TypeId} {n : Nat}, w.shape? b = some (t, n) → (t = 43 ∨ t = 30 ∨ t = 3) → b ∉ S := fun hs ht hm => by
    obtain ⟨t', n', g1, g2, g3, g4⟩ := hn _ hm
    rw [hs] at g1
    cases g1
    rcases ht with e | e | e
    · exact g2 e
    · exact g3 e
    · exact g4 e
  have hown : ∀ {e s n c : Nat} {a : Option Addr} {cs : List Value}, w.ownsRow B e s (.slice a n c) n cs → (e = 43 ∨ e = 30 ∨ e = 3) → w'.ownsRow B e s (.slice a n c) n cs := fun h he => by
    refine ⟨h.1, ?_⟩
    rcases h.2 with g | ⟨g, cap, cur, g1, g2, g3, g4⟩
    · exact .inl g
    · refine .inr ⟨g, cap, cur, g1, g2, ?_, g4⟩
      rw [k.block g (Array.getElem?_eq_some_iff.1 g3).1 (hno (shape_of g3) he)]
      exact g3
  refine ⟨aL, cL, aH, cH, (k.block rb (Array.getElem?_eq_some_iff.1 h1).1 (hno (shape_of h1) (.inl rfl))).trans h1, ?_, hown h3 (.inr (.inr rfl)), ?_, h5, h6, h7, h8⟩
  · obtain ⟨cs, g1, g2⟩ := h2.row
    exact ⟨h2.len, cs, hown g1 (.inr (.inl rfl)), fun i hi => by
      obtain ⟨ai, ci, e1, e2, e3⟩ := g2 i hi
      exact ⟨ai, ci, e1, e2.keep k, e3⟩⟩
  · refine ⟨h4.1, h4.2.1, h4.2.2.1, fun j v hj => ?_, h4.2.2.2.2⟩
    obtain ⟨b, off, e, hc⟩ := h4.2.2.2.1 j v hj
    refine ⟨b, off, e, k.cell (fun hm => ?_) hc⟩
    have hnd : 0 < nd := by
      have := (List.getElem?_eq_some_iff.1 hj).1
      have := h4.1
      simp [zv] at *
      omega
    have h9 := h7 hnd _ e
    have h10 := hS _ hm
    have h11 : b < B := h9
    have h12 : B ≤ b := h10
    omega
end Go.Proofs.Ytgcealgkhlbgmaa
