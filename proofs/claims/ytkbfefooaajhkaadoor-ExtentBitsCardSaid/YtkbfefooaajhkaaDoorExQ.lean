/- Rows of writes of the call's own: one value is cut, or one of its bytes is another one. -/
import Derived.Test.YtkbfefooaajhkaaDoorExU
set_option maxRecDepth 100000
set_option linter.unusedVariables false
set_option linter.unusedSimpArgs false
namespace Go.Proofs.YtkbfefooaajhkaaDoor
open Go.RowKit

theorem Bs.setOther {w : World} {a : Option Addr} {n c g k : Nat} {l : List UInt8} {u : Value} (h : Bs w a n c l) (hne : 0 < l.length → ∀ x, a = some x → x.block ≠ g) : Bs (w.setCell ⟨g, k, none⟩ u) a n c l :=
  ⟨h.1, h.2.1, h.2.2.1, fun j v hj => by
    have hl : 0 < l.length := by
      have := (List.getElem?_eq_some_iff.1 hj).1
      simp [vs] at this
      omega
    obtain ⟨b, off, e, hc⟩ := h.2.2.2 j v hj
    exact ⟨b, off, e, (World.cell?_setCell_other _ _ _ _ (fun e2 => hne hl _ e (congrArg Addr.block e2).symm)).trans hc⟩⟩
theorem Bs.setIn {w : World} {n c g j : Nat} {l : List UInt8} {y : UInt8} (h : Bs w (some ⟨g, 0, none⟩) n c l) (hj : j < l.length) : Bs (w.setCell ⟨g, j, none⟩ (.int .u8 (n8 y))) (some ⟨g, 0, none⟩) n c (l.set j y) := by
  refine ⟨by rw [List.length_set]; exact h.1, h.2.1, h.2.2.1, fun k v hk => ⟨g, 0, rfl, ?_⟩⟩
  unfold vs at hk
  rw [List.getElem?_map, List.getElem?_set] at hk
  by_cases e : j = k
  · subst e
    rw [if_pos rfl, if_pos hj] at hk
    cases hk
    obtain ⟨b, off, e1, hc⟩ := h.2.2.2 j (.int .u8 (n8 l[j])) (by simp [vs, hj])
    cases e1
    rw [Nat.zero_add] at *
    exact World.cell?_setCell_same' _ _ _ (by rw [hc]; rfl)
  · rw [if_neg e] at hk
    obtain ⟨b, off, e1, hc⟩ := h.2.2.2 k v (by simpa [vs] using hk)
    cases e1
    rw [World.cell?_setCell_other _ _ _ _ (fun e2 => e (by have := congrArg Addr.off e2; simp at this; omega))]
    exact hc
theorem own_thaw {w : World} {B e s n c g : Nat} {cs : List Value} (h : w.ownsRow B e s (.slice (some ⟨g, 0, none⟩) n c) n cs) (j : Nat) : w.frozen? ⟨g, j, none⟩ = false := by
  rcases h.2 with ⟨h1, _⟩ | ⟨g', cap, cur, h1, h2, h3, _⟩
  · cases h1
  · cases h1
    simp [World.frozen?, h3]
theorem own_some {w : World} {B e s n c : Nat} {a : Option Addr} {cs : List Value} (h : w.ownsRow B e s (.slice a n c) n cs) (hn : 0 < n) : ∃ g, a = some ⟨g, 0, none⟩ ∧ B ≤ g := by
  rcases h.2 with ⟨_, e⟩ | ⟨g, _, _, e, e2, _⟩
  · omega
  · cases e; exact ⟨g, rfl, e2⟩
theorem nth_set_self {α : Type} [Inhabited α] (l : List α) {i : Nat} (x : α) (hi : i < l.length) : nth (l.set i x) i = x := by
  rw [nth_eq _ (by simpa using hi)]
  simp
theorem nth_set_ne {α : Type} [Inhabited α] (l : List α) {i k : Nat} (x : α) (hk : k < l.length) (h : i ≠ k) : nth (l.set i x) k = nth l k := by
  rw [nth_eq _ (by simpa using hk), nth_eq _ hk, List.getElem_set_ne h]
theorem MadeW.at {w : World} {B n c : Nat} {a : Option Addr} {l : List Wr} (h : MadeW w B a n c l) {i : Nat} (hi : i < n) (hp : 0 < (nth l i).val.length) :
    ∃ g q ci, a = some ⟨g, 0, none⟩ ∧ B ≤ g ∧ B ≤ q ∧ g ≠ q ∧ (∀ j, w.frozen? ⟨g, j, none⟩ = false) ∧ (∀ j, w.frozen? ⟨q, j, none⟩ = false) ∧ WrAt w g (i * 3) (nth l i) (some ⟨q, 0, none⟩) ci ∧ Bs w (some ⟨q, 0, none⟩) (nth l i).val.length ci (nth l i).val ∧
      (∀ j, j ≤ (nth l i).val.length → Ws (w.setCell ⟨g, i * 3 + 2, none⟩ (.slice (some ⟨q, 0, none⟩) j ci)) a n c (l.set i ⟨(nth l i).key, (nth l i).gone, (nth l i).val.take j⟩)) ∧
      (∀ j y, j < (nth l i).val.length → Ws (w.setCell ⟨q, j, none⟩ (.int .u8 (n8 y))) a n c (l.set i ⟨(nth l i).key, (nth l i).gone, (nth l i).val.set j y⟩)) := by
  obtain ⟨cs, h1, A, C, h2, h3⟩ := h.row
  have hlen := h.len
  have hcap := h.acc.cap
  obtain ⟨g, hag, hgB⟩ := own_some h1 (by omega)
  obtain ⟨q, hq, hqB⟩ := own_some (h2 i hi).2 hp
  subst hag
  have hap : ∀ k, k < n → ∀ x, A k = some x → x.block ≠ g := fun k hk x hx => own_ne (h2 k hk).2 h1 (by decide) x ⟨g, 0, none⟩ hx rfl
  have hat : ∀ k, k < n → WrAt w g (k * 3) (nth l k) (A k) (C k) := fun k hk => by
    refine WrAt.of_cells fun j v hj => ?_
    obtain ⟨b, off, e, hc⟩ := (Row.of_own h1) (k * 3 + j) v ((h2 k hk).1 j v hj)
    cases e
    rw [Nat.zero_add] at hc
    exact hc
  have hbs : ∀ k, k < n → Bs w (A k) (nth l k).val.length (C k) (nth l k).val := fun k hk => (h2 k hk).2.bs
  refine ⟨g, q, C i, rfl, hgB, hqB, fun e => hap i hi _ hq e.symm, own_thaw h1, own_thaw (hq ▸ (h2 i hi).2), hq ▸ hat i hi, hq ▸ hbs i hi, fun j hj => ?_, fun j y hj => ?_⟩
  · refine ⟨by rw [List.length_set]; exact hlen, hcap.1, hcap.2, fun k hk => ?_⟩
    by_cases e : i = k
    · subst e
      rw [nth_set_self _ _ (by omega)]
      have hj2 : ((nth l i).val.take j).length = j := by rw [List.length_take]; omega
      refine ⟨g, 0, some ⟨q, 0, none⟩, C i, rfl, ⟨?_, ?_, ?_⟩, ?_⟩
      · rw [World.cell?_setCell_other _ _ _ _ (fun e2 => by have := congrArg Addr.off e2; simp at this)]
        rw [Nat.zero_add]; exact (hat i hi).key
      · rw [World.cell?_setCell_other _ _ _ _ (fun e2 => by have := congrArg Addr.off e2; simp at this)]
        rw [Nat.zero_add]; exact (hat i hi).gone
      · show World.cell? _ _ = some (.slice _ ((nth l i).val.take j).length _)
        rw [hj2, Nat.zero_add]
        exact World.cell?_setCell_same' _ _ _ (by rw [(hat i hi).val]; rfl)
      · show Bs _ _ ((nth l i).val.take j).length _ ((nth l i).val.take j)
        rw [hj2]
        have hb := hq ▸ hbs i hi
        have hb' := hb.setOther (g := g) (k := i * 3 + 2) (u := .slice (some ⟨q, 0, none⟩) j (C i)) (fun _ x hx => hap i hi x (hq.trans hx))
        refine ⟨hj2, by have := hb.2.1; omega, hb.2.2.1, fun k v hk => ?_⟩
        refine hb'.2.2.2 k v ?_
        unfold vs at hk ⊢
        rw [List.map_take, List.getElem?_take] at hk
        split at hk
        · exact hk
        · cases hk
    · rw [nth_set_ne _ _ (by omega) e]
      refine ⟨g, 0, A k, C k, rfl, ⟨?_, ?_, ?_⟩, (hbs k hk).setOther (fun _ x hx => hap k hk x hx)⟩
      · rw [World.cell?_setCell_other _ _ _ _ (fun e2 => by have := congrArg Addr.off e2; simp at this; omega), Nat.zero_add]; exact (hat k hk).key
      · rw [World.cell?_setCell_other _ _ _ _ (fun e2 => by have := congrArg Addr.off e2; simp at this; omega), Nat.zero_add]; exact (hat k hk).gone
      · rw [World.cell?_setCell_other _ _ _ _ (fun e2 => by have := congrArg Addr.off e2; simp at this; omega), Nat.zero_add]; exact (hat k hk).val
  · refine ⟨by rw [List.length_set]; exact hlen, hcap.1, hcap.2, fun k hk => ?_⟩
    have hgq : g ≠ q := fun e => hap i hi _ hq e.symm
    have ht : ∀ o v, w.cell? ⟨g, o, none⟩ = some v → (w.setCell ⟨q, j, none⟩ (.int .u8 (n8 y))).cell? ⟨g, o, none⟩ = some v := fun o v hv =>
      (World.cell?_setCell_other _ _ _ _ (fun e2 => hgq (congrArg Addr.block e2).symm)).trans hv
    have ht' : ∀ o v, w.cell? ⟨g, o, none⟩ = some v → (w.setCell ⟨q, j, none⟩ (.int .u8 (n8 y))).cell? ⟨g, o, none⟩ = some v := fun o v hv => by
      first
        | exact ht o v hv
        | exact (World.cell?_setCell_other _ _ _ _ (fun e2 => hgq (congrArg Addr.block e2))).trans hv
    by_cases e : i = k
    · subst e
      rw [nth_set_self _ _ (by omega)]
      refine ⟨g, 0, some ⟨q, 0, none⟩, C i, rfl, ?_, ?_⟩
      · have hh := hq ▸ hat i hi
        rw [Nat.zero_add]
        exact ⟨ht' _ _ hh.key, ht' _ _ hh.gone, by
          show World.cell? _ _ = some (.slice _ ((nth l i).val.set j y).length _)
          rw [List.length_set]; exact ht' _ _ hh.val⟩
      · show Bs _ _ ((nth l i).val.set j y).length _ ((nth l i).val.set j y)
        rw [List.length_set]
        exact (hq ▸ hbs i hi : Bs w (some ⟨q, 0, none⟩) _ _ _).setIn hj
    · rw [nth_set_ne _ _ (by omega) e]
      refine ⟨g, 0, A k, C k, rfl, ?_, (hbs k hk).setOther (fun _ x hx e2 => ?_)⟩
      · rw [Nat.zero_add]
        exact ⟨ht' _ _ (hat k hk).key, ht' _ _ (hat k hk).gone, ht' _ _ (hat k hk).val⟩
      · rcases Nat.lt_or_ge i k with hik | hik
        · have := h3 i k _ _ hik hk hq hx
          simp only at this
          omega
        · have := h3 k i _ _ (by omega) hi hx hq
          simp only at this
          omega
end Go.Proofs.YtkbfefooaajhkaaDoor
