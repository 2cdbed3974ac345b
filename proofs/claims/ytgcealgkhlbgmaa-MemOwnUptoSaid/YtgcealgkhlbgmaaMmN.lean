/- A table that is made. -/
import Derived.Test.YtgcealgkhlbgmaaMmI
import Derived.Deep.OwnRows
namespace Go.Proofs.Ytgcealgkhlbgmaa
open Go.RowKit
set_option linter.unusedVariables false

/-- The blocks of a table. -/
def blocks (tb t0 : Nat) (ns : List Nd) : List Nat := tb :: t0 :: ns.flatMap (fun x => [x.b, x.t])
theorem shape_same {w w' : World} {g : Nat} (h : w'.heap[g]? = w.heap[g]?) : w'.shape? g = w.shape? g := by simp [World.shape?, h]
theorem shape_of {w : World} {g : Nat} {cs : Array Value} {t : TypeId} {fr : Nat × Nat} (h : w.heap[g]? = some (.cells cs t fr)) : w.shape? g = some (t, cs.size) := by simp [World.shape?, h]
theorem shape_set (w : World) (a : Addr) (v : Value) (g : Nat) : (w.setCell a v).shape? g = w.shape? g := by
  simp only [World.setCell, World.shape?, Array.getElem?_modify]
  by_cases hb : a.block = g
  · simp only [hb, if_true]
    cases hh : w.heap[g]? with
    | none => simp
    | some x =>
      cases x <;> simp
      split <;> simp
  · simp [hb]
def memT (t : TypeId) : Prop := t = 64 ∨ t = 60 ∨ t = 74
/-- A block of a table's kind. -/
def Kind (w : World) (b : Nat) : Prop := ∃ t n, w.shape? b = some (t, n) ∧ memT t
theorem Kind.below {w w' : World} {b : Nat} (h : Kind w b) (hl : b < w.heap.size) (hb : Below w.heap.size w w') : Kind w' b := by
  obtain ⟨t, n, h1, h2⟩ := h
  exact ⟨t, n, by rw [← h1]; simp [World.shape?, hb.block b hl], h2⟩
/-- A table of the call's own, from block B on. -/
structure Tb (w : World) (B tb t0 : Nat) (ns : List Nd) (hg sz : Nat) (ad : Option Addr) (nd cd : Nat) (ld : List Int) : Prop where
  sl : SL w tb t0 ns
  height : w.cell? ⟨tb, 6, none⟩ = some (.int .i64 hg)
  draws : w.cell? ⟨tb, 8, none⟩ = some (.slice ad nd cd)
  size : w.cell? ⟨tb, 9, none⟩ = some (.int .i64 sz)
  own : ∀ b ∈ blocks tb t0 ns, B ≤ b ∧ b < w.heap.size ∧ (∀ j, w.frozen? ⟨b, j, none⟩ = false) ∧ Kind w b
  nodup : (blocks tb t0 ns).Nodup
  ints : Is w ad nd cd ld
  apart : ∀ x, ad = some x → x.block ∉ blocks tb t0 ns
  old : ∀ x, ad = some x → x.block < w.heap.size
theorem Tb.below {w w' : World} {B tb t0 : Nat} {ns : List Nd} {hg sz : Nat} {ad : Option Addr} {nd cd : Nat} {ld : List Int} (h : Tb w B tb t0 ns hg sz ad nd cd ld) (hb : Below w.heap.size w w') : Tb w' B tb t0 ns hg sz ad nd cd ld :=
  ⟨h.sl.below hb, cell_later hb h.height, cell_later hb h.draws, cell_later hb h.size, fun b hm => ⟨(h.own b hm).1, Nat.lt_of_lt_of_le (h.own b hm).2.1 hb.size, fun j => (hb.frozen (p := ⟨b, j, none⟩) (h.own b hm).2.1).trans ((h.own b hm).2.2.1 j), (h.own b hm).2.2.2.below (h.own b hm).2.1 hb⟩, h.nodup, h.ints.below hb, h.apart, fun x hx => Nat.lt_of_lt_of_le (h.old x hx) hb.size⟩
theorem infoP : (Try.prog.info? 74).map (fun i => (i.zero, i.size, i.bytes)) = some (some (.pointer none), 1, 8) := by kernel_rfl
set_option maxHeartbeats 4000000 in
theorem new_any (a : Option Addr) (n c : Nat) (l : List Int) (w : World) (h : Is w a n c l) (hn : n ≤ 1000000000) :
    Calls Try.prog 10 #[.slice a n c] w fun e w' => ∃ tb t0 ad cd, e = .returned (.pointer (some ⟨tb, 0, none⟩)) ∧ Tb w' w.heap.size tb t0 [] 0 0 ad n cd l ∧ Below w.heap.size w w' ∧ ∀ x, ad = some x → w.heap.size ≤ x.block := by
  have hle := h.le
  have H := Lib.hid h
  have hmk : ∀ w, (Instr.makeSlice 58 (.int .i64 12) (.int .i64 12)).run Try.prog w = .ok (.slice (some ⟨w.heap.size, 0, none⟩) 12 12) (w.alloc (.cells (madeCells #[.pointer none] 12) 74)) := run_make_row' (P := Try.prog) 58 74 (.pointer none) 8 Try.underlying58 infoP rfl .i64 .i64 12 (by omega) (by omega)
  clear h
  go_enter Try.func10, Try.ntmps10
  go_wp2_with fail
  refine (clonei_any a n c l _ H.out hn).mono ?_
  rintro e w1 ⟨a1, c1, rfl, h1, hb1, hlt1⟩
  have H1 := Lib.hid h1
  have HB1 := Lib.hid hb1
  clear h1 hb1
  go_upto_region 3 with fail
  have hn5 := heap_alloc_new w1 (.cells #[.string ⟨#[]⟩, .int .u64 0, .bool false, .slice none 0 0, .slice (some ⟨w1.heap.size + 1, 0, none⟩) 12 12, Value.nilFunc, .int .i64 0, .int .i64 0, .slice a1 n c1, .int .i64 0] 64)
  generalize hW : World.alloc (World.alloc w1 _) _ = W
  have hb2 := (below_alloc1 (w1.alloc (.cells #[.string ⟨#[]⟩, .int .u64 0, .bool false, .slice none 0 0, .slice (some ⟨w1.heap.size + 1, 0, none⟩) 12 12, Value.nilFunc, .int .i64 0, .int .i64 0, .slice a1 n c1, .int .i64 0] 64)) (.cells (madeCells #[.pointer none] 12) 74))
  rw [hW] at hb2
  have c5 := cell_later hb2 (cell_of_row _ _ 5 _ _ _ hn5)
  have f5 : W.frozen? ⟨w1.heap.size, 5, none⟩ = false := by
    rw [← hW]
    exact (frozen?_alloc_cells _ _ _ _).trans ((frozen?_alloc_cells _ _ _ _).trans (by simp [World.frozen?]))
  have hst := run_store Try.prog W ⟨w1.heap.size, 5, none⟩ (.func (.func 31) #[] #[]) .plain rfl
  have hbA := (below_alloc1 w1 (.cells #[.string ⟨#[]⟩, .int .u64 0, .bool false, .slice none 0 0, .slice (some ⟨w1.heap.size + 1, 0, none⟩) 12 12, Value.nilFunc, .int .i64 0, .int .i64 0, .slice a1 n c1, .int .i64 0] 64))
  have HBW : Hid (Below w1.heap.size w1 W) := Lib.hid (hbA.trans (hb2.mono hbA.size))
  have hot : ∀ k v, k ≠ 5 → W.cell? ⟨w1.heap.size, k, none⟩ = some v → (W.setCell ⟨w1.heap.size, 5, none⟩ (.func (.func 31) #[] #[])).cell? ⟨w1.heap.size, k, none⟩ = some v := fun k v hk hc =>
    (World.cell?_setCell_other _ _ _ _ (fun e => hk (by cases e; rfl))).trans hc
  have HOT := Lib.hid hot
  have C4 := Lib.hid (hot 4 _ (by decide) (cell_later hb2 (cell_of_row _ _ 4 _ _ _ hn5)))
  have C6 := Lib.hid (hot 6 _ (by decide) (cell_later hb2 (cell_of_row _ _ 6 _ _ _ hn5)))
  have C7 := Lib.hid (hot 7 _ (by decide) (cell_later hb2 (cell_of_row _ _ 7 _ _ _ hn5)))
  have C8 := Lib.hid (hot 8 _ (by decide) (cell_later hb2 (cell_of_row _ _ 8 _ _ _ hn5)))
  have C9 := Lib.hid (hot 9 _ (by decide) (cell_later hb2 (cell_of_row _ _ 9 _ _ _ hn5)))
  clear hot
  go_wp2
  go_ret
  have hbs : Below w1.heap.size w1 (W.setCell ⟨w1.heap.size, 5, none⟩ (.func (.func 31) #[] #[])) := HBW.out.setCell (Nat.le_refl _) _
  have hsz : w1.heap.size + 2 = W.heap.size := by rw [← hW]; simp
  refine ⟨w1.heap.size, w1.heap.size + 1, a1, c1, rfl, ⟨⟨C4.out, ?_, C7.out, fun k hk => ?_, fun i hi => by simp at hi, by simp⟩, C6.out, C8.out, C9.out, fun b hm => ?_, by simp [blocks], H1.out.below hbs, fun x hx hm => ?_, fun x hx => Nat.lt_of_lt_of_le (hlt1 x hx).2 hbs.size⟩, HB1.out.trans (hbs.mono HB1.out.size), fun x hx => (hlt1 x hx).1⟩
  · exact World.cell?_setCell_same' _ _ _ (by rw [c5]; rfl)
  · refine (World.cell?_setCell_other _ _ _ _ (fun e => by have := congrArg Addr.block e; simp at this)).trans ?_
    rw [← hW]
    have hc := cell_of_row _ _ k _ _ _ (heap_alloc_new (w1.alloc (.cells #[.string ⟨#[]⟩, .int .u64 0, .bool false, .slice none 0 0, .slice (some ⟨w1.heap.size + 1, 0, none⟩) 12 12, Value.nilFunc, .int .i64 0, .int .i64 0, .slice a1 n c1, .int .i64 0] 64)) (.cells (madeCells #[.pointer none] 12) 74))
    rw [show (w1.alloc (.cells #[.string ⟨#[]⟩, .int .u64 0, .bool false, .slice none 0 0, .slice (some ⟨w1.heap.size + 1, 0, none⟩) 12 12, Value.nilFunc, .int .i64 0, .int .i64 0, .slice a1 n c1, .int .i64 0] 64)).heap.size = w1.heap.size + 1 by simp] at hc
    refine hc.trans ?_
    match k, hk with
    | 0, _ | 1, _ | 2, _ | 3, _ | 4, _ | 5, _ | 6, _ | 7, _ | 8, _ | 9, _ | 10, _ | 11, _ => simp [madeCells, nxt]
    | k + 12, hk => omega
  · have hb : b = w1.heap.size ∨ b = w1.heap.size + 1 := by simpa [blocks] using hm
    refine ⟨?_, ?_, fun j => ?_, ?_⟩
    · have := HB1.out.size; omega
    · have := hbs.size; simp; omega
    · rw [World.frozen?_setCell, ← hW]
      exact (frozen?_alloc_cells _ _ _ _).trans ((frozen?_alloc_cells _ _ _ _).trans (by rcases hb with rfl | rfl <;> simp [World.frozen?]))
    · rcases hb with rfl | rfl
      · refine ⟨64, 10, ?_, .inl rfl⟩
        rw [shape_set, ← hW]
        have hn6 := (hb2.block w1.heap.size (by simp)).trans hn5
        rw [← hW] at hn6
        rw [shape_of hn6]
        rfl
      · refine ⟨74, 12, ?_, .inr (.inr rfl)⟩
        rw [shape_set, ← hW]
        have hn6 := heap_alloc_new (w1.alloc (.cells #[.string ⟨#[]⟩, .int .u64 0, .bool false, .slice none 0 0, .slice (some ⟨w1.heap.size + 1, 0, none⟩) 12 12, Value.nilFunc, .int .i64 0, .int .i64 0, .slice a1 n c1, .int .i64 0] 64)) (.cells (madeCells #[.pointer none] 12) 74)
        rw [World.size_alloc] at hn6
        rw [shape_of hn6]
        simp [madeCells]
  · have := (hlt1 x hx).2
    simp [blocks] at hm
    omega
end Go.Proofs.Ytgcealgkhlbgmaa
