/- What stays when a table is written; a node put in, level by level. -/
import Derived.Test.YtgcealgkhlbgmaaMmP
namespace Go.Proofs.Ytgcealgkhlbgmaa
open Go.RowKit
set_option linter.unusedVariables false

/-! What stays: all blocks but those of S; every byte; what is frozen; the shapes. -/
structure Keep (S : List Nat) (w w' : World) : Prop where
  os : w'.os = w.os
  tape : w'.tape = w.tape
  output : w'.output = w.output
  size : w.heap.size ≤ w'.heap.size
  block : ∀ g, g < w.heap.size → g ∉ S → w'.heap[g]? = w.heap[g]?
  byte : ∀ p n, w.cell? p = some (.int .u8 n) → w'.cell? p = some (.int .u8 n)
  frz : ∀ a : Addr, a.block < w.heap.size → w'.frozen? a = w.frozen? a
  shp : ∀ g, g < w.heap.size → w'.shape? g = w.shape? g
theorem Keep.refl (S : List Nat) (w : World) : Keep S w w := ⟨rfl, rfl, rfl, Nat.le_refl _, fun _ _ _ => rfl, fun _ _ h => h, fun _ _ => rfl, fun _ _ => rfl⟩
theorem Keep.trans {S : List Nat} {a b c : World} (h : Keep S a b) (k : Keep S b c) : Keep S a c :=
  ⟨k.os.trans h.os, k.tape.trans h.tape, k.output.trans h.output, Nat.le_trans h.size k.size, fun g hg hn => (k.block g (Nat.lt_of_lt_of_le hg h.size) hn).trans (h.block g hg hn),
   fun p n hp => k.byte p n (h.byte p n hp), fun p hp => (k.frz p (Nat.lt_of_lt_of_le hp h.size)).trans (h.frz p hp), fun g hg => (k.shp g (Nat.lt_of_lt_of_le hg h.size)).trans (h.shp g hg)⟩
theorem Keep.of_below {S : List Nat} {w w' : World} (h : Below w.heap.size w w') : Keep S w w' :=
  ⟨h.os, h.tape, h.output, h.size, fun g hg _ => h.block g hg, fun p n hp => cell_later h hp, fun p hp => h.frozen hp, fun g hg => shape_same (h.block g hg)⟩
theorem Keep.more {S S' : List Nat} {w w' : World} (h : Keep S w w') (hs : ∀ g, g ∈ S → g ∈ S') : Keep S' w w' :=
  ⟨h.os, h.tape, h.output, h.size, fun g hg hn => h.block g hg (fun hm => hn (hs g hm)), h.byte, h.frz, h.shp⟩
/-- What is new may be forgotten. -/
theorem Keep.old {S S' : List Nat} {w w' : World} (h : Keep S w w') (hs : ∀ g, g ∈ S → g < w.heap.size → g ∈ S') : Keep S' w w' :=
  ⟨h.os, h.tape, h.output, h.size, fun g hg hn => h.block g hg (fun hm => hn (hs g hm hg)), h.byte, h.frz, h.shp⟩
theorem Keep.trans' {S S' : List Nat} {a b c : World} (h : Keep S a b) (k : Keep S' b c) (hs : ∀ g, g ∈ S' → g ∈ S ∨ a.heap.size ≤ g) : Keep S a c :=
  ⟨k.os.trans h.os, k.tape.trans h.tape, k.output.trans h.output, Nat.le_trans h.size k.size, fun g hg hn => (k.block g (Nat.lt_of_lt_of_le hg h.size) (fun hm => by rcases hs g hm with e | e; exact hn e; omega)).trans (h.block g hg hn),
   fun p n hp => k.byte p n (h.byte p n hp), fun p hp => (k.frz p (Nat.lt_of_lt_of_le hp h.size)).trans (h.frz p hp), fun g hg => (k.shp g (Nat.lt_of_lt_of_le hg h.size)).trans (h.shp g hg)⟩
theorem Keep.below {S : List Nat} {B : Nat} {w w' : World} (h : Keep S w w') (hS : ∀ b ∈ S, B ≤ b) (hB : B ≤ w.heap.size) : Below B w w' :=
  ⟨h.os, h.tape, h.output, h.size, fun g hg => h.block g (by omega) (fun hm => by have := hS g hm; omega)⟩
theorem Keep.set {S : List Nat} {w w1 : World} {p : Addr} (h : Keep S w w1) (v : Value) (hp : w.heap.size ≤ p.block ∨ p.block ∈ S ∧ ∀ n, w1.cell? p ≠ some (.int .u8 n)) : Keep S w (w1.setCell p v) := by
  refine ⟨h.os, h.tape, h.output, by rw [World.size_setCell]; exact h.size, fun g hg hn => ?_, fun q n hq => ?_, fun a ha => by rw [World.frozen?_setCell]; exact h.frz a ha, fun g hg => by rw [shape_set]; exact h.shp g hg⟩
  · refine (Below.heap_setCell _ _ _ _ ?_).trans (h.block g hg hn)
    intro e
    rcases hp with h1 | ⟨h1, _⟩
    · omega
    · rw [← e] at h1; exact hn h1
  · refine (World.cell?_setCell_other _ _ _ _ ?_).trans (h.byte q n hq)
    intro e
    subst e
    rcases hp with h1 | ⟨_, h1⟩
    · have := World.block_lt_of_cell? _ _ hq
      omega
    · exact h1 n (h.byte _ n hq)
theorem Keep.cell {S : List Nat} {w w' : World} {p : Addr} {v : Value} (h : Keep S w w') (hn : p.block ∉ S) (hc : w.cell? p = some v) : w'.cell? p = some v :=
  (World.cell?_of_block (h.block p.block (World.block_lt_of_cell? _ _ hc) hn)).trans hc
theorem Bs.keep {S : List Nat} {w w' : World} {a : Option Addr} {n c : Nat} {l : List UInt8} (h : Bs w a n c l) (k : Keep S w w') : Bs w' a n c l :=
  ⟨h.1, h.2.1, h.2.2.1, fun j v hj => by
    obtain ⟨b, off, rfl, hc⟩ := h.2.2.2 j v hj
    refine ⟨b, off, rfl, ?_⟩
    have hv := List.mem_of_getElem? hj
    unfold vs at hv
    obtain ⟨x, _, rfl⟩ := List.mem_map.1 hv
    exact k.byte _ _ hc⟩
theorem EntAt.keep {S : List Nat} {w w' : World} {b o : Nat} {e : Ent} {a : Option Addr} {c : Nat} (h : EntAt w b o e a c) (k : Keep S w w') (hn : b ∉ S) : EntAt w' b o e a c :=
  ⟨k.cell hn h.key, k.cell hn h.seq, k.cell hn h.gone, k.cell hn h.val⟩
theorem NdAt.keep {S : List Nat} {w w' : World} {x : Nd} (h : NdAt w x) (k : Keep S w w') (hn : x.b ∉ S) : NdAt w' x := ⟨h.ent.keep k hn, k.cell hn h.nx, h.val.keep k, h.h1, h.h2⟩
theorem Twr.keep {S : List Nat} {w w' : World} {t h : Nat} {rest : List Nd} (k : Twr w t h rest) (q : Keep S w w') (hn : t ∉ S) : Twr w' t h rest := fun i hi => q.cell hn (k i hi)

/-! Places and blocks. -/
theorem blocks_get (tb t0 : Nat) (ns : List Nd) (i : Nat) (hi : i ≤ ns.length) : (blocks tb t0 ns)[2 * i]? = some (bk tb ns i) ∧ (blocks tb t0 ns)[2 * i + 1]? = some (tw t0 ns i) := by
  have key : ∀ (ns : List Nd) (j : Nat), j < ns.length → (ns.flatMap (fun x => [x.b, x.t]))[2 * j]? = some (nth ns j).b ∧ (ns.flatMap (fun x => [x.b, x.t]))[2 * j + 1]? = some (nth ns j).t := by
    intro ns
    induction ns with
    | nil => intro j hj; simp at hj
    | cons x r ih =>
      intro j hj
      cases j with
      | zero => exact ⟨rfl, rfl⟩
      | succ j =>
        have := ih j (by simpa using hj)
        rw [show nth (x :: r) (j + 1) = nth r j by simp [nth]]
        rw [show 2 * (j + 1) = 2 * j + 1 + 1 by omega]
        exact this
  cases i with
  | zero => exact ⟨rfl, rfl⟩
  | succ i =>
    have := key ns i (by omega)
    unfold bk tw blocks
    rw [if_neg (by omega), if_neg (by omega), show i + 1 - 1 = i by omega, show 2 * (i + 1) = 2 * i + 1 + 1 by omega]
    exact this
theorem nodup_ne {l : List Nat} (h : l.Nodup) {i j : Nat} {x y : Nat} (hi : l[i]? = some x) (hj : l[j]? = some y) (hij : i ≠ j) : x ≠ y := by
  obtain ⟨h1, rfl⟩ := List.getElem?_eq_some_iff.1 hi
  obtain ⟨h2, rfl⟩ := List.getElem?_eq_some_iff.1 hj
  have hp := List.pairwise_iff_getElem.1 h
  rcases Nat.lt_or_gt_of_ne hij with h3 | h3
  · exact hp i j h1 h2 h3
  · exact (hp j i h2 h1 h3).symm
theorem tw_ne {tb t0 : Nat} {ns : List Nd} (h : (blocks tb t0 ns).Nodup) {i j : Nat} (hi : i ≤ ns.length) (hj : j ≤ ns.length) (hij : i ≠ j) : tw t0 ns i ≠ tw t0 ns j :=
  nodup_ne h (blocks_get tb t0 ns i hi).2 (blocks_get tb t0 ns j hj).2 (by omega)
theorem bk_ne {tb t0 : Nat} {ns : List Nd} (h : (blocks tb t0 ns).Nodup) {i j : Nat} (hi : i ≤ ns.length) (hj : j ≤ ns.length) (hij : i ≠ j) : bk tb ns i ≠ bk tb ns j :=
  nodup_ne h (blocks_get tb t0 ns i hi).1 (blocks_get tb t0 ns j hj).1 (by omega)
theorem bk_tw {tb t0 : Nat} {ns : List Nd} (h : (blocks tb t0 ns).Nodup) {i j : Nat} (hi : i ≤ ns.length) (hj : j ≤ ns.length) : bk tb ns i ≠ tw t0 ns j :=
  nodup_ne h (blocks_get tb t0 ns i hi).1 (blocks_get tb t0 ns j hj).2 (by omega)
theorem bk_mem {tb t0 : Nat} {ns : List Nd} {i : Nat} (hi : i ≤ ns.length) : bk tb ns i ∈ blocks tb t0 ns := List.mem_of_getElem? (blocks_get tb t0 ns i hi).1
theorem tw_mem {tb t0 : Nat} {ns : List Nd} {i : Nat} (hi : i ≤ ns.length) : tw t0 ns i ∈ blocks tb t0 ns := List.mem_of_getElem? (blocks_get tb t0 ns i hi).2
def tws (t0 : Nat) (ns : List Nd) : List Nat := t0 :: ns.map Nd.t
theorem mem_tws {t0 : Nat} {ns : List Nd} {b : Nat} : b ∈ tws t0 ns ↔ ∃ i, i ≤ ns.length ∧ b = tw t0 ns i := by
  unfold tws
  constructor
  · intro h
    rcases List.mem_cons.1 h with rfl | h
    · exact ⟨0, Nat.zero_le _, rfl⟩
    · obtain ⟨x, hx, rfl⟩ := List.mem_map.1 h
      obtain ⟨j, hj, rfl⟩ := List.mem_iff_getElem.1 hx
      exact ⟨j + 1, by omega, by unfold tw; rw [if_neg (by omega), Nat.add_sub_cancel, nth_eq _ hj]⟩
  · rintro ⟨i, hi, rfl⟩
    unfold tw
    by_cases e : i = 0
    · rw [if_pos e]; exact List.mem_cons_self
    · rw [if_neg e]
      refine List.mem_cons_of_mem _ (List.mem_map.2 ⟨nth ns (i - 1), ?_, rfl⟩)
      rw [nth_eq _ (by omega)]
      exact List.getElem_mem _
theorem tws_sub {tb t0 : Nat} {ns : List Nd} {b : Nat} (h : b ∈ tws t0 ns) : b ∈ blocks tb t0 ns := by
  obtain ⟨i, hi, rfl⟩ := mem_tws.1 h
  exact tw_mem hi
theorem bk_tws {tb t0 : Nat} {ns : List Nd} (h : (blocks tb t0 ns).Nodup) {i : Nat} (hi : i ≤ ns.length) : bk tb ns i ∉ tws t0 ns := fun hm => by
  obtain ⟨j, hj, e⟩ := mem_tws.1 hm
  exact bk_tw h hi hj e
theorem blocks_perm (tb t0 : Nat) (ns : List Nd) (p : Nat) (x : Nd) : (blocks tb t0 (ins ns p x)).Perm (x.b :: x.t :: blocks tb t0 ns) := by
  have h1 : ((ins ns p x).flatMap (fun x => [x.b, x.t])).Perm (x.b :: x.t :: ns.flatMap (fun x => [x.b, x.t])) := by
    unfold ins
    have h2 : (ns.take p ++ x :: ns.drop p).Perm (x :: ns) := by
      refine List.perm_middle.trans ?_
      rw [List.take_append_drop]
    exact h2.flatMap_right (fun x => [x.b, x.t])
  unfold blocks
  refine ((h1.cons t0).cons tb).trans ?_
  have h3 : ∀ (a b c d : Nat) (l : List Nat), (a :: b :: c :: d :: l).Perm (c :: d :: a :: b :: l) := fun a b c d l => by
    have := List.perm_append_comm (l₁ := [a, b]) (l₂ := [c, d])
    exact this.append_right l
  exact h3 _ _ _ _ _

/-! A node put in. -/
theorem ins_length {ns : List Nd} {p : Nat} {x : Nd} (hp : p ≤ ns.length) : (ins ns p x).length = ns.length + 1 := by
  unfold ins
  simp
  omega
theorem ins_nth {ns : List Nd} {p : Nat} {x : Nd} (hp : p ≤ ns.length) (i : Nat) : nth (ins ns p x) i = if i < p then nth ns i else if i = p then x else nth ns (i - 1) := by
  have hl : (ns.take p).length = p := by simp; omega
  simp only [nth, List.getD_eq_getElem?_getD]
  unfold ins
  by_cases h1 : i < p
  · rw [if_pos h1, List.getElem?_append_left (by omega), List.getElem?_take, if_pos h1]
  · rw [if_neg h1, List.getElem?_append_right (by omega), hl]
    by_cases h2 : i = p
    · rw [if_pos h2, h2]; simp
    · rw [if_neg h2, show i - p = (i - 1 - p) + 1 by omega, List.getElem?_cons_succ, List.getElem?_drop, show p + (i - 1 - p) = i - 1 by omega]
theorem ins_drop_high {ns : List Nd} {p i : Nat} {x : Nd} (hp : p ≤ ns.length) (hi : p < i) : (ins ns p x).drop i = ns.drop (i - 1) := by
  unfold ins
  have hl : (ns.take p).length = p := by simp; omega
  rw [List.drop_append, hl, List.drop_eq_nil_of_le (by omega), List.nil_append, show i - p = (i - 1 - p) + 1 by omega, List.drop_succ_cons, List.drop_drop, show p + (i - 1 - p) = i - 1 by omega]
structure Mid (W wr : World) (t0 : Nat) (ns : List Nd) (p : Nat) (x : Nd) (k : Nat) : Prop where
  keep : Keep (x.t :: tws t0 ns) W wr
  low : ∀ i, i ≤ p → ∀ j, j < ht ns i → wr.cell? ⟨tw t0 ns i, j, none⟩ = some (ptr (if j < k then nxt j ((ins ns p x).drop i) else nxt j (ns.drop i)))
  high : ∀ i, p < i → i ≤ ns.length → ∀ j, j < ht ns i → wr.cell? ⟨tw t0 ns i, j, none⟩ = some (ptr (nxt j (ns.drop i)))
  new : ∀ j, j < x.h → wr.cell? ⟨x.t, j, none⟩ = some (ptr (if j < k then nxt j (ns.drop p) else none))
theorem Mid.start {W : World} {tb t0 : Nat} {ns : List Nd} {p : Nat} {x : Nd} (h : SL W tb t0 ns) (hp : p ≤ ns.length) (hx : ∀ j, j < x.h → W.cell? ⟨x.t, j, none⟩ = some (ptr none)) : Mid W W t0 ns p x 0 :=
  ⟨Keep.refl _ _, fun i hi j hj => by rw [if_neg (Nat.not_lt_zero _)]; exact (h.place (by omega)).2.2 j hj, fun i hi hl j hj => (h.place hl).2.2 j hj, fun j hj => by rw [if_neg (Nat.not_lt_zero _)]; exact hx j hj⟩
theorem ptr_no8 (o : Option Nat) : ∀ n, some (ptr o) ≠ some (.int .u8 n) := fun n e => by cases e
theorem Mid.step {W wr : World} {tb t0 : Nat} {ns : List Nd} {p : Nat} {x : Nd} {k i : Nat} (h : Mid W wr t0 ns p x k) (hk : k < x.h) (hx12 : x.h ≤ 12) (hp : p ≤ ns.length) (hl : Last ns p k i)
    (hd : (blocks tb t0 ns).Nodup) (hxt : x.t ∉ blocks tb t0 ns) : Mid W ((wr.setCell ⟨x.t, k, none⟩ (ptr (nxt k (ns.drop p)))).setCell ⟨tw t0 ns i, k, none⟩ (ptr (some x.b))) t0 ns p x (k + 1) := by
  have hil : i ≤ ns.length := by have := hl.1; omega
  have hne : ∀ j, j ≤ ns.length → tw t0 ns j ≠ x.t := fun j hj e => hxt (e ▸ tw_mem hj)
  have c1 := h.new k hk
  have c2 := h.low i hl.1 k hl.2.1
  have other : ∀ (b j : Nat) (v : Value), ¬ (b = x.t ∧ j = k) → ¬ (b = tw t0 ns i ∧ j = k) → wr.cell? ⟨b, j, none⟩ = some v → ((wr.setCell ⟨x.t, k, none⟩ (ptr (nxt k (ns.drop p)))).setCell ⟨tw t0 ns i, k, none⟩ (ptr (some x.b))).cell? ⟨b, j, none⟩ = some v := fun b j v h1 h2 h3 =>
    (World.cell?_setCell_other _ _ _ _ (fun e => h2 (by cases e; exact ⟨rfl, rfl⟩))).trans ((World.cell?_setCell_other _ _ _ _ (fun e => h1 (by cases e; exact ⟨rfl, rfl⟩))).trans h3)
  have c2' : (wr.setCell ⟨x.t, k, none⟩ (ptr (nxt k (ns.drop p)))).cell? ⟨tw t0 ns i, k, none⟩ = some (ptr (if k < k then nxt k ((ins ns p x).drop i) else nxt k (ns.drop i))) :=
    (World.cell?_setCell_other _ _ _ _ (fun e => hne i hil (by have := congrArg Addr.block e; exact this.symm))).trans c2
  refine ⟨(h.keep.set _ (.inr ⟨List.mem_cons_self, by rw [c1]; exact ptr_no8 _⟩)).set _ (.inr ⟨List.mem_cons_of_mem _ (mem_tws.2 ⟨i, hil, rfl⟩), by rw [c2']; exact ptr_no8 _⟩), fun m hm j hj => ?_, fun m hm hml j hj => ?_, fun j hj => ?_⟩
  · by_cases ej : j = k
    · subst ej
      rw [if_pos (Nat.lt_succ_self _)]
      by_cases em : m = i
      · subst em
        rw [nxt_ins_last hp hl hk]
        exact World.cell?_setCell_same' _ _ _ (by rw [c2']; rfl)
      · rw [nxt_ins_other hp hl hm hj em]
        have h0 := h.low m hm j hj
        rw [if_neg (Nat.lt_irrefl _)] at h0
        exact other _ _ _ (fun e => hne m (by omega) e.1) (fun e => tw_ne hd (by omega) hil em e.1) h0
    · have h0 := h.low m hm j hj
      have e1 : ∀ (a b : Option Nat), (if j < k + 1 then a else b) = if j < k then a else b := fun a b => by
        by_cases h1 : j < k
        · rw [if_pos h1, if_pos (by omega)]
        · rw [if_neg h1, if_neg (by omega)]
      rw [e1]
      exact other _ _ _ (fun e => ej e.2) (fun e => ej e.2) h0
  · exact other _ _ _ (fun e => hne m hml e.1) (fun e => tw_ne hd hml hil (by have := hl.1; omega) e.1) (h.high m hm hml j hj)
  · by_cases ej : j = k
    · subst ej
      rw [if_pos (Nat.lt_succ_self _)]
      refine (World.cell?_setCell_other _ _ _ _ (fun e => hne i hil (by have := congrArg Addr.block e; exact this))).trans ?_
      exact World.cell?_setCell_same' _ _ _ (by rw [c1]; rfl)
    · have h0 := h.new j hj
      have e1 : ∀ (a b : Option Nat), (if j < k + 1 then a else b) = if j < k then a else b := fun a b => by
        by_cases h1 : j < k
        · rw [if_pos h1, if_pos (by omega)]
        · rw [if_neg h1, if_neg (by omega)]
      rw [e1]
      exact other _ _ _ (fun e => ej e.2) (fun e => ej e.2) h0
/-- The chains of a list. -/
structure Ch (w : World) (t0 : Nat) (ns : List Nd) : Prop where
  h0 : Twr w t0 12 ns
  nd : ∀ i, i < ns.length → NdAt w (nth ns i) ∧ Twr w (nth ns i).t (nth ns i).h (ns.drop (i + 1))
theorem SL.ch {w : World} {tb t0 : Nat} {ns : List Nd} (h : SL w tb t0 ns) : Ch w t0 ns := ⟨h.h0, h.nd⟩
theorem nth_bk {tb : Nat} {ns : List Nd} {i : Nat} : (nth ns i).b = bk tb ns (i + 1) := by unfold bk; rw [if_neg (by omega), Nat.add_sub_cancel]
theorem nth_tw {t0 : Nat} {ns : List Nd} {i : Nat} : (nth ns i).t = tw t0 ns (i + 1) := by unfold tw; rw [if_neg (by omega), Nat.add_sub_cancel]
theorem nth_ht {ns : List Nd} {i : Nat} : (nth ns i).h = ht ns (i + 1) := by unfold ht; rw [if_neg (by omega), Nat.add_sub_cancel]
theorem Mid.done {W wr : World} {tb t0 : Nat} {ns : List Nd} {p : Nat} {x : Nd} (h : Mid W wr t0 ns p x x.h) (hs : SL W tb t0 ns) (hp : p ≤ ns.length)
    (hx : NdAt W x) (hd : (blocks tb t0 ns).Nodup) (hxb : x.b ∉ blocks tb t0 ns) (hxt : x.t ∉ blocks tb t0 ns) (hbt : x.b ≠ x.t) : Ch wr t0 (ins ns p x) := by
  have hlow : ∀ i, i ≤ p → ∀ j, j < ht ns i → wr.cell? ⟨tw t0 ns i, j, none⟩ = some (ptr (nxt j ((ins ns p x).drop i))) := fun i hi j hj => by
    have h0 := h.low i hi j hj
    by_cases e : j < x.h
    · rwa [if_pos e] at h0
    · rw [if_neg e] at h0
      rw [nxt_ins_low hp hi e]
      exact h0
  refine ⟨fun j hj => ?_, fun i hi => ?_⟩
  · exact hlow 0 (Nat.zero_le _) j hj
  · rw [ins_length hp] at hi
    rw [ins_nth hp]
    by_cases h1 : i < p
    · rw [if_pos h1]
      refine ⟨(hs.nd i (by omega)).1.keep h.keep (fun hm => ?_), fun j hj => ?_⟩
      · rcases List.mem_cons.1 hm with e | e
        · rw [nth_bk (tb := tb)] at e
          exact hxt (e ▸ bk_mem (by omega))
        · rw [nth_bk (tb := tb)] at e
          exact bk_tws hd (by omega) e
      · rw [nth_tw (t0 := t0)]
        rw [nth_ht] at hj
        exact hlow (i + 1) (by omega) j hj
    · rw [if_neg h1]
      by_cases h2 : i = p
      · rw [if_pos h2]
        refine ⟨hx.keep h.keep (fun hm => ?_), fun j hj => ?_⟩
        · rcases List.mem_cons.1 hm with e | e
          · exact hbt e
          · exact hxb (tws_sub e)
        · rw [ins_drop_high hp (by omega), h2, Nat.add_sub_cancel]
          have := h.new j hj
          rwa [if_pos hj] at this
      · rw [if_neg h2]
        refine ⟨(hs.nd (i - 1) (by omega)).1.keep h.keep (fun hm => ?_), fun j hj => ?_⟩
        · rcases List.mem_cons.1 hm with e | e
          · rw [nth_bk (tb := tb)] at e
            exact hxt (e ▸ bk_mem (by omega))
          · rw [nth_bk (tb := tb)] at e
            exact bk_tws hd (by omega) e
        · rw [ins_drop_high hp (by omega), show i + 1 - 1 = i by omega]
          rw [nth_ht] at hj
          rw [nth_tw (t0 := t0)]
          have := h.high (i - 1 + 1) (by omega) (by omega) j hj
          rwa [show i - 1 + 1 = i by omega] at this ⊢
theorem Ch.keep {S : List Nat} {w w' : World} {tb t0 : Nat} {ns : List Nd} (h : Ch w t0 ns) (k : Keep S w w') (hn : ∀ b ∈ S, b ∉ t0 :: ns.flatMap (fun x => [x.b, x.t])) : Ch w' t0 ns := by
  refine ⟨h.h0.keep k (fun hm => hn _ hm List.mem_cons_self), fun i hi => ?_⟩
  obtain ⟨h1, h2⟩ := h.nd i hi
  have hm : nth ns i ∈ ns := by rw [nth_eq _ hi]; exact List.getElem_mem _
  exact ⟨h1.keep k (fun h' => hn _ h' (List.mem_cons_of_mem _ (List.mem_flatMap.2 ⟨_, hm, by simp⟩))), h2.keep k (fun h' => hn _ h' (List.mem_cons_of_mem _ (List.mem_flatMap.2 ⟨_, hm, by simp⟩)))⟩
theorem ins_sorted {ns : List Nd} {x : Nd} (hs : (ns.map Nd.e).Pairwise Ent.lt) (h : ∀ j, j < ns.length → below ns x.e ≤ j → Ent.cmp (nth ns j).e x.e ≠ 0) : ((ins ns (below ns x.e) x).map Nd.e).Pairwise Ent.lt := by
  unfold ins
  rw [List.map_append, List.map_cons, List.pairwise_append, List.pairwise_cons]
  have hp := below_le ns x.e
  have hlow : ∀ a ∈ (ns.take (below ns x.e)).map Nd.e, Ent.lt a x.e := fun a ha => by
    obtain ⟨y, hy, rfl⟩ := List.mem_map.1 ha
    obtain ⟨j, hj, rfl⟩ := List.mem_iff_getElem.1 hy
    simp only [List.length_take] at hj
    have := below_lt (ns := ns) (v := x.e) (j := j) (by omega)
    rw [List.getElem_take]
    rw [nth_eq _ (by omega)] at this
    exact Ent.cmp_lt.1 this
  have hhigh : ∀ b ∈ (ns.drop (below ns x.e)).map Nd.e, Ent.lt x.e b := fun b hb => by
    obtain ⟨y, hy, rfl⟩ := List.mem_map.1 hb
    obtain ⟨j, hj, rfl⟩ := List.mem_iff_getElem.1 hy
    simp only [List.length_drop] at hj
    have h1 := below_ge hs (v := x.e) (j := below ns x.e + j) (by omega) (by omega)
    have h2 := h (below ns x.e + j) (by omega) (by omega)
    rw [List.getElem_drop]
    rw [nth_eq _ (by omega)] at h1 h2
    rcases Ent.cmp_cases (ns[below ns x.e + j]'(by omega)).e x.e with h3 | h3 | h3
    · exact absurd h3 h1
    · exact absurd h3 h2
    · exact Ent.cmp_gt.1 h3
  refine ⟨?_, ⟨hhigh, ?_⟩, fun a ha b hb => ?_⟩
  · rw [List.map_take]; exact hs.sublist (List.take_sublist _ _)
  · rw [List.map_drop]; exact hs.sublist (List.drop_sublist _ _)
  · rcases List.mem_cons.1 hb with rfl | hb
    · exact hlow a ha
    · exact Ent.lt_trans (hlow a ha) (hhigh b hb)

/-! A value in the place of another one. -/
theorem nxt_congr (k : Nat) : ∀ (l l' : List Nd), l.map (fun x => (x.b, x.h)) = l'.map (fun x => (x.b, x.h)) → nxt k l = nxt k l'
  | [], [], _ => rfl
  | [], _ :: _, h => by cases h
  | _ :: _, [], h => by cases h
  | x :: l, y :: l', h => by
    simp only [List.map_cons, List.cons.injEq, Prod.mk.injEq] at h
    simp only [nxt, h.1.1, h.1.2, nxt_congr k l l' h.2]
def setv (ns : List Nd) (j : Nat) (v : Ent) (va : Option Addr) (vc : Nat) : List Nd := ns.set j { nth ns j with e := v, va := va, vc := vc }
theorem setv_length (ns : List Nd) (j : Nat) (v : Ent) (va : Option Addr) (vc : Nat) : (setv ns j v va vc).length = ns.length := by simp [setv]
theorem setv_nth {ns : List Nd} {j : Nat} (v : Ent) (va : Option Addr) (vc : Nat) (hj : j < ns.length) (i : Nat) : nth (setv ns j v va vc) i = if i = j then { nth ns j with e := v, va := va, vc := vc } else nth ns i := by
  unfold setv
  by_cases h : i = j
  · subst h
    rw [if_pos rfl, nth_eq _ (by simpa using hj)]
    simp
  · rw [if_neg h]
    simp only [nth, List.getD_eq_getElem?_getD]
    rw [List.getElem?_set_ne (fun e => h e.symm)]
theorem setv_map {α : Type} (f : Nd → α) {ns : List Nd} {j : Nat} (v : Ent) (va : Option Addr) (vc : Nat) (hj : j < ns.length) (hf : f { nth ns j with e := v, va := va, vc := vc } = f (nth ns j)) : (setv ns j v va vc).map f = ns.map f := by
  unfold setv
  rw [List.map_set, hf, nth_eq _ hj]
  apply List.ext_getElem
  · simp
  · intro i h1 h2
    rw [List.getElem_set]
    split
    · rename_i e; subst e; simp
    · rfl
theorem setv_blocks {tb t0 : Nat} {ns : List Nd} {j : Nat} (v : Ent) (va : Option Addr) (vc : Nat) (hj : j < ns.length) : blocks tb t0 (setv ns j v va vc) = blocks tb t0 ns := by
  unfold blocks
  have h := setv_map (fun x => [x.b, x.t]) v va vc hj rfl
  rw [List.flatMap_def, List.flatMap_def, h]
theorem setv_nxt {ns : List Nd} {j : Nat} (v : Ent) (va : Option Addr) (vc : Nat) (hj : j < ns.length) (k i : Nat) : nxt k ((setv ns j v va vc).drop i) = nxt k (ns.drop i) := by
  apply nxt_congr
  rw [List.map_drop, List.map_drop, setv_map (fun x => (x.b, x.h)) v va vc hj rfl]
theorem setv_sorted {ns : List Nd} {j : Nat} (v : Ent) (va : Option Addr) (vc : Nat) (hj : j < ns.length) (hs : (ns.map Nd.e).Pairwise Ent.lt) (hc : Ent.cmp (nth ns j).e v = 0) : ((setv ns j v va vc).map Nd.e).Pairwise Ent.lt := by
  have he : ∀ i, i < ns.length → Ent.eqv (nth (setv ns j v va vc) i).e (nth ns i).e ∧ Ent.eqv (nth ns i).e (nth (setv ns j v va vc) i).e := fun i hi => by
    rw [setv_nth v va vc hj]
    by_cases e : i = j
    · rw [if_pos e, e]
      have := Ent.cmp_eq.1 hc
      exact ⟨⟨this.1.symm, this.2.symm⟩, this⟩
    · rw [if_neg e]; exact ⟨⟨rfl, rfl⟩, ⟨rfl, rfl⟩⟩
  rw [List.pairwise_iff_getElem]
  intro i k hi hk hik
  simp only [List.length_map, setv_length] at hi hk
  have h := List.pairwise_iff_getElem.1 hs i k (by simpa using hi) (by simpa using hk) hik
  rw [List.getElem_map, List.getElem_map, ← nth_eq _ hi, ← nth_eq _ hk] at h
  rw [List.getElem_map, List.getElem_map, ← nth_eq _ (by rw [setv_length]; exact hi), ← nth_eq _ (by rw [setv_length]; exact hk)]
  exact Ent.eqv_lt (he i hi).1 (Ent.lt_eqv h (he k hk).2)
end Go.Proofs.Ytgcealgkhlbgmaa
