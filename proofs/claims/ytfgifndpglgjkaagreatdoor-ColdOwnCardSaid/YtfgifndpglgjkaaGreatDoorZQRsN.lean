/- rs: whole, the shards that hold bytes. -/
import Derived.Test.YtfgifndpglgjkaaGreatDoorZQRsc
import Derived.Test.YtfgifndpglgjkaaGreatDoorZRows2
import Derived.RangeFuncNested
import Derived.RangeFuncBound
import Derived.RangeFuncBox
import Derived.RangeFuncCalls
import Derived.RangeFuncLeaves
import Derived.Shelf.Abstract
import Derived.WalkKit
import Derived.OwnWalkIn
import Derived.TacticsInMore
import Derived.LoopNIn
import Derived.LoopIn
import Derived.OrdersHeld
set_option linter.unusedVariables false
set_option linter.unusedSimpArgs false
section
set_option maxRecDepth 100000
set_option linter.unusedVariables false
namespace Go.Proofs.YtfgifndpglgjkaaGreatDoor
open Go.RowKit Go.Deep

/-- The numbers of the shards that are there, below i. -/
def Rs.thr (ls : List (List UInt8)) (i : Nat) : List Nat := (List.range i).filter fun j => decide (0 < (nth ls j).length)
def Rs.rows (K : Nat) (ls : List (List UInt8)) : List Nat := (Rs.thr ls ls.length).take K
theorem thr_yes {ls : List (List UInt8)} {i : Nat} (h : 0 < (nth ls i).length) : Rs.thr ls (i + 1) = Rs.thr ls i ++ [i] := by
  unfold Rs.thr; rw [List.range_succ, List.filter_append]; simp [h]
theorem thr_no {ls : List (List UInt8)} {i : Nat} (h : (nth ls i).length = 0) : Rs.thr ls (i + 1) = Rs.thr ls i := by
  unfold Rs.thr; rw [List.range_succ, List.filter_append]; simp [h]
theorem thr_mem {ls : List (List UInt8)} {i j : Nat} (h : j ∈ Rs.thr ls i) : j < i ∧ 0 < (nth ls j).length := by
  unfold Rs.thr at h
  rw [List.mem_filter] at h
  exact ⟨List.mem_range.1 h.1, by simpa using h.2⟩
theorem thr_nodup (ls : List (List UInt8)) (i : Nat) : (Rs.thr ls i).Nodup := by
  unfold Rs.thr
  exact List.Pairwise.filter _ List.nodup_range
def Rs.part (K M : Nat) (l : List Nat) : List (List UInt8) := mat K K (fun i j => at2 (Gf.stack K M) (l.getD i 0) j)
def Rs.got (ls : List (List UInt8)) (l : List Nat) : List (List UInt8) := l.map (nth ls)
def Rs.mend (K M : Nat) (ls : List (List UInt8)) : List (List UInt8) :=
  mat K (nth (Rs.got ls (Rs.rows K ls)) 0).length (Rs.tm (Gf.invL (Rs.part K M (Rs.rows K ls))) (Rs.got ls (Rs.rows K ls)) K)
def Rs.whole (K M : Nat) (ls : List (List UInt8)) : List (List UInt8) := if Rs.full (ls.take K) = true then ls.take K else Rs.mend K M ls
def Rs.lostB (K : Nat) (ls : List (List UInt8)) : Bool := decide ((Rs.thr ls ls.length).length < K)

/-- The inverse of the rows that are there. -/
theorem part_inv {K M : Nat} {l : List Nat} (hK : 1 ≤ K) (hM : K + M ≤ 255) (hl : l.length = K) (hn : l.Nodup) (hb : ∀ j ∈ l, j < K + M) :
    ∃ s : Gf.Mt × Gf.Mt, Gf.gauss K (at2 (Rs.part K M l)) K = some s ∧ Gf.invL (Rs.part K M l) = mat K K s.2 ∧ Gf.invE (Rs.part K M l) = 0 := by
  have hlen : (Rs.part K M l).length = K := mat_len _ _ _
  have hsq : Gf.sq (Rs.part K M l) = true := by
    unfold Gf.sq Rs.part
    rw [right_mat hK (by omega) hK (by omega), mat_len, mat_head (by omega)]
    simp
  have hg : Gf.gauss K (at2 (Rs.part K M l)) K ≠ none := Gf.pick_gauss (l := l) (fun i j hi hj => by
    unfold Rs.part
    have hm : l.getD i 0 ∈ l := by
      rw [List.getD_eq_getElem?_getD, List.getElem?_eq_getElem (by omega)]
      exact List.getElem_mem _
    rw [at2_mat hi hj, stack_at (hb _ hm) hj]
    rfl) hl hn (fun j hj => by have := hb j hj; omega) (by omega)
  cases hs : Gf.gauss K (at2 (Rs.part K M l)) K with
  | none => exact absurd hs hg
  | some s =>
    obtain ⟨h1, h2⟩ := inv_some hsq hlen hs
    exact ⟨s, rfl, h1, h2⟩

section
variable {w : World} {ops : Array Oper} {rest : List Oper} {o : Oper} {a : Act} {Q : Exit → Act → World → Prop}
theorem app_int2 (hgd : Region.wanted o (yielded ops a.tmps) = true) (s x : Operand) (ho : o.op = .call { callee := .builtin .append, args := #[s, x], argTypes := #[26, 26] })
    (B : Nat) {aq : Option Addr} {n c : Nat} {l : List Nat} (hs : a.eval s = .slice aq n c) (hown : OwnI w B aq n c l)
    {k j : Nat} (hx : a.eval x = .slice (some ⟨k, 0, none⟩) 1 1) (hcell : w.cell? ⟨k, 0, none⟩ = some (.int .i64 j)) (hb : n ≤ 1000000) (hB : B ≤ w.heap.size)
    (h : ∀ a' c' w', OwnI w' B a' (n + 1) c' (l ++ [j]) → Below B w w' → Evol w aq w' a' → wpList Tryz.prog ops Q rest (a.put o.dst (.slice a' (n + 1) c')) w') : wpList Tryz.prog ops Q (o :: rest) a w := by
  obtain ⟨i, hi, h0, h1, h2⟩ := info_parts infoInt
  have hr : Row w (some ⟨k, 0, none⟩) [.int .i64 j] := by
    intro y u hj
    cases y with
    | zero => simp at hj; subst hj; exact ⟨k, 0, rfl, hcell⟩
    | succ y => simp at hj
  refine wpList_app_own hgd s x 26 ho B 3 i (.int .i64 0) 1 8 Tryz.underlying26 hi h0 h1 h2 rfl (by decide) aq n c _ hs hown (some ⟨k, 0, none⟩) 1 1 [.int .i64 j] hx hr (by simp) (by intro u hu; simp at hu; subst hu; rfl) (by omega) (by simp only [maxLen]; omega) hB ?_
  intro a' c' w' g1 g2
  exact h a' c' w' (by unfold OwnI ints zv; simpa [ints, zv] using g1) (g2.below hB (fun x hx => by subst hx; exact (World.ownsRow.lt hown x.block rfl).1)) g2
/-- append to a matrix that is full: the result is read. -/
theorem app_matf (hgd : Region.wanted o (yielded ops a.tmps) = true) (s x : Operand) (ho : o.op = .call { callee := .builtin .append, args := #[s, x], argTypes := #[97, 97] })
    {aq : Option Addr} {n : Nat} {cs : List Value} (hs : a.eval s = .slice aq n n) (hrow : Row w aq cs) (hcl : cs.length = n)
    {ax : Option Addr} {m cx : Nat} {cs2 : List Value} (hx : a.eval x = .slice ax m cx) (hr : Row w ax cs2) (hl : cs2.length = m) (h1' : ∀ u ∈ cs2, u.oneCell' = true) (hb : n + m ≤ 1000000)
    (h : ∀ a' c' w', Row w' a' (cs ++ cs2) → n + m ≤ c' ∧ c' ≤ maxLen → Below w.heap.size w w' → wpList Tryz.prog ops Q rest (a.put o.dst (.slice a' (n + m) c')) w') : wpList Tryz.prog ops Q (o :: rest) a w := by
  obtain ⟨i, hi, h0, h1, h2⟩ := info_parts infoSs
  refine wpList_app hgd s x 97 ho w.heap.size 25 i (.slice none 0 0) 1 24 Tryz.underlying97 hi h0 h1 h2 rfl (by decide) aq n n cs hs (.inr ⟨aq, rfl, hrow, by rw [hcl]; simp, by simp only [maxLen]; omega⟩) ax m cx cs2 hx hr (by rw [hl]; simp) h1' (by omega) (by simp only [maxLen]; omega) (Nat.le_refl _) ?_
  intro a' c' w' g1 g2 g3 g4
  exact h a' c' w' g1.row ⟨g1.cap.2.1, g1.cap.2.2⟩ g3
end
theorem row_bss {w : World} {n c : Nat} {a : Option Addr} {cs : List Value} {ls : List (List UInt8)} (h : Row w a cs) (k : Elems w cs ls) (hl : cs.length = n) (h1 : n ≤ c) (h2 : c ≤ maxLen) : Bss w a n c ls := by
  refine ⟨by rw [← k.1, hl], h1, h2, fun i hi => ?_⟩
  obtain ⟨ai, ni, ci, h3, h4⟩ := k.2 i (by rw [← k.1, hl]; exact hi)
  obtain ⟨b, off, e1, e2⟩ := h i _ h3
  exact ⟨b, off, ai, ni, ci, e1, e2, h4⟩
theorem own_evol {w w' : World} {aq a' ao : Option Addr} {B e s n c : Nat} {cs : List Value} (h : w.ownsRow B e s (.slice ao n c) n cs) (k : Evol w aq w' a') (hne : ∀ x y, aq = some x → ao = some y → x.block ≠ y.block) : w'.ownsRow B e s (.slice ao n c) n cs := by
  refine ⟨h.1, ?_⟩
  rcases h.2 with h0 | ⟨g, cap, cur, h1, h2, h3, h4⟩
  · exact .inl h0
  · cases h1
    refine .inr ⟨g, _, cur, rfl, h2, ?_, h4⟩
    rw [k.1.block g (Array.getElem?_eq_some_iff.1 h3).1 ?_]
    · exact h3
    · cases aq with
      | none => simp
      | some x => have := hne x _ rfl rfl; simpa using fun e => this e.symm
theorem own_ne {w : World} {B B' e e' s s' n n' k k' : Nat} {a a' : Option Addr} {cs cs' : List Value} (h : w.ownsRow B e s (.slice a k n) k cs) (h' : w.ownsRow B' e' s' (.slice a' k' n') k' cs') (hne : e ≠ e') : ∀ x y, a = some x → a' = some y → x.block ≠ y.block := by
  rintro x y rfl rfl e1
  rcases h.2 with ⟨h1, _⟩ | ⟨g, cap, cur, h1, _, h2, _⟩
  · cases h1
  · rcases h'.2 with ⟨h3, _⟩ | ⟨g', cap', cur', h3, _, h4, _⟩
    · cases h3
    · cases h1
      cases h3
      have e2 : g = g' := e1
      subst e2
      rw [h2] at h4
      cases h4
      exact hne rfl
/-- Shards are picked: their numbers, and they. -/
structure Sm (w0 wr : World) (aR aS : Option Addr) (cR cS n : Nat) (l : List Nat) (v : Nat → Value) : Prop where
  below : Below w0.heap.size w0 wr
  ints : OwnI wr w0.heap.size aR n cR l
  rows : OwnV wr w0.heap.size aS n cS (l.map v)
  len : l.length = n
theorem Sm.start (w : World) (v : Nat → Value) : Sm w w none none 0 0 0 [] v := ⟨Below.refl _ _, World.ownsRow_nil _ _ _ _, OwnV.nil _ _, rfl⟩
theorem Sm.apart {w0 wr : World} {aR aS : Option Addr} {cR cS n : Nat} {l : List Nat} {v : Nat → Value} (h : Sm w0 wr aR aS cR cS n l v) : ∀ x y, aR = some x → aS = some y → x.block ≠ y.block :=
  own_ne h.ints h.rows (by decide)
end Go.Proofs.YtfgifndpglgjkaaGreatDoor
end

section
set_option maxRecDepth 100000
set_option linter.unusedVariables false
namespace Go.Proofs.YtfgifndpglgjkaaGreatDoor
open Go.RowKit Go.Deep

theorem slicer_hm (a : Option Addr) (n c : Nat) {hi mx : Int} {hi' mx' : Nat} (hhi : hi = hi') (hmx : mx = mx') (h2 : hi' ≤ mx') (h3 : mx' ≤ c) (w : World) :
    (Instr.slice 53 (.slice a n c) none (some (.int .i64 hi)) (some (.int .i64 mx))).run Tryz.prog w = .ok (.slice a hi' mx') w := by
  obtain ⟨i, hi0, _, g1, _⟩ := info_parts infoSs
  subst hhi hmx
  simp [Instr.slice, run_underlying Tryz.underlying53, sizeOf, typeInfo, hi0, Instr.sliceBounds, run_sliceBound, h2, h3]
  intro _; cases a <;> simp [Addr.add_zero']
theorem lost_full {K M : Nat} {ls : List (List UInt8)} (hl : ls.length = K + M) (h : Rs.full (ls.take K) = true) : Rs.lostB K ls = false := by
  refine decide_eq_false (Nat.not_lt.2 ?_)
  have h1 : Rs.thr ls K = List.range K := by
    unfold Rs.thr
    rw [List.filter_eq_self]
    intro j hj
    have hj := List.mem_range.1 hj
    have := full_at h (k := j) (by rw [List.length_take]; omega)
    rw [nth_take ls hj (by omega)] at this
    simpa using (by omega : 0 < (nth ls j).length)
  have h2 : (Rs.thr ls K).length ≤ (Rs.thr ls ls.length).length := by
    unfold Rs.thr
    exact (List.Sublist.filter _ (List.range_sublist.2 (by omega))).length_le
  rw [h1, List.length_range] at h2
  exact h2
/-- It reads so whatever is written to the blocks of X. -/
structure Stb (X : Nat → Prop) (w : World) (a : Option Addr) (n c : Nat) (ls : List (List UInt8)) : Prop where
  len : ls.length = n
  nc : n ≤ c
  cm : c ≤ maxLen
  vals : ∃ (ai : Nat → Option Addr) (ci : Nat → Nat), ∀ W, Onl w W X → ∀ i, i < n → (∃ b off, a = some ⟨b, off, none⟩ ∧ W.cell? ⟨b, off + i, none⟩ = some (.slice (ai i) (nth ls i).length (ci i))) ∧ Bs W (ai i) (nth ls i).length (ci i) (nth ls i)
namespace Stb
variable {X : Nat → Prop} {w w2 : World} {a : Option Addr} {n c : Nat} {ls : List (List UInt8)}
theorem later (h : Stb X w a n c ls) (k : Onl w w2 X) : Stb X w2 a n c ls := by
  obtain ⟨ai, ci, hv⟩ := h.vals
  exact ⟨h.len, h.nc, h.cm, ai, ci, fun W hW => hv W (k.trans hW)⟩
theorem below (h : Stb X w a n c ls) (k : Below w.heap.size w w2) : Stb X w2 a n c ls := h.later (Onl.of_below k)
theorem at_ (h : Stb X w a n c ls) {W : World} (k : Onl w W X) : Bss W a n c ls := by
  obtain ⟨ai, ci, hv⟩ := h.vals
  refine ⟨h.len, h.nc, h.cm, fun i hi => ?_⟩
  obtain ⟨⟨b, off, h1, h2⟩, h3⟩ := hv W k i hi
  exact ⟨b, off, _, _, _, h1, h2, h3⟩
theorem bss (h : Stb X w a n c ls) : Bss w a n c ls := h.at_ (Onl.refl _ _)
theorem of_bss (h : Bss w a n c ls) : Stb (fun _ => False) w a n c ls := by
  obtain ⟨ai, ci, hv⟩ := h.vals
  refine ⟨h.1, h.2.1, h.2.2.1, ai, ci, fun W k i hi => ?_⟩
  have hb := k.below (Nat.le_refl _) (fun _ e => e.elim)
  obtain ⟨⟨b, off, h1, h2⟩, h3⟩ := hv i hi
  exact ⟨⟨b, off, h1, cell_later hb h2⟩, h3.below hb⟩
theorem takeK (h : Stb X w a n c ls) {k : Nat} (hk : k ≤ n) : Stb X w a k k (ls.take k) := by
  obtain ⟨ai, ci, hv⟩ := h.vals
  have hn := h.len
  refine ⟨by rw [List.length_take]; omega, Nat.le_refl _, Nat.le_trans (Nat.le_trans hk h.nc) h.cm, ai, ci, fun W hW i hi => ?_⟩
  rw [nth_take ls hi (by omega)]
  exact hv W hW i (by omega)
theorem nil (w : World) : Stb X w none 0 0 [] := ⟨rfl, Nat.le_refl _, by simp [maxLen], fun _ => none, fun _ => 0, fun W hW i hi => by omega⟩
end Stb
theorem My.stb {X : Nat → Prop} {w : World} {B g n C c : Nat} {bl cp : Nat → Nat} {Z : Nat → Nat → UInt8} (h : My w B g n C bl cp Z) (hX : ∀ b, X b → b < B) (hc : n ≤ c) (hm : c ≤ maxLen) : Stb X w (some ⟨g, 0, none⟩) n c (mat n C Z) := by
  refine ⟨mat_len _ _ _, hc, hm, fun i => some ⟨bl i, 0, none⟩, cp, fun W k i hi => ?_⟩
  have hW := h.onl k (fun e => by have := hX _ e; have := h.base; omega) (fun i hi e => by have := hX _ e; have := (h.row i hi).1; omega)
  have hlen : (nth (mat n C Z) i).length = C := by rw [mat_row hi]; simp
  rw [hlen]
  refine ⟨⟨g, 0, rfl, by rw [Nat.zero_add]; exact hW.top.cell hi⟩, ?_⟩
  obtain ⟨b, off, ai, ni, ci, h1, h2, h3⟩ := (hW.bss hc hm).get hi
  cases h1
  rw [Nat.zero_add, hW.top.cell hi] at h2
  cases h2
  exact h3
def WhP (X : Nat → Prop) (K M : Nat) (ls : List (List UInt8)) (w : World) (e : Ending) (w' : World) : Prop :=
  (if Rs.lostB K ls = true then e = .panicked [errE 16] else ∃ a c, e = .returned (.slice a K c) ∧ Stb X w' a K c (Rs.whole K M ls)) ∧ Below w.heap.size w w'
theorem Sm.later {w0 wr w2 : World} {aR aS : Option Addr} {cR cS n : Nat} {l : List Nat} {v : Nat → Value} (h : Sm w0 wr aR aS cR cS n l v) (k : Below wr.heap.size wr w2) : Sm w0 w2 aR aS cR cS n l v :=
  ⟨h.below.trans (k.mono h.below.size), own_below h.ints k, h.rows.below k, h.len⟩

theorem rows_push {ls : List (List UInt8)} {K k : Nat} (h : 0 < (nth ls k).length) (hn : ((Rs.thr ls k).take K).length < K) : (Rs.thr ls (k + 1)).take K = (Rs.thr ls k).take K ++ [k] := by
  rw [List.length_take] at hn
  rw [thr_yes h, List.take_of_length_le (by simp; omega), List.take_of_length_le (by omega)]
theorem rows_stay {ls : List (List UInt8)} {K k : Nat} (hn : ¬ ((Rs.thr ls k).take K).length < K) : (Rs.thr ls (k + 1)).take K = (Rs.thr ls k).take K := by
  rw [List.length_take] at hn
  by_cases h : 0 < (nth ls k).length
  · rw [thr_yes h, List.take_append_of_le_length (by omega)]
  · rw [thr_no (by omega)]
theorem rows_skip {ls : List (List UInt8)} {K k : Nat} (h : ¬ 0 < (nth ls k).length) : (Rs.thr ls (k + 1)).take K = (Rs.thr ls k).take K := by rw [thr_no (by omega)]
theorem part_rowS {K M : Nat} {l : List Nat} {i : Nat} (hi : i < K) (hb : l.getD i 0 < K + M) : nth (Rs.part K M l) i = nth (Gf.stack K M) (l.getD i 0) := by
  unfold Rs.part
  rw [mat_row hi, stack_row hb]
  apply List.map_congr_left
  intro j hj
  rw [stack_at hb (List.mem_range.1 hj)]
theorem Sm.keep {w0 W1 w6 : World} {aR aS a6 : Option Addr} {cR cS n : Nat} {l : List Nat} {v : Nat → Value} (h : Sm w0 W1 aR aS cR cS n l v) (hev : Evol W1 aR w6 a6) : OwnV w6 w0.heap.size aS n cS (l.map v) :=
  own_evol h.rows hev h.apart
/-- A pick more. -/
theorem Sm.push {w0 wr w6 w7 : World} {aR aS a6 a7 : Option Addr} {cR cS n c6 c7 k : Nat} {l : List Nat} {v : Nat → Value} (h : Sm w0 wr aR aS cR cS n l v)
    (h6 : OwnI w6 w0.heap.size a6 (n + 1) c6 (l ++ [k])) (hb6 : Below w0.heap.size (wr.alloc (.cells #[.int .i64 k] 3)) w6) (hr : OwnV (w6.alloc (.cells #[v k] 25)) w0.heap.size aS n cS (l.map v))
    (h7 : OwnV w7 w0.heap.size a7 (n + 1) c7 (l.map v ++ [v k])) (hb7 : Below w0.heap.size (w6.alloc (.cells #[v k] 25)) w7) (hev : Evol (w6.alloc (.cells #[v k] 25)) aS w7 a7) :
    Sm w0 w7 a6 a7 c6 c7 (n + 1) (l ++ [k]) v := by
  have hsz := h.below.size
  have h66 : Below w0.heap.size w0 w6 := (h.below.alloc hsz _).trans hb6
  refine ⟨(h66.alloc h66.size _).trans hb7, own_evol (own_below h6 (below_alloc w6 _)) hev (fun x y hx hy e => own_ne (own_below h6 (below_alloc w6 (.cells #[v k] 25))) hr (by decide) y x hy hx e.symm), by simpa using h7, by simp [h.len]⟩

theorem rows_facts' {K M : Nat} {l : List (List UInt8)} (hl : l.length = K + M) (h : Rs.lostB K l = false) :
    (Rs.rows K l).length = K ∧ (Rs.rows K l).Nodup ∧ ∀ j ∈ Rs.rows K l, j < K + M ∧ 0 < (nth l j).length := by
  have h1 : ¬ (Rs.thr l l.length).length < K := of_decide_eq_false h
  refine ⟨by unfold Rs.rows; rw [List.length_take]; omega, ?_, fun j hj => ?_⟩
  · unfold Rs.rows
    exact (thr_nodup _ _).sublist (List.take_sublist _ _)
  · have := thr_mem (List.mem_of_mem_take hj)
    rw [hl] at this
    exact this
theorem got_rowS {l : List (List UInt8)} {r : List Nat} {i : Nat} (hi : i < r.length) : nth (Rs.got l r) i = nth l (r.getD i 0) := by
  unfold Rs.got
  rw [nth_eq _ (by simpa using hi), List.getElem_map, List.getD_eq_getElem?_getD, List.getElem?_eq_getElem hi]
  rfl
set_option maxHeartbeats 16000000 in
theorem whole_any (X : Nat → Prop) (b K M : Nat) (aq : Option Addr) (cs m : Nat) (ls : List (List UInt8)) (w : World) (hX : ∀ b, X b → b < w.heap.size) (hc : Cod w b K M) (hst : Stb X w aq (K + M) cs ls) (h1 : 1 ≤ K) (h2 : K + M ≤ 255) (hsc : Rs.sc ls = some m) (h4 : m ≤ 100000000) :
    Calls Tryz.prog 86 #[.pointer (some ⟨b, 0, none⟩), .slice aq (K + M) cs] w (WhP X K M ls w) := by
  have hs := hst.bss
  have HST := Lib.hid hst
  have HX := Lib.hid hX
  clear hst hX
  have hl := hs.1
  have hcs := hs.2.1
  have HC : Hid (∀ W, Below w.heap.size w W → Cod W b K M) := Lib.hid fun W h => hc.below h
  have HS : Hid (∀ W, Below w.heap.size w W → Bss W aq (K + M) cs ls) := Lib.hid fun W h => hs.below h
  have HT : Hid (∀ W, Below w.heap.size w W → Bss W aq K cs (ls.take K)) := Lib.hid fun W h => (hs.below h).take (by omega)
  obtain ⟨ai, ci, hv⟩ := hs.vals
  have HV := Lib.hid hv
  have HL := Lib.hid hl
  have HSC := Lib.hid hsc
  have k1 := hc.k
  have hs1 := slicer_h aq (K + M) cs (hi := (K : Int)) (hi' := K) rfl (by omega)
  clear hc hs hv hl hsc
  go_enter Tryz.func86, Tryz.ntmps86
  go_wp2_with fail
  refine (missing_any _ _ _ _ w (HT.out _ (Below.refl _ _)) (by omega)).mono ?_
  rintro e w1 ⟨r, q, rfl, hr, hq⟩
  have HW1 : Hid (Below w.heap.size w w1) := Lib.hid (hq ▸ below_drewN (Below.refl _ _) q)
  have k1' := (HC.out w1 HW1.out).k
  clear k1 hs1 hq
  by_cases hf : Rs.full (ls.take K) = true
  · rw [hf] at hr
    have hlo := Lib.hid (lost_full HL.out hf)
    have hwh : Hid (Rs.whole K M ls = ls.take K) := Lib.hid (by unfold Rs.whole; rw [if_pos hf])
    have hs2 := slicer_hm aq (K + M) cs (hi := (K : Int)) (hi' := K) (mx := (K : Int)) (mx' := K) rfl rfl (Nat.le_refl _) (by omega)
    clear hf
    go_wp2_with fail
    refine wp_region_class (w0 := w1) (by kernel_rfl) (by kernel_rfl) (Below.refl _ _) ?_
    have l1 := BW.cell k1'
    repeat (first | go_big_quiet_step (fail))
    refine wpQuiet_nil ?_
    intro w2 hb2; replace hb2 := BW.of hb2
    clear l1
    have HB2 := Lib.hid (HW1.out.trans (hb2.mono HW1.out.size))
    clear hb2
    go_wp2
    go_ret
    refine ⟨?_, HB2.out⟩
    rw [hlo.out, hwh.out, if_neg (by simp)]
    exact ⟨_, _, rfl, (HST.out.below HB2.out).takeK (by omega)⟩
  · have hf : Rs.full (ls.take K) = false := by simpa using hf
    rw [hf] at hr
    have hwh : Hid (Rs.whole K M ls = Rs.mend K M ls) := Lib.hid (by unfold Rs.whole; rw [hf]; rfl)
    clear hf
    go_wp2_with fail
    clear hr
    refine (unit_any K _ h1 (by omega)).mono ?_
    rintro e w2 ⟨⟨gu, blu, rfl, hu⟩, hb2⟩
    have hbu := hu.bss (c := K) (Nat.le_refl _) (by simp only [maxLen]; omega) (by simp only [maxLen]; omega)
    have HB2 := Lib.hid (HW1.out.trans (hb2.mono HW1.out.size))
    obtain ⟨csU, u1, u2, u3, u4⟩ := bss_elems hbu
    obtain ⟨ap, np, cp, k3, hp⟩ := (HC.out w2 HB2.out).p
    obtain ⟨csC, v1, v2, v3, v4⟩ := bss_elems hp
    obtain rfl : np = M := by rw [← hp.1, mat_len]
    have HE := Lib.hid (u2.append v2)
    have HU := Lib.hid (And.intro u1 u3)
    have HP := Lib.hid (And.intro v1 (And.intro v3 v4))
    clear hu hb2 hbu u1 u2 u3 u4 v1 v2 v3 v4 hp k1'
    go_wp2_with (at_builtin; refine app_matf rfl _ _ rfl rfl HU.out.1 HU.out.2 rfl HP.out.1 HP.out.2.1 HP.out.2.2 (by omega) ?_; intro a3 c3 w3 h3 hc3 hb3)
    have HBM : Hid (Bss w3 a3 (K + np) c3 (Gf.stack K np)) := Lib.hid (row_bss h3 (HE.out.below hb3) (by rw [List.length_append, HU.out.2, HP.out.2.1]) hc3.1 hc3.2)
    have HB3 := Lib.hid (HB2.out.trans (hb3.mono HB2.out.size))
    clear h3 hb3 hc3 HE HU HP k3
    have k3 := (HC.out w3 HB3.out).k
    go_wp2_with fail
    clear k3
    go_loopw [7, 8, 50] (fun r s i wr => ∃ (k n : Nat) (aR aS : Option Addr) (cR cS : Nat), k ≤ K + np ∧ i = .int .i64 k ∧ r = .slice aR n cR ∧ s = .slice aS n cS ∧ Sm w3 wr aR aS cR cS n ((Rs.thr ls k).take K) (fun j => .slice (ai j) (nth ls j).length (ci j))) (fun _ _ i _ => K + np - (intOf i).toNat)
    case atStart => exact ⟨0, 0, none, none, 0, 0, Nat.zero_le _, rfl, rfl, rfl, by have := Sm.start w3 (fun j => .slice (ai j) (nth ls j).length (ci j)); simpa [Rs.thr] using this⟩
    case round =>
      obtain ⟨k, n, aR, aS, cR, cS, hk, rfl, rfl, rfl, hsm⟩ := hrel
      have hnl : n = ((Rs.thr ls k).take K).length := hsm.len.symm
      have hnK : n ≤ K := by rw [hnl, List.length_take]; omega
      by_cases hlt : k < K + np
      · obtain ⟨⟨b0, o0, e0, d0⟩, hb0⟩ := HV.out k hlt
        subst e0
        have hwr := HB3.out.trans (hsm.below.mono HB3.out.size)
        have d1 := cell_later hwr d0
        have k9 := (HC.out wr hwr).k
        have hLb := hb0.le.1
        have hpush := Lib.hid (fun h : 0 < (nth ls k).length => fun hn : n < K => rows_push (ls := ls) (K := K) (k := k) h (by rw [← hnl]; exact hn))
        have hstay := Lib.hid (fun hn : ¬ n < K => rows_stay (ls := ls) (K := K) (k := k) (by rw [← hnl]; exact hn))
        have hskip := Lib.hid (fun h : ¬ 0 < (nth ls k).length => rows_skip (ls := ls) (K := K) (k := k) h)
        have HSM := Lib.hid hsm
        have hsz := hsm.below.size
        clear d0 hb0 hsm hnl hwr
        generalize hLL : (nth ls k).length = L at *
        have HLL := Lib.hid hLL
        clear hLL
        by_cases hL0 : 0 < L
        · by_cases hn : n < K
          · have H1 := Lib.hid (HSM.out.later (below_alloc wr (.cells #[.int .i64 (k : Int)] 3)))
            have HX1 := Lib.hid (box_new wr (.int .i64 (k : Int)) 3)
            go_wp2_with (first | (at_builtin; refine app_int2 rfl _ _ rfl w3.heap.size rfl H1.out.ints rfl HX1.out (by omega) (le_alloc hsz) ?_; intro a6 c6 w6 h6 hb6 hev6; have HR6 := Lib.hid ((H1.out.keep hev6).below (below_alloc w6 (.cells #[.slice (ai k) L (ci k)] 25))); have H6 := Lib.hid h6; have HB6 := Lib.hid hb6; have hsz6 : w3.heap.size ≤ w6.heap.size := Nat.le_trans (le_alloc hsz) hb6.size; clear h6 hb6 hev6) | (at_builtin; refine app_row rfl _ _ rfl w3.heap.size rfl HR6.out rfl (box_new w6 _ _) rfl (by omega) (le_alloc hsz6) ?_; intro a7 c7 w7 h7 hb7 hev7))
            go_roundw
            case rel =>
              refine ⟨k + 1, n + 1, a6, a7, c6, c7, by omega, by go_num, rfl, rfl, ?_⟩
              rw [hpush.out hL0 hn]
              exact HSM.out.push H6.out HB6.out (by rw [HLL.out]; exact HR6.out) (by rw [HLL.out]; exact h7) (by rw [HLL.out]; exact hb7) (by rw [HLL.out]; exact hev7)
            case measure => simp [intOf]; omega
          · have hKn : n = K := by omega
            go_wp2
            go_roundw
            case rel => exact ⟨k + 1, n, aR, aS, cR, cS, by omega, by go_num, rfl, rfl, by rw [hstay.out hn]; exact HSM.out⟩
            case measure => simp [intOf]; omega
        · go_wp2
          go_roundw
          case rel => exact ⟨k + 1, n, aR, aS, cR, cS, by omega, by go_num, rfl, rfl, by rw [hskip.out hL0]; exact HSM.out⟩
          case measure => simp [intOf]; omega
      · obtain rfl : k = K + np := by omega
        have hrows : (Rs.thr ls (K + np)).take K = Rs.rows K ls := by unfold Rs.rows; rw [HL.out]
        rw [hrows] at hsm hnl
        have hwr := HB3.out.trans (hsm.below.mono HB3.out.size)
        have k9 := (HC.out wr hwr).k
        have HSM := Lib.hid hsm
        have HWR := Lib.hid hwr
        clear hsm hwr hk hlt hrows
        by_cases hn : n < K
        · have hlo : Hid (Rs.lostB K ls = true) := Lib.hid (decide_eq_true (by
            have : (Rs.rows K ls).length < K := by omega
            unfold Rs.rows at this
            rw [List.length_take] at this
            omega))
          go_wp2_with (go_at_call 84; refine (give_any _ _).mono ?_; rintro e w' ⟨rfl, rfl⟩)
          refine ⟨rfl, ?_, HWR.out⟩
          rw [if_pos hlo.out]
        · obtain rfl : n = K := by omega
          have hlo : Rs.lostB n ls = false := decide_eq_false (by
            have : (Rs.rows n ls).length = n := hnl.symm
            unfold Rs.rows at this
            rw [List.length_take] at this
            omega)
          obtain ⟨f1, f2, f3⟩ := rows_facts' HL.out hlo
          have hmk := run_make_row' (P := Tryz.prog) 97 25 (.slice none 0 0) 24 Tryz.underlying97 infoBs rfl .i64 .i64 n (by omega) (by omega)
          obtain ⟨am, cm, hvm⟩ := HBM.out.vals
          have HVM := Lib.hid hvm
          have HLO := Lib.hid hlo
          have F := Lib.hid (And.intro f1 (And.intro f2 f3))
          clear hvm hlo f1 f2 f3 hnl
          generalize hrr : Rs.rows n ls = l at *
          have HRR := Lib.hid hrr
          clear hrr
          have hmem : Hid (∀ i, i < n → l.getD i 0 ∈ l) := Lib.hid fun i hi => by
            rw [List.getD_eq_getElem?_getD, List.getElem?_eq_getElem (by rw [F.out.1]; exact hi)]
            exact List.getElem_mem _
          go_wp2_with fail
          clear hmk k9
          have HWZ := Lib.hid (box_new wr)
          have hHB := Lib.hid (World.rowIs_made wr (.slice none 0 0) n 25)
          go_loopw [91] (fun i wi => ∃ j : Nat, j ≤ n ∧ i = .int .i64 j ∧ Below wr.heap.size wr wi ∧ rowTo wi wr.heap.size 25 n (fun i => if i < j then .slice (am (l.getD i 0)) (nth (Gf.stack n np) (l.getD i 0)).length (cm (l.getD i 0)) else .slice none 0 0)) (fun i _ => n - (intOf i).toNat)
          case atStart => exact ⟨0, Nat.zero_le _, rfl, below_alloc wr _, (rowTo.of_is hHB.out).congr (fun i _ => by simp)⟩
          case round =>
            clear hHB HWZ
            obtain ⟨j, hj, rfl, hb, hr⟩ := hrel
            by_cases hlj : j < n
            · have hls := (HSM.out.ints.is (fun j hj => by have := (F.out.2.2 j hj).1; omega)).below hb
              obtain ⟨bi, oi, ei, di⟩ := hls.get hlj
              rw [ints_nth (by rw [F.out.1]; exact hlj)] at di
              have hrl := (F.out.2.2 _ (hmem.out j hlj)).1
              obtain ⟨⟨bm, om, em, dm⟩, _⟩ := HVM.out _ hrl
              have dm1 := cell_later (HSM.out.below.trans (hb.mono HSM.out.below.size)) dm
              have c3 := hr.cell hlj
              have c4 := hr.frozen j
              have HST := Lib.hid ((hr.set j (.slice (am (l.getD j 0)) (nth (Gf.stack n np) (l.getD j 0)).length (cm (l.getD j 0)))).congr (g := fun i => if i < j + 1 then .slice (am (l.getD i 0)) (nth (Gf.stack n np) (l.getD i 0)).length (cm (l.getD i 0)) else .slice none 0 0) (fun i _ => by
                by_cases e : i = j
                · subst e; simp
                · by_cases e2 : i < j
                  · simp [e, e2, show i < j + 1 by omega]
                  · simp [e, e2, show ¬ i < j + 1 by omega]))
              have HBS := Lib.hid (hb.setCell (Nat.le_refl _) (.slice (am (l.getD j 0)) (nth (Gf.stack n np) (l.getD j 0)).length (cm (l.getD j 0))) : Below _ _ (wr.setCell (⟨_, j, none⟩ : Addr) _))
              subst ei
              subst em
              clear hr hls dm hb
              generalize l.getD j 0 = rj at *
              go_wp2
              go_roundw
              case rel => exact ⟨j + 1, by omega, by go_num, HBS.out, HST.out⟩
              case measure => simp [intOf]; omega
            · obtain rfl : j = n := by omega
              have hin := HSM.out.below.trans (hb.mono HSM.out.below.size)
              have hpart : Bss wr (some ⟨_, 0, none⟩) j j (Rs.part j np l) := ⟨mat_len _ _ _, Nat.le_refl _, by simp only [maxLen]; omega, fun i hi => by
                have hrl := (F.out.2.2 _ (hmem.out i hi)).1
                obtain ⟨_, hbs⟩ := HVM.out _ hrl
                have hc := hr.cell hi
                rw [if_pos hi] at hc
                exact ⟨_, 0, _, _, _, rfl, by rw [Nat.zero_add]; exact hc, by rw [part_rowS hi hrl]; exact hbs.below hin⟩⟩
              have HPART := Lib.hid hpart
              have HBJ := Lib.hid hb
              obtain ⟨s, hs, hinv, hinvE⟩ := part_inv (K := j) (M := np) h1 h2 F.out.1 F.out.2.1 (fun x hx => (F.out.2.2 x hx).1)
              have HINV := Lib.hid hinv
              clear hpart hr hb hin hs hinvE hinv
              go_wp2_with fail
              refine (minv_any _ _ _ _ wr HPART.out).mono ?_
              rintro e w9 hres
              obtain ⟨⟨a9, n9, c9, rfl, h9⟩, hb9⟩ := hres.res
              rw [HINV.out] at h9
              obtain rfl : n9 = j := by have := h9.1; rw [mat_len] at this; omega
              have H9 := Lib.hid h9
              have hb39 := (HBJ.out.trans (hb9.mono HBJ.out.size))
              have HB9 := Lib.hid (HWR.out.trans (hb39.mono HWR.out.size))
              have hgot : Bss w9 aS n9 cS (Rs.got ls l) := by
                refine row_bss ((Row.of_own (HSM.out.rows : World.ownsRow _ _ _ _ _ _ _)).below hb39) ⟨by unfold Rs.got; simp, fun i hi => ?_⟩ (by rw [List.length_map]; exact F.out.1) (HSM.out.rows.len.2.1) (HSM.out.rows.len.2.2)
                have hi' : i < l.length := by unfold Rs.got at hi; simpa using hi
                have hri := (F.out.2.2 _ (hmem.out i (by rw [← F.out.1]; exact hi'))).1
                refine ⟨ai (l.getD i 0), (nth ls (l.getD i 0)).length, ci (l.getD i 0), by rw [List.getElem?_map, List.getD_eq_getElem?_getD, List.getElem?_eq_getElem hi']; rfl, ?_⟩
                rw [got_rowS hi']
                exact (HV.out _ hri).2.below HB9.out
              have HGOT := Lib.hid hgot
              have hlen : ∀ i, i < n9 → (nth (Rs.got ls l) i).length = m := fun i hi => by
                have hmi := F.out.2.2 _ (hmem.out i hi)
                rw [got_rowS (by rw [F.out.1]; exact hi)]
                have := sc_len HSC.out (i := l.getD i 0) (by rw [HL.out]; exact hmi.1)
                have := hmi.2
                omega
              have HLEN := Lib.hid hlen
              clear hres h9 hb9 hb39 hgot hlen
              go_wp2_with fail
              refine (times_any' _ _ _ _ _ _ _ _ m w9 H9.out HGOT.out (by omega) HLEN.out (fun i hi => by rw [mat_row hi]; simp) (by omega) (by omega) (by omega)).mono ?_
              rintro e w10 ⟨⟨g, bl, rfl, hmx⟩, hb10⟩
              have hmy := Lib.hid (hmx.my (by simp only [maxLen]; omega))
              have HB10 := Lib.hid (HB9.out.trans (hb10.mono HB9.out.size))
              have hsz9 := HB9.out.size
              clear hmx hb10
              go_wp2
              go_ret
              refine ⟨?_, HB10.out⟩
              rw [HLO.out, if_neg (by simp), hwh.out]
              refine ⟨_, _, rfl, ?_⟩
              unfold Rs.mend
              rw [HRR.out, HLEN.out 0 (by omega), HINV.out]
              exact hmy.out.stb (fun b hb => by have := HX.out b hb; omega) (Nat.le_refl _) (by simp only [maxLen]; omega)
end Go.Proofs.YtfgifndpglgjkaaGreatDoor
end

section
set_option maxRecDepth 100000
set_option linter.unusedVariables false
namespace Go.Proofs.YtfgifndpglgjkaaGreatDoor
open Go.RowKit Go.Deep

theorem cau_ne0 {K M j i : Nat} (hj : j < M) (hi : i < K) (h : K + M ≤ 256) : Gf.cau K j i ≠ 0 := by
  rw [cau_inv, ← UInt8.ofNat_add]
  refine Gf.inv_ne0 (Gf.xor_ne fun e => ?_)
  have := Gf.ofNat_inj (by omega) (by omega) e
  omega
theorem nth_none {l : List UInt8} {k : Nat} (h : l.length ≤ k) : nth l k = 0 := by
  unfold nth
  rw [List.getD_eq_getElem?_getD, List.getElem?_eq_none h]; rfl
/-- A parity byte, out of any shards. -/
def Rs.pb (K M : Nat) (Z : Nat → Nat → UInt8) (j x : Nat) : UInt8 := Gf.sm K (fun q => Gf.mul (Gf.cau K j q) (Z q x))
theorem tm_pb {K M L j x : Nat} {Z : Nat → Nat → UInt8} (hj : j < M) (hx : x < L) : Rs.tm (mat M K (Gf.cau K)) (mat K L Z) K j x = Rs.pb K M Z j x :=
  Gf.sm_congr fun q hq => by unfold Rs.term; rw [at2_mat hj hq, at2_mat hq hx]
theorem enc_lo {K M : Nat} {d : List UInt8} {i j : Nat} (hi : i < K) : Rs.enc K M d i j = Rs.spl (Rs.wd K d.length) d i j := by unfold Rs.enc; rw [if_pos hi]
theorem enc_hi {K M : Nat} {d : List UInt8} {i j : Nat} (hi : i < M) (hj : j < Rs.wd K d.length) : Rs.enc K M d (K + i) j = Rs.pb K M (Rs.enc K M d) i j := by
  unfold Rs.enc
  rw [if_neg (by omega), Nat.add_sub_cancel_left]
  unfold Rs.split
  rw [tm_pb hi hj]
  exact Gf.sm_congr fun q hq => by show _ = Gf.mul _ (if q < K then _ else _); rw [if_pos hq]
theorem pb_xor (K M : Nat) (X Y : Nat → Nat → UInt8) (j x : Nat) : Rs.pb K M (fun i k => X i k ^^^ Y i k) j x = Rs.pb K M X j x ^^^ Rs.pb K M Y j x := by
  unfold Rs.pb
  rw [← Gf.sm_xor]
  exact Gf.sm_congr fun q _ => Gf.mul_xor _ _ _
theorem pb_congr {K M : Nat} {X Y : Nat → Nat → UInt8} {j x : Nat} (h : ∀ q, q < K → X q x = Y q x) : Rs.pb K M X j x = Rs.pb K M Y j x :=
  Gf.sm_congr fun q hq => by rw [h q hq]
/-- Shards of a sum. -/
theorem enc_sum {K M n : Nat} {a b s : List UInt8} (ha : a.length = n) (hb : b.length = n) (hs : s.length = n) (h : ∀ k, k < n → nth s k = nth a k ^^^ nth b k) {i j : Nat} (hi : i < K + M) (hj : j < Rs.wd K n) :
    Rs.enc K M a i j ^^^ Rs.enc K M b i j = Rs.enc K M s i j := by
  have low : ∀ q k, q < K → Rs.enc K M a q k ^^^ Rs.enc K M b q k = Rs.enc K M s q k := fun q k hq => by
    rw [enc_lo hq, enc_lo hq, enc_lo hq, ha, hb, hs]
    unfold Rs.spl
    by_cases e : q * Rs.wd K n + k < n
    · rw [h _ e]
    · rw [nth_none (by omega), nth_none (by omega), nth_none (by omega)]; rfl
  by_cases e : i < K
  · exact low i j e
  · obtain ⟨t, rfl⟩ : ∃ t, i = K + t := ⟨i - K, by omega⟩
    rw [enc_hi (by omega) (by rw [ha]; exact hj), enc_hi (by omega) (by rw [hb]; exact hj), enc_hi (by omega) (by rw [hs]; exact hj), ← pb_xor]
    exact pb_congr fun q hq => low q j hq

/-- One byte is another one. -/
def Rs.flip (Z : Nat → Nat → UInt8) (r x : Nat) (i j : Nat) : UInt8 := if i = r ∧ j = x then Z r x ^^^ 0x5A else Z i j
theorem mat_take {n m C : Nat} {Z : Nat → Nat → UInt8} (h : n ≤ m) : (mat m C Z).take n = mat n C Z := by
  unfold mat
  rw [← List.map_take, List.take_range, show min n m = n by omega]
theorem mat_drop (n m C : Nat) (Z : Nat → Nat → UInt8) : (mat (n + m) C Z).drop n = mat m C (fun i j => Z (n + i) j) := by
  unfold mat
  rw [← List.map_drop]
  apply List.ext_getElem
  · simp
  · intro i h1 h2
    simp
theorem parL_mat {K M L : Nat} {Z : Nat → Nat → UInt8} (hK : 0 < K) (hL : 0 < L) : Rs.parL K M (mat K L Z) = mat M L (Rs.pb K M Z) := by
  unfold Rs.parL
  rw [if_pos (even_ok hL)]
  unfold Rs.par
  rw [mat_head hK]
  exact mat_congr fun i j hi hj => tm_pb hi hj
theorem chk_mat {K M L : Nat} {Z : Nat → Nat → UInt8} (hK : 0 < K) (hL : 0 < L) : Rs.chkE K M (mat (K + M) L Z) = 0 ∧ Rs.chkB K M (mat (K + M) L Z) = decide (mat M L (Rs.pb K M Z) = mat M L (fun i j => Z (K + i) j)) := by
  obtain ⟨h1, h2⟩ := chk_good (K := K) (M := M) (ls := mat (K + M) L Z) (even_ok hL)
  rw [h1, h2, mat_take (by omega), mat_drop, parL_mat hK hL]
  exact ⟨rfl, rfl⟩
theorem enc_good {K M : Nat} {d : List UInt8} (hK : 0 < K) : Rs.chkB K M (Rs.all K M d) = true := by
  have hW := wd_pos K d.length
  rw [Rs.all, (chk_mat hK hW).2]
  exact decide_eq_true (mat_congr fun i j hi hj => (enc_hi hi hj).symm)
/-- A byte that is changed is found. -/
theorem flip_found {K M r x : Nat} {d : List UInt8} (hK : 0 < K) (hM : 0 < M) (h : K + M ≤ 256) (hr : r < K + M) (hx : x < Rs.wd K d.length) :
    Rs.chkE K M (mat (K + M) (Rs.wd K d.length) (Rs.flip (Rs.enc K M d) r x)) = 0 ∧ Rs.chkB K M (mat (K + M) (Rs.wd K d.length) (Rs.flip (Rs.enc K M d) r x)) = false := by
  have hW := wd_pos K d.length
  obtain ⟨h1, h2⟩ := chk_mat (M := M) (Z := Rs.flip (Rs.enc K M d) r x) hK hW
  refine ⟨h1, h2.trans (decide_eq_false fun e => ?_)⟩
  have e3 := (mat_shape e).2.2
  have hne : ∀ a : UInt8, a ^^^ 0x5A ≠ a := fun a e => by
    have : a ^^^ (a ^^^ 0x5A) = a ^^^ a := by rw [e]
    rw [Gf.xor_lself, UInt8.xor_self] at this
    cases this
  by_cases hrK : r < K
  · have e4 := e3 0 x hM hx
    have e5 : Rs.flip (Rs.enc K M d) r x (K + 0) x = Rs.enc K M d (K + 0) x := by unfold Rs.flip; rw [if_neg (by omega)]
    rw [e5, enc_hi hM hx] at e4
    have e6 : Rs.pb K M (Rs.flip (Rs.enc K M d) r x) 0 x = Rs.pb K M (Rs.enc K M d) 0 x ^^^ Gf.mul (Gf.cau K 0 r) 0x5A := by
      have : Rs.pb K M (Rs.flip (Rs.enc K M d) r x) 0 x = Rs.pb K M (fun i k => Rs.enc K M d i k ^^^ (if i = r ∧ k = x then 0x5A else 0)) 0 x := pb_congr fun q hq => by
        unfold Rs.flip
        by_cases e : q = r
        · subst e; simp
        · simp [e]
      rw [this, pb_xor]
      congr 1
      unfold Rs.pb
      rw [Gf.sm_only hrK (fun j _ hj => by simp [hj, Gf.mul_zero])]
      simp
    rw [e6] at e4
    have e7 : Gf.mul (Gf.cau K 0 r) 0x5A = 0 := by
      have : Rs.pb K M (Rs.enc K M d) 0 x ^^^ (Rs.pb K M (Rs.enc K M d) 0 x ^^^ Gf.mul (Gf.cau K 0 r) 0x5A) = Rs.pb K M (Rs.enc K M d) 0 x ^^^ Rs.pb K M (Rs.enc K M d) 0 x := by rw [e4]
      rwa [Gf.xor_lself, UInt8.xor_self] at this
    exact Gf.mul_ne0 (cau_ne0 hM hrK h) (by decide) e7
  · obtain ⟨t, rfl⟩ : ∃ t, r = K + t := ⟨r - K, by omega⟩
    have e4 := e3 t x (by omega) hx
    have e5 : Rs.flip (Rs.enc K M d) (K + t) x (K + t) x = Rs.enc K M d (K + t) x ^^^ 0x5A := by unfold Rs.flip; rw [if_pos ⟨rfl, rfl⟩]
    have e6 : Rs.pb K M (Rs.flip (Rs.enc K M d) (K + t) x) t x = Rs.enc K M d (K + t) x := by
      rw [enc_hi (by omega) hx]
      exact pb_congr fun q hq => by unfold Rs.flip; rw [if_neg (by omega)]
    rw [e5, e6] at e4
    exact hne _ e4.symm
end Go.Proofs.YtfgifndpglgjkaaGreatDoor
end

section
set_option maxRecDepth 100000
set_option linter.unusedVariables false
namespace Go.Proofs.YtfgifndpglgjkaaGreatDoor
open Go.RowKit Go.Deep

theorem sc_two : ∀ (ls : List (List UInt8)) (C : Nat), (∀ l ∈ ls, l.length = 0 ∨ l.length = C) → 0 < C → ∀ x, x = 0 ∨ x = C → ∃ y, ls.foldl Rs.sc1 (some x) = some y ∧ (y = 0 ∨ y = C)
  | [], C, _, _, x, hx => ⟨x, rfl, hx⟩
  | l :: ls, C, h, hC, x, hx => by
    have hl := h l (by simp)
    have : Rs.sc1 (some x) l = some (max x l.length) := by
      simp only [Rs.sc1]
      rw [if_neg (by omega)]
    rw [List.foldl_cons, this]
    exact sc_two ls C (fun l hl => h l (by simp [hl])) hC _ (by omega)

/-- Some of the shards of some bytes. -/
structure Sub (K M : Nat) (d : List UInt8) (l : List (List UInt8)) : Prop where
  len : l.length = K + M
  at_ : ∀ i, i < K + M → nth l i = [] ∨ nth l i = nth (Rs.all K M d) i
theorem all_row {K M : Nat} {d : List UInt8} {i : Nat} (h : i < K + M) : nth (Rs.all K M d) i = (List.range (Rs.wd K d.length)).map (Rs.enc K M d i) := mat_row h
theorem all_len {K M : Nat} {d : List UInt8} {i : Nat} (h : i < K + M) : (nth (Rs.all K M d) i).length = Rs.wd K d.length := by rw [all_row h]; simp
namespace Sub
variable {K M : Nat} {d : List UInt8} {l : List (List UInt8)}
theorem lens (h : Sub K M d l) {i : Nat} (hi : i < K + M) : (nth l i).length = 0 ∨ (nth l i).length = Rs.wd K d.length := by
  rcases h.at_ i hi with e | e
  · left; rw [e]; rfl
  · right; rw [e, all_len hi]
theorem there (h : Sub K M d l) {i : Nat} (hi : i < K + M) (hp : 0 < (nth l i).length) : nth l i = nth (Rs.all K M d) i := by
  rcases h.at_ i hi with e | e
  · rw [e] at hp; simp at hp
  · exact e
theorem sc (h : Sub K M d l) : ∃ y, Rs.alk (K + M) l = some y ∧ (∀ i, i < K + M → 0 < (nth l i).length → y = Rs.wd K d.length) ∧ y ≤ Rs.wd K d.length := by
  obtain ⟨y, h1, h2⟩ := sc_two l (Rs.wd K d.length) (fun x hx => by
    obtain ⟨i, hi, rfl⟩ := List.getElem_of_mem hx
    rw [← nth_eq]
    exact h.lens (by rw [← h.len]; exact hi)) (wd_pos _ _) 0 (.inl rfl)
  have h3 : Rs.sc l = some y := h1
  refine ⟨y, by unfold Rs.alk; rw [if_pos h.len, h3], fun i hi hp => ?_, by omega⟩
  have := sc_len h3 (i := i) (by rw [h.len]; exact hi)
  have := h.lens hi
  omega
end Sub
theorem enc_stack {K M : Nat} {d : List UInt8} {r x : Nat} (hr : r < K + M) (hx : x < Rs.wd K d.length) : Rs.enc K M d r x = Gf.sm K (fun j => Gf.mul (at2 (Gf.stack K M) r j) (Rs.enc K M d j x)) := by
  by_cases e : r < K
  · rw [Gf.sm_only e (fun j hj hne => by rw [stack_at hr hj, if_pos e, Gf.idm_ne (Ne.symm hne), Gf.zero_mul])]
    rw [stack_at hr e, if_pos e]
    simp [Gf.idm, Gf.one_mul]
  · obtain ⟨t, rfl⟩ : ∃ t, r = K + t := ⟨r - K, by omega⟩
    rw [enc_hi (by omega) hx]
    exact Gf.sm_congr fun j hj => by rw [stack_at hr hj, if_neg e, cau_inv, ← UInt8.ofNat_add]
theorem rows_facts {K M : Nat} {l : List (List UInt8)} (hl : l.length = K + M) (h : Rs.lostB K l = false) :
    (Rs.rows K l).length = K ∧ (Rs.rows K l).Nodup ∧ ∀ j ∈ Rs.rows K l, j < K + M ∧ 0 < (nth l j).length := by
  have h1 : ¬ (Rs.thr l l.length).length < K := of_decide_eq_false h
  refine ⟨by unfold Rs.rows; rw [List.length_take]; omega, ?_, fun j hj => ?_⟩
  · unfold Rs.rows
    exact (thr_nodup _ _).sublist (List.take_sublist _ _)
  · have := thr_mem (List.mem_of_mem_take hj)
    rw [hl] at this
    exact this
theorem got_row {l : List (List UInt8)} {r : List Nat} {i : Nat} (hi : i < r.length) : nth (Rs.got l r) i = nth l (r.getD i 0) := by
  unfold Rs.got
  rw [nth_eq _ (by simpa using hi), List.getElem_map, List.getD_eq_getElem?_getD, List.getElem?_eq_getElem hi]
  rfl
/-- What is mended is what was there. -/
theorem mend_is {K M : Nat} {d : List UInt8} {l : List (List UInt8)} (hK : 1 ≤ K) (hM : K + M ≤ 255) (h : Sub K M d l) (hlost : Rs.lostB K l = false) :
    Rs.mend K M l = mat K (Rs.wd K d.length) (Rs.enc K M d) := by
  obtain ⟨r1, r2, r3⟩ := rows_facts h.len hlost
  obtain ⟨s, hs, hinv, _⟩ := part_inv hK hM r1 r2 (fun j hj => (r3 j hj).1)
  have hmem : ∀ i, i < K → (Rs.rows K l).getD i 0 ∈ Rs.rows K l := fun i hi => by
    rw [List.getD_eq_getElem?_getD, List.getElem?_eq_getElem (by omega)]
    exact List.getElem_mem _
  have hgot : ∀ i, i < K → nth (Rs.got l (Rs.rows K l)) i = (List.range (Rs.wd K d.length)).map (Rs.enc K M d ((Rs.rows K l).getD i 0)) := fun i hi => by
    rw [got_row (by omega), h.there (r3 _ (hmem i hi)).1 (r3 _ (hmem i hi)).2, all_row (r3 _ (hmem i hi)).1]
  unfold Rs.mend
  rw [hgot 0 (by omega), List.length_map, List.length_range, hinv]
  refine mat_congr fun q x hq hx => ?_
  have e1 : Rs.tm (mat K K s.2) (Rs.got l (Rs.rows K l)) K q x = Gf.ap K s.2 (fun i => Rs.enc K M d ((Rs.rows K l).getD i 0) x) q :=
    Gf.sm_congr fun i hi => by
      unfold Rs.term
      rw [at2_mat hq hi]
      unfold at2
      rw [hgot i hi, nth_map_range _ hx]
  have e2 : Gf.ap K s.2 (fun i => Rs.enc K M d ((Rs.rows K l).getD i 0) x) q = Gf.ap K s.2 (Gf.ap K (at2 (Rs.part K M (Rs.rows K l))) (fun j => Rs.enc K M d j x)) q :=
    Gf.ap_congr (fun _ _ => rfl) fun i hi => by
      rw [enc_stack (r3 _ (hmem i hi)).1 hx]
      exact Gf.sm_congr fun j hj => by unfold Rs.part; rw [at2_mat hi hj]
  rw [e1, e2, Gf.gauss_left hs _ hq]
theorem whole_is {K M : Nat} {d : List UInt8} {l : List (List UInt8)} (hK : 1 ≤ K) (hM : K + M ≤ 255) (h : Sub K M d l) (hlost : Rs.lostB K l = false) :
    Rs.whole K M l = mat K (Rs.wd K d.length) (Rs.enc K M d) := by
  unfold Rs.whole
  by_cases hf : Rs.full (l.take K) = true
  · rw [if_pos hf]
    have hlen : (l.take K).length = K := by rw [List.length_take, h.len]; omega
    refine list_ext_n (by rw [hlen, mat_len]) fun i hi => ?_
    rw [hlen] at hi
    have h1 := full_at hf (k := i) (by omega)
    have hil : i < l.length := by rw [h.len]; omega
    rw [nth_take l hi hil] at h1 ⊢
    rw [h.there (by omega) (by omega), all_row (by omega), mat_row hi]
  · rw [if_neg hf]; exact mend_is hK hM h hlost

/-! Repair, Decode. -/
def Rs.errS (K M : Nat) (ls : List (List UInt8)) : Int := match Rs.alk (K + M) ls with
  | none => 1
  | some _ => if Rs.lostB K ls = true then 16 else 0
def Rs.both (K M : Nat) (ls : List (List UInt8)) : List (List UInt8) := Rs.whole K M ls ++ Rs.parL K M (Rs.whole K M ls)
def Rs.repAt (K M : Nat) (ls : List (List UInt8)) (i : Nat) : List UInt8 := if 0 < (nth ls i).length then nth ls i else nth (Rs.both K M ls) i
def Rs.repL (K M : Nat) (ls : List (List UInt8)) : List (List UInt8) := if Rs.errS K M ls = 0 then (List.range (K + M)).map (Rs.repAt K M ls) else []
def Rs.decE (K M : Nat) (size : Int) (ls : List (List UInt8)) : Int := match Rs.alk (K + M) ls with
  | none => 1
  | some m => if size < 0 ∨ ((K * m : Nat) : Int) < size then 1 else if Rs.lostB K ls = true then 16 else 0
def Rs.decL (K M : Nat) (size : Int) (ls : List (List UInt8)) : List UInt8 := if Rs.decE K M size ls = 0 then (Rs.whole K M ls).flatten.take size.toNat else []

theorem mat_append {n m C : Nat} {Z : Nat → Nat → UInt8} : mat n C Z ++ mat m C (fun i j => Z (n + i) j) = mat (n + m) C Z := by
  have h1 := mat_take (m := n + m) (C := C) (Z := Z) (show n ≤ n + m by omega)
  have h2 := mat_drop n m C Z
  rw [← h1, ← h2, List.take_append_drop]
theorem both_is {K M : Nat} {d : List UInt8} {l : List (List UInt8)} (hK : 1 ≤ K) (hM : K + M ≤ 255) (h : Sub K M d l) (hlost : Rs.lostB K l = false) : Rs.both K M l = Rs.all K M d := by
  unfold Rs.both
  rw [whole_is hK hM h hlost, parL_mat (by omega) (wd_pos _ _)]
  unfold Rs.all
  rw [← mat_append]
  congr 1
  exact mat_congr fun i j hi hj => (enc_hi hi hj).symm
theorem rep_is {K M : Nat} {d : List UInt8} {l : List (List UInt8)} (hK : 1 ≤ K) (hM : K + M ≤ 255) (h : Sub K M d l) (hlost : Rs.lostB K l = false) : Rs.errS K M l = 0 ∧ Rs.repL K M l = Rs.all K M d := by
  obtain ⟨y, hy, _⟩ := h.sc
  have he : Rs.errS K M l = 0 := by unfold Rs.errS; rw [hy]; simp [hlost]
  refine ⟨he, ?_⟩
  unfold Rs.repL
  rw [if_pos he]
  refine list_ext_n (by simp [Rs.all, mat_len]) fun i hi => ?_
  have hi' : i < K + M := by simpa using hi
  rw [nth_map_range _ hi']
  unfold Rs.repAt
  split
  · rename_i hp; exact h.there hi' hp
  · rw [both_is hK hM h hlost]
theorem flat_mat (g : Nat → UInt8) (W : Nat) : ∀ K, (mat K W (fun i j => g (i * W + j))).flatten = (List.range (K * W)).map g
  | 0 => by simp [mat]
  | K + 1 => by
    have ih := flat_mat g W K
    unfold mat at *
    rw [List.range_succ, List.map_append, List.flatten_append, ih, Nat.add_mul, Nat.one_mul, List.range_add, List.map_append, List.map_map]
    simp
theorem data_flat {K M : Nat} {d : List UInt8} : (mat K (Rs.wd K d.length) (Rs.enc K M d)).flatten = (List.range (K * Rs.wd K d.length)).map (nth d) := by
  rw [← flat_mat (nth d) (Rs.wd K d.length) K]
  congr 1
  exact mat_congr fun i j hi hj => by rw [enc_lo hi]; rfl
theorem pad_take {d : List UInt8} {n : Nat} (h : d.length ≤ n) : ((List.range n).map (nth d)).take d.length = d := by
  refine list_ext_n (by simp; omega) fun k hk => ?_
  have hk' : k < d.length := by simp at hk; omega
  rw [nth_take _ hk' (by simp; omega), nth_map_range _ (by omega)]
theorem dec_is {K M : Nat} {d : List UInt8} {l : List (List UInt8)} (hK : 1 ≤ K) (hM : K + M ≤ 255) (h : Sub K M d l) (hlost : Rs.lostB K l = false) : Rs.decE K M d.length l = 0 ∧ Rs.decL K M d.length l = d := by
  obtain ⟨y, hy, hyw, _⟩ := h.sc
  obtain ⟨r1, _, r3⟩ := rows_facts h.len hlost
  have hpos : 0 < (Rs.rows K l).length := by omega
  have hm := r3 _ (List.getElem_mem hpos)
  have hyW := hyw _ hm.1 hm.2
  have hw := wd_le (n := d.length) hK
  have he : Rs.decE K M d.length l = 0 := by
    unfold Rs.decE
    rw [hy]
    simp only [hlost, Bool.false_eq_true, if_false]
    rw [if_neg]
    rw [hyW]
    omega
  refine ⟨he, ?_⟩
  unfold Rs.decL
  rw [if_pos he, whole_is hK hM h hlost, data_flat]
  exact pad_take hw
end Go.Proofs.YtfgifndpglgjkaaGreatDoor
end

section
set_option linter.unusedVariables false
set_option linter.unusedSimpArgs false
namespace Go.Proofs.YtfgifndpglgjkaaGreatDoor
open Go.RowKit

section
variable {P : Program} {l n : Nat} {Q : Exit → Act → World → Prop} {a : Act} {w : World}
/-- In a round, with no fence. -/
abbrev inR (l : Nat) : Fence := Fence.wide.inRound l
theorem rows_in {row : String} {args : Array Value} {R : Value → World → Prop} (h : Rows P row args w R) : RowsIn (inR l) n P row args w R := by
  intro c cs _
  obtain ⟨v, w', r, s⟩ := h c cs
  exact ⟨v, w', r, by rw [fenced_inRound]; exact stepsIn_wide.2 s⟩
theorem calls_in {f : FuncId} {args : Array Value} {R : Ending → World → Prop} (h : Calls P f args w R) : CallsIn (inR l) n P f args w R := CallsIn.inRound l (callsIn_wide.2 h)
theorem oper_in {o : Oper} {K K' : Act → World → Prop} (hnd : ∀ c, o.op ≠ .defer c) (hK : ∀ a w, K a w → K' a w) (h : o.wp P a w K Q) : o.wpIn (inR l) n P a w K' Q := by
  unfold Oper.wpIn
  refine ⟨fun _ _ => trivial, ?_⟩
  rw [Oper.semAt_eq _ _ _ hnd]
  unfold Oper.wp at h
  generalize (execOp a.eval o).run P w = r at *
  have hd : ¬ ((inR l).depth.isSome = true) := by simp [Fence.wide]
  cases r with
  | ok x w' =>
    cases x <;> simp only [Oper.upon, Oper.uponIn] at h ⊢ <;>
      first
        | exact hK _ _ h
        | exact ⟨fun e => absurd e hd, (calls_in h).mono (fun e w'' he => by cases e <;> first | exact hK _ _ he | exact he)⟩
        | exact ⟨fun e => absurd e hd, (rows_in h).mono (fun _ _ he => hK _ _ he)⟩
  | halt x w' => cases x <;> simp only [Oper.upon, Oper.uponIn] at h ⊢ <;> exact h
def noDefer (o : Oper) : Bool := match o.op with | .defer _ => false | _ => true
theorem noDefer_spec {o : Oper} (h : noDefer o = true) : ∀ c, o.op ≠ .defer c := by
  intro c e
  unfold noDefer at h
  rw [e] at h
  cases h
theorem any_in {md : Region.Mode} {ops : Array Oper} (hQ : ¬ LetsOut Q) (hnd : ops.all noDefer = true) : ∀ (fuel : Nat) (listed : Array Bool) (a : Act) (w : World), wpAny P md ops Q fuel listed a w → wpAnyIn (inR l) n P md ops Q fuel listed a w
  | 0, _, _, _, h => h
  | fuel + 1, listed, a, w, h => by
    refine ⟨h.1, fun i hi => ?_⟩
    have := h.2 i hi
    unfold wpOp at this
    unfold wpOpIn
    cases ho : ops[i]? with
    | none => simp only [ho] at this ⊢; exact any_in hQ hnd fuel _ _ _ this
    | some o =>
      simp only [ho] at this ⊢
      have hd : noDefer o = true := by
        obtain ⟨h1, h2⟩ := Array.getElem?_eq_some_iff.1 ho
        rw [← h2]; exact Array.all_eq_true.1 hnd i h1
      split
      · rename_i hw
        rw [if_pos hw] at this
        rcases this with this | this
        · exact oper_in (noDefer_spec hd) (fun a w => any_in hQ hnd fuel _ a w) this
        · exact absurd this.2 hQ
      · rename_i hw
        rw [if_neg hw] at this
        exact ⟨fun _ _ => trivial, any_in hQ hnd fuel _ _ _ this⟩
theorem list_in {ops : Array Oper} (hQ : ¬ LetsOut Q) : ∀ (rest : List Oper) (a : Act) (w : World), rest.all noDefer = true → wpList P ops Q rest a w → wpListIn (inR l) n P ops Q rest a w
  | [], _, _, _, h => h
  | o :: rest, a, w, hnd, h => by
    rw [List.all_cons, Bool.and_eq_true] at hnd
    unfold wpList at h
    unfold wpListIn
    split
    · rename_i hw
      rw [if_pos hw] at h
      rcases h with h | h
      · exact oper_in (noDefer_spec hnd.1) (fun a w => list_in hQ rest a w hnd.2) h
      · exact absurd h.2 hQ
    · rename_i hw
      rw [if_neg hw] at h
      exact ⟨fun _ _ => trivial, list_in hQ rest _ _ hnd.2 h⟩
/-- A region that does not draw. -/
theorem round_lit {id : Nat} {ops : List Oper} (hQ : ¬ LetsOut Q) (hnd : ops.all noDefer = true) (h : wpList P ops.toArray Q ops a w) : (Code.region id ops.toArray false).wpIn (inR l) n P Q a w :=
  wpIn_region_lit (list_in hQ ops a w hnd h)
/-- A region that draws: its loads and calls keep all there was. -/
theorem round_class {w0 : World} {id : Nat} {ops : List Oper} (hQ : ¬ LetsOut Q) (hm : P.follows .mixedOrders = true) (hB : Region.lexB .any ops.toArray = true) (hnd : ops.toArray.all noDefer = true) (h0 : Below w0.heap.size w0 w)
    (h : wpQuiet P ops.toArray (fun w' => ∃ W : BW w0, w' = W.w) (fun a' => ∀ w', (∃ W : BW w0, w' = W.w) → Q .normal a' w') ops a) : (Code.region id ops.toArray true).wpIn (inR l) n P Q a w := by
  simp only [Region.lexB, Bool.and_eq_true] at hB
  refine wpIn_region_any hm (any_in hQ hnd _ _ _ _ (wpAny_of_quiet (Q := fun a' => ∀ w', (∃ W : BW w0, w' = W.w) → Q .normal a' w') (fun _ w' hw' h => h w' hw') _ _ _ _ (⟨⟨w.drew, h0.drew⟩, rfl⟩ : ∃ W : BW w0, w.drew = W.w) ?_))
  have := wpAnyQ_lex (C := fun w' => ∃ W : BW w0, w' = W.w) (md := .any) hB.1 ops 0 (Array.replicate ops.toArray.size false) a (by simp) (by simpa using hB.2) h
  simpa using this
/-- A region that draws, a store at its end. -/
theorem round_tail {id : Nat} {ops : List Oper} (N : Nat) (hQ : ¬ LetsOut Q) (hm : P.follows .mixedOrders = true) (hB : Region.lexTailB .any ops.toArray N = true) (hnd : ops.toArray.all noDefer = true)
    (h : wpStill P ops.toArray w.drew (fun a' => wpList P ops.toArray Q (ops.drop N) a' w.drew) (ops.take N) a) : (Code.region id ops.toArray true).wpIn (inR l) n P Q a w := by
  simp only [Region.lexTailB, Bool.and_eq_true, decide_eq_true_eq] at hB
  obtain ⟨⟨⟨⟨hsel, hn⟩, hs⟩, hc⟩, hlex⟩ := hB
  have hn' : N < ops.length := by simpa using hn
  have htl : (ops.take N).length = N := by simp; omega
  have hdl : (ops.drop N).length = ops.toArray.size - N := by simp
  have H := wpAnyL_lex (md := .any) (g := ops.toArray.size - N) hsel hs hc hn (ops.take N) 0 (Array.replicate ops.toArray.size false) a (fun j hj => by
    have hj' : j < N := by rw [htl] at hj; exact hj
    simp [hj']) (by simpa using htl)
    ⟨by simp, fun j oj _ hl => (by rw [getD_replicate_false] at hl; cases hl), fun t _ ht => getD_in (by simpa using ht) (getD_replicate_false _ _)⟩ (by rw [htl]; exact hlex) h
  refine wpIn_region_any hm (any_in hQ hnd _ _ _ _ ?_)
  have := wpAny_of_head (Q' := Q) (g := ops.toArray.size - N) (fun listed a' hL => by
    have := wpAny_of_seq (md := .any) (Q' := Q) (ops.drop N) N listed a' w.drew (fun j => by simp [List.getElem?_drop]) (by rw [hdl]; exact hL.1) hL.2
    rwa [hdl] at this) _ _ _ H
  rw [htl, show N + (ops.toArray.size - N) = ops.toArray.size by omega] at this
  exact this
end
end Go.Proofs.YtfgifndpglgjkaaGreatDoor
end

section
set_option linter.unusedVariables false
set_option linter.unusedSimpArgs false
namespace Go.Proofs.YtfgifndpglgjkaaGreatDoor
open Go.RowKit

section
variable {P : Program} {md : Region.Mode} {ops : Array Oper} {Q : Exit → Act → World → Prop} {S : World → Prop} {n g : Nat}

/-- The heads in whatever order, S holding behind each. -/
def anyM (P : Program) (md : Region.Mode) (ops : Array Oper) (Q : Exit → Act → World → Prop) (S : World → Prop) (n : Nat) (L : Array Bool → Act → World → Prop) : Nat → Array Bool → Act → World → Prop
  | 0, listed, a, w => L listed a w
  | f + 1, listed, a, w => Region.ready md ops listed ≠ [] ∧ ∀ i ∈ Region.ready md ops listed, i < n ∧ wpOp P ops Q i (fun a' w' => S w' ∧ anyM P md ops Q S n L f (listed.setIfInBounds i true) a' w') a w
theorem anyM_head {L : Array Bool → Act → World → Prop} (hL : ∀ listed a w, L listed a w → wpAny P md ops Q g listed a w) :
    ∀ (f : Nat) (listed : Array Bool) (a : Act) (w : World), anyM P md ops Q S n L f listed a w → wpAny P md ops Q (f + g) listed a w
  | 0, listed, a, w, h => by rw [Nat.zero_add]; exact hL _ _ _ h
  | f + 1, listed, a, w, h => by
    rw [show f + 1 + g = (f + g) + 1 by omega]
    exact ⟨fun h0 => absurd h0 h.1, fun i hi => wpOp_mono (fun a' w' h' => anyM_head hL f _ a' w' h'.2) (h.2 i hi).2⟩
theorem anyM_first {i : Nat} {oi : Oper} {v : Value} {L : Array Bool → Act → World → Prop} (hi : ops[i]? = some oi) (hsel : ∀ (j : Nat) (o : Oper) cs b, ops[j]? = some o → o.op ≠ .select cs b)
    (hQ : ∀ c a w, Q (.panic c) (a.put oi.dst v) w → Q (.panic c) a w)
    (hs : Region.sinkB md ops n = true) (hc : Region.chainB md ops n = true) (hn : n < ops.size) (hin : i < n)
    (hdone : ∀ listed a w, L listed a w → ∀ j ∈ Region.ready md ops listed, n ≤ j) :
    ∀ (f : Nat) (listed : Array Bool) (a : Act) (w : World), HeadInv md ops n listed →
      (∀ j oj, ops[j]? = some oj → j ≠ i → listed.getD j true = false → (∀ e ∈ oj.after, Region.binds md e = true → e.on ≠ i) → oi.apart ops oj = true) →
      i ∈ Region.ready md ops listed → YieldsIf P ops S oi v a → S w →
      anyM P md ops Q S n L f (listed.setIfInBounds i true) (a.put oi.dst v) w → anyM P md ops Q S n L (f + 1) listed a w := by
  intro f
  induction f with
  | zero =>
    intro listed a w inv _ hr hy hS H
    have hun := (mem_ready.1 hr).1
    refine ⟨fun h => (by rw [h] at hr; cases hr), fun j hj => ?_⟩
    have hjn : j < n := by
      rcases Nat.lt_or_ge j n with h | h
      · exact h
      · exact absurd hj (tail_waits hs hc hn inv _ i rfl hin hun j h)
    refine ⟨hjn, ?_⟩
    by_cases hji : j = i
    · subst hji; exact hy.wpOp hi hS ⟨hS, H⟩
    · have := hdone _ _ _ H j (ready_mono hj hji)
      omega
  | succ f ih =>
    intro listed a w inv hfree hr hy hS H
    have hun := (mem_ready.1 hr).1
    refine ⟨fun h => (by rw [h] at hr; cases hr), fun j hj => ?_⟩
    have hjn : j < n := by
      rcases Nat.lt_or_ge j n with h | h
      · exact h
      · exact absurd hj (tail_waits hs hc hn inv _ i rfl hin hun j h)
    refine ⟨hjn, ?_⟩
    by_cases hji : j = i
    · subst hji; exact hy.wpOp hi hS ⟨hS, H⟩
    · have h1 := (H.2 j (ready_mono hj hji)).2
      obtain ⟨hjun, oj, hoj, hall⟩ := mem_ready.1 hj
      have hnot : ∀ e ∈ oj.after, Region.binds md e = true → e.on ≠ i := fun e he hb heq => by
        have h1 := hall e he hb
        rw [heq, getD_both hun] at h1
        cases h1
      have h2 := wpOp_putIf hoj (hfree j oj hoj hji hjun hnot) (fun cs b => hsel i oi cs b hi) (fun cs b => hsel j oj cs b hoj) hQ hy h1
      have hfree' : ∀ k ok, ops[k]? = some ok → k ≠ i → (listed.setIfInBounds j true).getD k true = false →
          (∀ e ∈ ok.after, Region.binds md e = true → e.on ≠ i) → oi.apart ops ok = true := fun k ok hk hki hun hno => by
        refine hfree k ok hk hki ?_ hno
        by_cases hjk : j = k
        · subst hjk; exact hjun
        · rw [getD_set_ne true hjk] at hun; exact hun
      refine wpOp_mono (fun a' w' h3 => ⟨h3.2.1, ih (listed.setIfInBounds j true) a' w' (inv.set hj hjn) hfree' (ready_mono hr (Ne.symm hji)) h3.1 h3.2.1 ?_⟩) h2
      rw [Array.setIfInBounds_comm _ _ hji]
      exact h3.2.2

/-- Loads, each told in every world of S. -/
def heldL (P : Program) (ops : Array Oper) (S : World → Prop) (R : Act → Prop) : List Oper → Act → Prop
  | [], a => R a
  | o :: rest, a => ∃ v, YieldsIf P ops S o v a ∧ heldL P ops S R rest (a.put o.dst v)
theorem held_nil {R : Act → Prop} {a : Act} (h : R a) : heldL P ops S R [] a := h
theorem held_step {R : Act → Prop} {a : Act} {o : Oper} {rest : List Oper} {v : Value} (hw : Region.wanted o (yielded ops a.tmps) = true) (hv : ∀ w, S w → (execOp a.eval o).run P w = .ok (.value v) w) (h : heldL P ops S R rest (a.put o.dst v)) :
    heldL P ops S R (o :: rest) a := ⟨v, .inl ⟨hw, hv⟩, h⟩
theorem held_skip {R : Act → Prop} {a : Act} {o : Oper} {rest : List Oper} (hw : Region.wanted o (yielded ops a.tmps) = false) (h : heldL P ops S R rest (a.put o.dst undef)) : heldL P ops S R (o :: rest) a := ⟨undef, .inr ⟨hw, rfl⟩, h⟩
/-- Steps one behind the other, S holding behind each. -/
def walkS (P : Program) (ops : Array Oper) (Q : Exit → Act → World → Prop) (S : World → Prop) (R : Act → World → Prop) : List Oper → Act → World → Prop
  | [], a, w => R a w
  | o :: rest, a, w => Region.wanted o (yielded ops a.tmps) = true ∧ o.wp P a w (fun a' w' => S w' ∧ walkS P ops Q S R rest a' w') Q
theorem walkS_nil {R : Act → World → Prop} {a : Act} {w : World} (h : R a w) : walkS P ops Q S R [] a w := h
theorem walkS_step {R : Act → World → Prop} {a : Act} {w : World} {o : Oper} {rest : List Oper} (hw : Region.wanted o (yielded ops a.tmps) = true)
    (h : ∀ K : Act → World → Prop, (∀ a w, S w → walkS P ops Q S R rest a w → K a w) → o.wp P a w K Q) : walkS P ops Q S R (o :: rest) a w :=
  ⟨hw, h _ fun _ _ h1 h2 => ⟨h1, h2⟩⟩
theorem anyM_seq : ∀ (l : List Oper) (k : Nat) (listed : Array Bool) (a : Act) (w : World) {R : Act → World → Prop}, (∀ j, j < l.length → l[j]? = ops[k + j]?) → k + l.length = n →
    Region.seqB md ops (l.length + g) k listed = true → walkS P ops Q S R l a w → anyM P md ops Q S n (fun listed a w => Region.seqB md ops g n listed = true ∧ R a w) l.length listed a w
  | [], k, listed, a, w, R, _, hk, hB, h => by
    have : k = n := by simpa using hk
    subst this
    exact ⟨by simpa using hB, h⟩
  | o :: l, k, listed, a, w, R, hl, hk, hB, h => by
    have h0 : ops[k]? = some o := by simpa using (hl 0 (by simp)).symm
    rw [List.length_cons, show l.length + 1 + g = (l.length + g) + 1 by omega] at hB
    simp only [Region.seqB, Bool.and_eq_true, decide_eq_true_eq] at hB
    simp only [List.length_cons] at hk
    refine ⟨fun h1 => (by rw [hB.1] at h1; cases h1), fun i hi => ?_⟩
    rw [hB.1] at hi
    have hik : i = k := by simpa using hi
    subst hik
    refine ⟨by omega, ?_⟩
    unfold wpOp
    simp only [h0]
    rw [if_pos h.1]
    exact .inl (Oper.wp_mono (fun a' w' h' => ⟨h'.1, anyM_seq l (i + 1) _ a' w' (fun j hj => by have := hl (j + 1) (by simp; omega); simpa [Nat.add_assoc, Nat.add_comm 1 j] using this) (by omega) hB.2 h'.2⟩) h.2)
def readsHead (md : Region.Mode) (ops : Array Oper) (g : Nat) : Nat → Nat → Array Bool → Bool
  | 0, k, listed => Region.seqB md ops g k listed
  | f + 1, k, listed => (Region.ready md ops listed).contains k && Region.free md ops listed k && readsHead md ops g f (k + 1) (listed.setIfInBounds k true)
theorem anyM_lex (hsel : Region.noSelect ops = true) (hQ : ∀ c a d v w, Q (.panic c) (Act.put a d v) w → Q (.panic c) a w) (hs : Region.sinkB md ops n = true) (hc : Region.chainB md ops n = true) (hn : n < ops.size)
    {m : List Oper} {w : World} {R : Act → World → Prop} (hS : S w) :
    ∀ (l : List Oper) (k : Nat) (listed : Array Bool) (a : Act), (∀ j, j < l.length → l[j]? = ops[k + j]?) → (∀ j, j < m.length → m[j]? = ops[k + l.length + j]?) → k + l.length + m.length = n → HeadInv md ops n listed →
    readsHead md ops (m.length + g) l.length k listed = true → heldL P ops S (fun a' => walkS P ops Q S R m a' w) l a →
    anyM P md ops Q S n (fun listed a w => Region.seqB md ops g n listed = true ∧ R a w) (l.length + m.length) listed a w
  | [], k, listed, a, _, hm, hk, _, hB, h => by
    simp only [List.length_nil, Nat.zero_add, Nat.add_zero] at hm hk ⊢
    exact anyM_seq m k listed a w hm hk hB h
  | o :: l, k, listed, a, hl, hm, hk, inv, hB, h => by
    have h0 : ops[k]? = some o := by simpa using (hl 0 (by simp)).symm
    simp only [List.length_cons, readsHead, Bool.and_eq_true] at hB
    obtain ⟨⟨hr, hf⟩, hB'⟩ := hB
    simp only [List.length_cons] at hk hm
    have hkn : k < n := by omega
    have hr' : k ∈ Region.ready md ops listed := by simpa using hr
    obtain ⟨v, hy, hK⟩ := h
    rw [List.length_cons, show l.length + 1 + m.length = (l.length + m.length) + 1 by omega]
    exact anyM_first h0 (Region.noSelect_spec hsel) (fun c a w => hQ c a _ _ w) hs hc hn hkn (fun listed' a' w' hL => seqB_ready hL.1) (l.length + m.length) listed a w inv (Region.free_spec h0 hf) hr' hy hS
      (anyM_lex hsel hQ hs hc hn hS l (k + 1) _ _ (fun j hj => by have := hl (j + 1) (by simp; omega); simpa [Nat.add_assoc, Nat.add_comm 1 j] using this)
        (fun j hj => by rw [hm j hj, show k + 1 + l.length + j = k + (l.length + 1) + j by omega]) (by omega) (inv.set hr' hkn) hB' hK)
/-- The first r operations are loads, then m that follow one another; behind n nothing waits any more. -/
def readsB (md : Region.Mode) (ops : Array Oper) (r n : Nat) : Bool :=
  Region.noSelect ops && decide (n < ops.size) && decide (r ≤ n) && Region.sinkB md ops n && Region.chainB md ops n && readsHead md ops (n - r + (ops.size - n)) r 0 (Array.replicate ops.size false)
theorem any_reads {l : List Oper} {a : Act} {w : World} (r n : Nat) (hQ : ∀ c a d v w, Q (.panic c) (Act.put a d v) w → Q (.panic c) a w) (hB : readsB .any l.toArray r n = true) (S : World → Prop) (hS : S w)
    (h : heldL P l.toArray S (fun a' => walkS P l.toArray Q S (fun a w => wpList P l.toArray Q (l.drop n) a w) ((l.take n).drop r) a' w) (l.take r) a) : wpAny P .any l.toArray Q l.toArray.size (Array.replicate l.toArray.size false) a w := by
  simp only [readsB, Bool.and_eq_true, decide_eq_true_eq] at hB
  obtain ⟨⟨⟨⟨⟨hsel, hn⟩, hrn⟩, hs⟩, hc⟩, hlex⟩ := hB
  have hn' : n < l.length := by simpa using hn
  have htl : (l.take r).length = r := by simp; omega
  have hml : ((l.take n).drop r).length = n - r := by simp; omega
  have hdl : (l.drop n).length = l.toArray.size - n := by simp
  have inv0 : HeadInv .any l.toArray n (Array.replicate l.toArray.size false) :=
    ⟨by simp, fun j oj _ hl => (by rw [getD_replicate_false] at hl; cases hl), fun t _ ht => getD_in (by simpa using ht) (getD_replicate_false _ _)⟩
  have H := anyM_lex (P := P) (md := .any) (g := l.toArray.size - n) hsel hQ hs hc hn hS (l.take r) 0 _ a (fun j hj => by
    have hj' : j < r := by rw [htl] at hj; exact hj
    simp [hj']) (fun j hj => by
    rw [hml] at hj
    rw [htl, Nat.zero_add, List.getElem?_drop, List.getElem?_take, if_pos (by omega)]; simp) (by rw [htl, hml]; omega) inv0 (by rw [htl, hml]; exact hlex) h
  have := anyM_head (g := l.toArray.size - n) (fun listed a' w' hL => by
    have := wpAny_of_seq (md := .any) (Q' := Q) (l.drop n) n listed a' w' (fun j => by simp [List.getElem?_drop]) (by rw [hdl]; exact hL.1) hL.2
    rwa [hdl] at this) _ _ _ _ H
  rw [htl, hml, show r + (n - r) + (l.toArray.size - n) = l.toArray.size by omega] at this
  exact this
theorem wp_region_reads {id : Nat} {l : List Oper} {a : Act} {w : World} (r n : Nat) (hQ : ∀ c a d v w, Q (.panic c) (Act.put a d v) w → Q (.panic c) a w) (hm : P.follows .mixedOrders = true) (hB : readsB .any l.toArray r n = true) (S : World → Prop) (hS : S w.drew)
    (h : heldL P l.toArray S (fun a' => walkS P l.toArray Q S (fun a w => wpList P l.toArray Q (l.drop n) a w) ((l.take n).drop r) a' w.drew) (l.take r) a) : (Code.region id l.toArray true).wp P Q a w :=
  wp_region_any hm (any_reads r n hQ hB S hS h)
theorem round_reads {id lr k : Nat} {l : List Oper} {a : Act} {w : World} (r n : Nat) (hL : ¬ LetsOut Q) (hQ : ∀ c a d v w, Q (.panic c) (Act.put a d v) w → Q (.panic c) a w) (hm : P.follows .mixedOrders = true) (hB : readsB .any l.toArray r n = true) (hnd : l.toArray.all noDefer = true) (S : World → Prop) (hS : S w.drew)
    (h : heldL P l.toArray S (fun a' => walkS P l.toArray Q S (fun a w => wpList P l.toArray Q (l.drop n) a w) ((l.take n).drop r) a' w.drew) (l.take r) a) : (Code.region id l.toArray true).wpIn (inR lr) k P Q a w :=
  wpIn_region_any hm (any_in hL hnd _ _ _ _ (any_reads r n hQ hB S hS h))
end
end Go.Proofs.YtfgifndpglgjkaaGreatDoor
end

section
set_option linter.unusedVariables false
set_option linter.unusedSimpArgs false
namespace Go.Proofs.YtfgifndpglgjkaaGreatDoor
open Go.RowKit

section
variable {P : Program} {md : Region.Mode} {ops : Array Oper} {Q : Exit → Act → World → Prop} {S : World → Prop}

def inTail (ts : List Nat) (j : Nat) : Bool := ts.contains j
/-- What is listed is closed; nothing of the tail is listed. -/
structure HInv (md : Region.Mode) (ops : Array Oper) (l0 : Array Bool) (ts : List Nat) (listed : Array Bool) : Prop where
  size : listed.size = ops.size
  closed : ∀ j oj, ops[j]? = some oj → listed.getD j false = true → ∀ e ∈ oj.after, Region.binds md e = true → listed.getD e.on false = true
  tail : ∀ t, inTail ts t = true → t < ops.size → listed.getD t true = false
  base : ∀ j, l0.getD j false = true → listed.getD j false = true
theorem HInv.set {l0 : Array Bool} {ts : List Nat} {i : Nat} {listed : Array Bool} (inv : HInv md ops l0 ts listed) (hi : i ∈ Region.ready md ops listed) (hin : inTail ts i = false) : HInv md ops l0 ts (listed.setIfInBounds i true) := by
  obtain ⟨_, oi, hoi, hall⟩ := mem_ready.1 hi
  refine ⟨by simp [inv.size], fun j oj hj hl e he hb => ?_, fun t ht ht' => by rw [getD_set_ne true (fun e => by rw [e, ht] at hin; cases hin)]; exact inv.tail t ht ht', fun j hj => getD_set_true (inv.base j hj)⟩
  by_cases hij : i = j
  · subst hij
    have : oj = oi := Option.some.inj (hj.symm.trans hoi)
    subst this
    exact getD_set_true (hall e he hb)
  · rw [getD_set_ne false hij] at hl
    exact getD_set_true (inv.closed j oj hj hl e he hb)
/-- Each head (what is neither listed at the start nor of the tail) is waited for by a later head or by the tail's first. -/
def sink2 (md : Region.Mode) (ops : Array Oper) (l0 : Array Bool) (ts : List Nat) (t0 : Nat) : Bool :=
  (List.range ops.size).all fun i => l0.getD i false || inTail ts i || (List.range ops.size).any fun j => decide (i < j) && !l0.getD j false && (!inTail ts j || decide (j = t0)) && Region.waitsFor md ops j i
/-- Each of the tail but its first waits for another one of the tail. -/
def chain2 (md : Region.Mode) (ops : Array Oper) (ts : List Nat) (t0 : Nat) : Bool :=
  ts.all fun t => decide (t = t0) || ts.any fun u => decide (u < ops.size) && Region.waitsFor md ops t u
theorem tail_waits2 {l0 : Array Bool} {ts : List Nat} {t0 : Nat} {listed : Array Bool} (hs : sink2 md ops l0 ts t0 = true) (hc : chain2 md ops ts t0 = true) (inv : HInv md ops l0 ts listed) :
    ∀ (d i : Nat), ops.size - i = d → i < ops.size → inTail ts i = false → listed.getD i true = false → ∀ t, inTail ts t = true → t ∉ Region.ready md ops listed := by
  intro d
  induction d using Nat.strongRecOn with
  | _ d ih =>
    intro i hd hi hnt hun t ht hr
    obtain ⟨_, ot, hot, hall⟩ := mem_ready.1 hr
    have hi0 : l0.getD i false = false := by
      cases e : l0.getD i false with
      | false => rfl
      | true => have := inv.base i e; rw [getD_both hun] at this; cases this
    by_cases htn : t = t0
    · subst htn
      have h1 := List.all_eq_true.1 hs i (List.mem_range.2 hi)
      rw [hi0, hnt, Bool.false_or, Bool.false_or] at h1
      obtain ⟨j, hj, hj2⟩ := List.any_eq_true.1 h1
      simp only [Bool.and_eq_true, Bool.or_eq_true, decide_eq_true_eq, Bool.not_eq_true'] at hj2
      obtain ⟨⟨⟨hij, hj0⟩, hjt⟩, hw⟩ := hj2
      obtain ⟨oj, hoj, e, he, hb, hon⟩ := Region.waitsFor_spec hw
      have hjs : j < ops.size := List.mem_range.1 hj
      by_cases hjt2 : j = t
      · subst hjt2
        have : oj = ot := Option.some.inj (hoj.symm.trans hot)
        subst this
        have h2 := hall e he hb
        rw [hon, getD_both hun] at h2
        cases h2
      · have hjn : inTail ts j = false := by
          rcases hjt with h | h
          · exact h
          · exact absurd h hjt2
        cases hl : listed.getD j false with
        | true =>
          have h2 := inv.closed j oj hoj hl e he hb
          rw [hon, getD_both hun] at h2
          cases h2
        | false => exact ih (ops.size - j) (by omega) j rfl hjs hjn (getD_in (by rw [inv.size]; exact hjs) hl) t ht hr
    · have h1 := List.all_eq_true.1 hc t (by unfold inTail at ht; simpa using ht)
      rw [Bool.or_eq_true, decide_eq_true_eq] at h1
      rcases h1 with h1 | h1
      · exact htn h1
      · obtain ⟨u, hu, hu2⟩ := List.any_eq_true.1 h1
        simp only [Bool.and_eq_true, decide_eq_true_eq] at hu2
        obtain ⟨o', ho', e, he, hb, hon⟩ := Region.waitsFor_spec hu2.2
        have : o' = ot := Option.some.inj (ho'.symm.trans hot)
        subst this
        have h2 := hall e he hb
        rw [hon, getD_both (inv.tail u (by unfold inTail; simpa using hu) hu2.1)] at h2
        cases h2
/-- The heads in whatever order, S holding behind each. -/
def anyT (P : Program) (md : Region.Mode) (ops : Array Oper) (Q : Exit → Act → World → Prop) (S : World → Prop) (ts : List Nat) (L : Array Bool → Act → World → Prop) : Nat → Array Bool → Act → World → Prop
  | 0, listed, a, w => L listed a w
  | f + 1, listed, a, w => Region.ready md ops listed ≠ [] ∧ ∀ i ∈ Region.ready md ops listed, inTail ts i = false ∧ wpOp P ops Q i (fun a' w' => S w' ∧ anyT P md ops Q S ts L f (listed.setIfInBounds i true) a' w') a w
theorem anyT_head {g : Nat} {ts : List Nat} {L : Array Bool → Act → World → Prop} (hL : ∀ listed a w, L listed a w → wpAny P md ops Q g listed a w) :
    ∀ (f : Nat) (listed : Array Bool) (a : Act) (w : World), anyT P md ops Q S ts L f listed a w → wpAny P md ops Q (f + g) listed a w
  | 0, listed, a, w, h => by rw [Nat.zero_add]; exact hL _ _ _ h
  | f + 1, listed, a, w, h => by
    rw [show f + 1 + g = (f + g) + 1 by omega]
    exact ⟨fun h0 => absurd h0 h.1, fun i hi => wpOp_mono (fun a' w' h' => anyT_head hL f _ a' w' h'.2) (h.2 i hi).2⟩
theorem anyT_first {l0 : Array Bool} {ts : List Nat} {t0 i : Nat} {oi : Oper} {v : Value} {L : Array Bool → Act → World → Prop} (hi : ops[i]? = some oi) (hsel : ∀ (j : Nat) (o : Oper) cs b, ops[j]? = some o → o.op ≠ .select cs b)
    (hQ : ∀ c a w, Q (.panic c) (a.put oi.dst v) w → Q (.panic c) a w)
    (hs : sink2 md ops l0 ts t0 = true) (hc : chain2 md ops ts t0 = true) (hin : inTail ts i = false)
    (hdone : ∀ listed a w, L listed a w → ∀ j ∈ Region.ready md ops listed, inTail ts j = true) :
    ∀ (f : Nat) (listed : Array Bool) (a : Act) (w : World), HInv md ops l0 ts listed →
      (∀ j oj, ops[j]? = some oj → j ≠ i → listed.getD j true = false → (∀ e ∈ oj.after, Region.binds md e = true → e.on ≠ i) → oi.apart ops oj = true) →
      i ∈ Region.ready md ops listed → YieldsIf P ops S oi v a → S w →
      anyT P md ops Q S ts L f (listed.setIfInBounds i true) (a.put oi.dst v) w → anyT P md ops Q S ts L (f + 1) listed a w := by
  have his : i < ops.size := (Array.getElem?_eq_some_iff.1 hi).1
  have hjn : ∀ (listed : Array Bool), HInv md ops l0 ts listed → i ∈ Region.ready md ops listed → ∀ j, j ∈ Region.ready md ops listed → inTail ts j = false := by
    intro listed inv hr j hj
    cases e : inTail ts j with
    | false => rfl
    | true => exact absurd hj (tail_waits2 hs hc inv _ i rfl his hin (mem_ready.1 hr).1 j e)
  intro f
  induction f with
  | zero =>
    intro listed a w inv _ hr hy hS H
    refine ⟨fun h => (by rw [h] at hr; cases hr), fun j hj => ⟨hjn listed inv hr j hj, ?_⟩⟩
    by_cases hji : j = i
    · subst hji; exact hy.wpOp hi hS ⟨hS, H⟩
    · have h1 := hdone _ _ _ H j (ready_mono hj hji)
      rw [hjn listed inv hr j hj] at h1
      cases h1
  | succ f ih =>
    intro listed a w inv hfree hr hy hS H
    have hun := (mem_ready.1 hr).1
    refine ⟨fun h => (by rw [h] at hr; cases hr), fun j hj => ⟨hjn listed inv hr j hj, ?_⟩⟩
    by_cases hji : j = i
    · subst hji; exact hy.wpOp hi hS ⟨hS, H⟩
    · have h1 := (H.2 j (ready_mono hj hji)).2
      obtain ⟨hjun, oj, hoj, hall⟩ := mem_ready.1 hj
      have hnot : ∀ e ∈ oj.after, Region.binds md e = true → e.on ≠ i := fun e he hb heq => by
        have h1 := hall e he hb
        rw [heq, getD_both hun] at h1
        cases h1
      have h2 := wpOp_putIf hoj (hfree j oj hoj hji hjun hnot) (fun cs b => hsel i oi cs b hi) (fun cs b => hsel j oj cs b hoj) hQ hy h1
      have hfree' : ∀ k ok, ops[k]? = some ok → k ≠ i → (listed.setIfInBounds j true).getD k true = false →
          (∀ e ∈ ok.after, Region.binds md e = true → e.on ≠ i) → oi.apart ops ok = true := fun k ok hk hki hun hno => by
        refine hfree k ok hk hki ?_ hno
        by_cases hjk : j = k
        · subst hjk; exact hjun
        · rw [getD_set_ne true hjk] at hun; exact hun
      refine wpOp_mono (fun a' w' h3 => ⟨h3.2.1, ih (listed.setIfInBounds j true) a' w' (inv.set hj (hjn listed inv hr j hj)) hfree' (ready_mono hr (Ne.symm hji)) h3.1 h3.2.1 ?_⟩) h2
      rw [Array.setIfInBounds_comm _ _ hji]
      exact h3.2.2
/-- One behind the other. -/
def seqL (md : Region.Mode) (ops : Array Oper) : List Nat → Array Bool → Bool
  | [], listed => (Region.ready md ops listed).isEmpty
  | k :: ks, listed => decide (Region.ready md ops listed = [k]) && seqL md ops ks (listed.setIfInBounds k true)
/-- The operations with these numbers. -/
def opsAt (l : List Oper) (ks : List Nat) : List Oper := ks.filterMap (fun k => l[k]?)
theorem wpAny_seqL : ∀ (l : List Oper) (ks : List Nat) (listed : Array Bool) (a : Act) (w : World), seqL md l.toArray ks listed = true → (∀ k ∈ ks, k < l.length) → wpList P l.toArray Q (opsAt l ks) a w → wpAny P md l.toArray Q ks.length listed a w
  | l, [], _, _, _, hB, _, h => ⟨by simpa [seqL] using hB, h⟩
  | l, k :: ks, listed, a, w, hB, hk, h => by
    simp only [seqL, Bool.and_eq_true, decide_eq_true_eq] at hB
    have hkl := hk k (by simp)
    refine ⟨fun h1 => (by rw [hB.1] at h1; cases h1), fun i hi => ?_⟩
    rw [hB.1] at hi
    have hik : i = k := by simpa using hi
    subst hik
    have h' : wpList P l.toArray Q (l[i] :: opsAt l ks) a w := by
      unfold opsAt at h
      rw [List.filterMap_cons, List.getElem?_eq_getElem hkl] at h
      exact h
    have hw : wpOp P l.toArray Q i (wpList P l.toArray Q (opsAt l ks)) a w := by
      unfold wpOp
      simp only [List.getElem?_toArray, List.getElem?_eq_getElem hkl]
      exact h'
    exact wpOp_mono (fun a' w' h2 => wpAny_seqL l ks _ a' w' hB.2 (fun j hj => hk j (by simp [hj])) h2) hw
theorem anyT_seq {l : List Oper} {ts : List Nat} {R : Act → World → Prop} : ∀ (ms : List Nat) (listed : Array Bool) (a : Act) (w : World), seqL md l.toArray (ms ++ ts) listed = true → (∀ k ∈ ms, k < l.length ∧ inTail ts k = false) → walkS P l.toArray Q S R (opsAt l ms) a w →
    anyT P md l.toArray Q S ts (fun listed a w => seqL md l.toArray ts listed = true ∧ R a w) ms.length listed a w
  | [], _, _, _, hB, _, h => ⟨hB, h⟩
  | k :: ms, listed, a, w, hB, hk, h => by
    simp only [List.cons_append, seqL, Bool.and_eq_true, decide_eq_true_eq] at hB
    have hkl := hk k (by simp)
    refine ⟨fun h1 => (by rw [hB.1] at h1; cases h1), fun i hi => ?_⟩
    rw [hB.1] at hi
    have hik : i = k := by simpa using hi
    subst hik
    refine ⟨hkl.2, ?_⟩
    have h' : walkS P l.toArray Q S R (l[i]'hkl.1 :: opsAt l ms) a w := by
      unfold opsAt at h
      rw [List.filterMap_cons, List.getElem?_eq_getElem hkl.1] at h
      exact h
    unfold wpOp
    simp only [List.getElem?_toArray, List.getElem?_eq_getElem hkl.1]
    rw [if_pos h'.1]
    exact .inl (Oper.wp_mono (fun a' w' h2 => ⟨h2.1, anyT_seq ms _ a' w' hB.2 (fun j hj => hk j (by simp [hj])) h2.2⟩) h'.2)
theorem seqL_ready {l : List Oper} {ts : List Nat} {listed : Array Bool} (h : seqL md l.toArray ts listed = true) : ∀ j ∈ Region.ready md l.toArray listed, inTail ts j = true := by
  cases ts with
  | nil => intro j hj; simp only [seqL, List.isEmpty_iff] at h; rw [h] at hj; cases hj
  | cons t ts =>
    intro j hj
    simp only [seqL, Bool.and_eq_true, decide_eq_true_eq] at h
    rw [h.1] at hj
    have : j = t := by simpa using hj
    subst this
    simp [inTail]
/-- Taken in turn: each may come, and nobody who could come before it touches its temporaries. -/
def takeL (md : Region.Mode) (ops : Array Oper) : List Nat → Array Bool → Bool
  | [], _ => true
  | k :: ks, listed => (Region.ready md ops listed).contains k && Region.free md ops listed k && takeL md ops ks (listed.setIfInBounds k true)
def setL (listed : Array Bool) (ks : List Nat) : Array Bool := ks.foldl (fun l k => l.setIfInBounds k true) listed
theorem anyT_lex {l : List Oper} {l0 : Array Bool} {ts ms : List Nat} {t0 : Nat} {w : World} {R : Act → World → Prop} (hsel : Region.noSelect l.toArray = true) (hQ : ∀ c a d v w, Q (.panic c) (Act.put a d v) w → Q (.panic c) a w)
    (hs : sink2 md l.toArray l0 ts t0 = true) (hc : chain2 md l.toArray ts t0 = true) (hS : S w) (hms : ∀ k ∈ ms, k < l.length ∧ inTail ts k = false) :
    ∀ (rs : List Nat) (listed : Array Bool) (a : Act), (∀ k ∈ rs, k < l.length ∧ inTail ts k = false) → HInv md l.toArray l0 ts listed → takeL md l.toArray rs listed = true → seqL md l.toArray (ms ++ ts) (setL listed rs) = true →
    heldL P l.toArray S (fun a' => walkS P l.toArray Q S R (opsAt l ms) a' w) (opsAt l rs) a → anyT P md l.toArray Q S ts (fun listed a w => seqL md l.toArray ts listed = true ∧ R a w) (rs.length + ms.length) listed a w
  | [], listed, a, _, _, _, hB, h => by
    rw [List.length_nil, Nat.zero_add]
    exact anyT_seq ms listed a w hB hms h
  | k :: rs, listed, a, hk, inv, hT, hB, h => by
    simp only [takeL, Bool.and_eq_true] at hT
    obtain ⟨⟨hr, hf⟩, hT'⟩ := hT
    have hkl := hk k (by simp)
    have h0 : l.toArray[k]? = some (l[k]'hkl.1) := by simp [hkl.1]
    have h' : heldL P l.toArray S (fun a' => walkS P l.toArray Q S R (opsAt l ms) a' w) (l[k]'hkl.1 :: opsAt l rs) a := by
      unfold opsAt at h
      rw [List.filterMap_cons, List.getElem?_eq_getElem hkl.1] at h
      exact h
    obtain ⟨v, hy, hK⟩ := h'
    rw [List.length_cons, show rs.length + 1 + ms.length = (rs.length + ms.length) + 1 by omega]
    exact anyT_first h0 (Region.noSelect_spec hsel) (fun c a w => hQ c a _ _ w) hs hc hkl.2 (fun listed' a' w' hL => seqL_ready hL.1) (rs.length + ms.length) listed a w inv (Region.free_spec h0 hf) (by simpa using hr) hy hS
      (anyT_lex hsel hQ hs hc hS hms rs _ _ (fun j hj => hk j (by simp [hj])) (inv.set (by simpa using hr) hkl.2) hT' hB hK)
theorem any_pure {l : List Oper} {R : Act → Prop} {w : World} {f : Nat} (hsel : Region.noSelect l.toArray = true) (hQ : ∀ c a d v w, Q (.panic c) (Act.put a d v) w → Q (.panic c) a w) :
    ∀ (ps : List Nat) (listed : Array Bool) (a : Act), (∀ k ∈ ps, k < l.length) → takeL md l.toArray ps listed = true → (∀ a', R a' → wpAny P md l.toArray Q f (setL listed ps) a' w) → heldL P l.toArray (fun _ => True) R (opsAt l ps) a →
    wpAny P md l.toArray Q (ps.length + f) listed a w
  | [], listed, a, _, _, hR, h => by rw [List.length_nil, Nat.zero_add]; exact hR a h
  | k :: ps, listed, a, hk, hT, hR, h => by
    simp only [takeL, Bool.and_eq_true] at hT
    obtain ⟨⟨hr, hf⟩, hT'⟩ := hT
    have hkl := hk k (by simp)
    have h0 : l.toArray[k]? = some (l[k]'hkl) := by simp [hkl]
    have h' : heldL P l.toArray (fun _ => True) R (l[k]'hkl :: opsAt l ps) a := by
      unfold opsAt at h
      rw [List.filterMap_cons, List.getElem?_eq_getElem hkl] at h
      exact h
    obtain ⟨v, hy, hK⟩ := h'
    rw [List.length_cons, show ps.length + 1 + f = (ps.length + f) + 1 by omega]
    exact wpAny_take h0 hsel hf hr (fun c a w => hQ c a _ _ w) (hy.imp (fun ⟨h1, h2⟩ => ⟨h1, fun w => h2 w trivial⟩) id) (any_pure hsel hQ ps _ _ (fun j hj => hk j (by simp [hj])) hT' hR hK)
def closedB (md : Region.Mode) (ops : Array Oper) (listed : Array Bool) : Bool := (List.range ops.size).all fun j => !listed.getD j false || match ops[j]? with
  | some oj => oj.after.all fun e => !Region.binds md e || listed.getD e.on false
  | none => true
def orderB (md : Region.Mode) (ops : Array Oper) (ps rs ms ts : List Nat) (t0 : Nat) : Bool :=
  Region.noSelect ops && takeL md ops ps (Array.replicate ops.size false) && closedB md ops (setL (Array.replicate ops.size false) ps) && ts.all (fun t => !(setL (Array.replicate ops.size false) ps).getD t true) &&
  sink2 md ops (setL (Array.replicate ops.size false) ps) ts t0 && chain2 md ops ts t0 && takeL md ops rs (setL (Array.replicate ops.size false) ps) && seqL md ops (ms ++ ts) (setL (setL (Array.replicate ops.size false) ps) rs) &&
  (ps ++ rs ++ ms ++ ts).all (fun k => decide (k < ops.size)) && (rs ++ ms).all (fun k => !inTail ts k) && decide (ps.length + (rs.length + ms.length + ts.length) = ops.size)
theorem setL_size (ks : List Nat) : ∀ listed : Array Bool, (setL listed ks).size = listed.size := by
  induction ks with
  | nil => intro l; rfl
  | cons k ks ih => intro l; simp only [setL, List.foldl_cons]; exact (ih _).trans (by simp)
/-- A region that draws, in the order ps (pure), rs (loads), ms (steps), ts (the tail, t0 first). -/
theorem any_order {l : List Oper} {a : Act} {w : World} (ps rs ms ts : List Nat) (t0 : Nat) (hQ : ∀ c a d v w, Q (.panic c) (Act.put a d v) w → Q (.panic c) a w) (hB : orderB .any l.toArray ps rs ms ts t0 = true) (S : World → Prop) (hS : S w)
    (h : heldL P l.toArray (fun _ => True) (fun a => heldL P l.toArray S (fun a' => walkS P l.toArray Q S (fun a w => wpList P l.toArray Q (opsAt l ts) a w) (opsAt l ms) a' w) (opsAt l rs) a) (opsAt l ps) a) :
    wpAny P .any l.toArray Q l.toArray.size (Array.replicate l.toArray.size false) a w := by
  simp only [orderB, Bool.and_eq_true, decide_eq_true_eq] at hB
  obtain ⟨⟨⟨⟨⟨⟨⟨⟨⟨⟨hsel, hT⟩, hcl⟩, htl⟩, hs⟩, hc⟩, hT2⟩, hsq⟩, hlt⟩, hnt⟩, hlen⟩ := hB
  have hlt' : ∀ k ∈ ps ++ rs ++ ms ++ ts, k < l.length := fun k hk => by simpa using List.all_eq_true.1 hlt k hk
  have hnt' : ∀ k ∈ rs ++ ms, inTail ts k = false := fun k hk => by simpa using List.all_eq_true.1 hnt k hk
  have key : wpAny P .any l.toArray Q (ps.length + (rs.length + ms.length + ts.length)) (Array.replicate l.toArray.size false) a w := by
   refine any_pure hsel hQ ps _ a (fun k hk => hlt' k (by simp [hk])) hT (fun a' ha' => ?_) h
   have inv : HInv .any l.toArray (setL (Array.replicate l.toArray.size false) ps) ts (setL (Array.replicate l.toArray.size false) ps) := by
     refine ⟨by rw [setL_size]; simp, fun j oj hj hl e he hb => ?_, fun t ht hts => ?_, fun _ h => h⟩
     · have h1 := List.all_eq_true.1 hcl j (List.mem_range.2 (Array.getElem?_eq_some_iff.1 hj).1)
       rw [hl, hj] at h1
       simp only [Bool.not_true, Bool.false_or] at h1
       have h2 := Array.all_eq_true'.1 h1 e he
       rw [hb] at h2
       simpa using h2
     · have := List.all_eq_true.1 htl t (by unfold inTail at ht; simpa using ht)
       simpa using this
   have H := anyT_lex (P := P) (md := .any) hsel hQ hs hc hS (fun k hk => ⟨hlt' k (by simp [hk]), hnt' k (by simp [hk])⟩) rs _ a' (fun k hk => ⟨hlt' k (by simp [hk]), hnt' k (by simp [hk])⟩) inv hT2 hsq ha'
   refine anyT_head (g := ts.length) (L := fun listed a w => seqL .any l.toArray ts listed = true ∧ wpList P l.toArray Q (opsAt l ts) a w) (fun listed a w hL => wpAny_seqL l ts listed a w hL.1 (fun k hk => hlt' k (by simp [hk])) hL.2) _ _ _ _ H
  rwa [hlen] at key
theorem wp_region_order {id : Nat} {l : List Oper} {a : Act} {w : World} (ps rs ms ts : List Nat) (t0 : Nat) (hQ : ∀ c a d v w, Q (.panic c) (Act.put a d v) w → Q (.panic c) a w) (hm : P.follows .mixedOrders = true) (hB : orderB .any l.toArray ps rs ms ts t0 = true) (S : World → Prop) (hS : S w.drew)
    (h : heldL P l.toArray (fun _ => True) (fun a => heldL P l.toArray S (fun a' => walkS P l.toArray Q S (fun a w => wpList P l.toArray Q (opsAt l ts) a w) (opsAt l ms) a' w.drew) (opsAt l rs) a) (opsAt l ps) a) : (Code.region id l.toArray true).wp P Q a w :=
  wp_region_any hm (any_order ps rs ms ts t0 hQ hB S hS h)
theorem round_order {id lr k : Nat} {l : List Oper} {a : Act} {w : World} (ps rs ms ts : List Nat) (t0 : Nat) (hL : ¬ LetsOut Q) (hQ : ∀ c a d v w, Q (.panic c) (Act.put a d v) w → Q (.panic c) a w) (hm : P.follows .mixedOrders = true) (hB : orderB .any l.toArray ps rs ms ts t0 = true) (hnd : l.toArray.all noDefer = true) (S : World → Prop) (hS : S w.drew)
    (h : heldL P l.toArray (fun _ => True) (fun a => heldL P l.toArray S (fun a' => walkS P l.toArray Q S (fun a w => wpList P l.toArray Q (opsAt l ts) a w) (opsAt l ms) a' w.drew) (opsAt l rs) a) (opsAt l ps) a) : (Code.region id l.toArray true).wpIn (inR lr) k P Q a w :=
  wpIn_region_any hm (any_in hL hnd _ _ _ _ (any_order ps rs ms ts t0 hQ hB S hS h))
end
end Go.Proofs.YtfgifndpglgjkaaGreatDoor
end

section
set_option maxRecDepth 100000
set_option linter.unusedVariables false
set_option linter.unusedSimpArgs false
namespace Go.Proofs.YtfgifndpglgjkaaGreatDoor
open Go.RowKit Go.Deep

theorem wp_then_only' {P : Program} {Q : Exit → Act → World → Prop} {c : Code} {K : Act → World → Prop} {a : Act} {w : World} (h : c.wp P (Exit.then K (fun _ _ _ => False)) a w) : c.wp P (Exit.then K Q) a w := by
  refine wp_mono h ?_
  intro e a' w' h'
  cases e with
  | normal => exact h'
  | exit id => exact h'.elim
  | goto l => exact h'.elim
  | ret => exact h'.elim
  | panic ch => exact h'.elim
  | outgrown => exact h'.elim
section
variable {P : Program}
theorem wpList_append_eq {w w' : World} {ops : Array Oper} {rest : List Oper} {o : Oper} {a : Act} {Q : Exit → Act → World → Prop} (hgd : Region.wanted o (yielded ops a.tmps) = true) (s x : Operand) (t : TypeId)
    (ho : o.op = .call { callee := .builtin .append, args := #[s, x], argTypes := #[t, t] }) {v1 v2 v : Value} (hs : a.eval s = v1) (hx : a.eval x = v2)
    (hr : (Builtin.append_ #[t, t] o.type #[v1, v2]).run P w = .ok v w') (h : wpList P ops Q rest (a.put o.dst v) w') : wpList P ops Q (o :: rest) a w :=
  BigFrame.wpList_want hgd fun K hK => by
    unfold Oper.wp execOp
    simp only [ho, resolve, invoke, builtin, Sem.run_bind, Sem.run_pure, Result.andThen_ok, List.map_toArray, List.map_cons, List.map_nil, hs, hx, hr]
    exact hK _ _ h
end
section
variable {w : World} {ops : Array Oper} {rest : List Oper} {o : Oper} {a : Act} {Q : Exit → Act → World → Prop}
/-- append to a slice of rows that is full. -/
theorem app_fullr (hgd : Region.wanted o (yielded ops a.tmps) = true) (s x : Operand) (ho : o.op = .call { callee := .builtin .append, args := #[s, x], argTypes := #[53, 53] })
    {aq : Option Addr} {n : Nat} {cs : List Value} (hs : a.eval s = .slice aq n n) (hrow : Row w aq cs) (hcl : cs.length = n) (hn : 0 < n)
    {ax : Option Addr} {m cx : Nat} {cs2 : List Value} (hx : a.eval x = .slice ax m cx) (hr : Row w ax cs2) (hl : cs2.length = m) (h1' : ∀ u ∈ cs2, u.oneCell' = true) (hb : n + m ≤ 1000000)
    (h : ∀ a' c' w', ((m = 0 ∧ a' = aq ∧ c' = n ∧ w' = w) ∨ OwnV w' w.heap.size a' (n + m) c' (cs ++ cs2)) → Below w.heap.size w w' → wpList Tryz.prog ops Q rest (a.put o.dst (.slice a' (n + m) c')) w') : wpList Tryz.prog ops Q (o :: rest) a w := by
  obtain ⟨i, hi, h0, h1, h2⟩ := info_parts infoSs
  by_cases hm : m = 0
  · subst hm
    have hsrc : Src Tryz.prog i.size 53 (.slice ax 0 cx) 0 [] w := by
      cases ax with
      | none => exact Src.ofNil w Tryz.underlying53 cx
      | some ad => exact Src.ofSlice w Tryz.underlying53 ad 0 cx [] (by simp) (by intro j u h; simp at h) (by intro u h; cases h)
    refine wpList_append_eq hgd s x 53 ho hs hx (run_append_nothing w 53 53 o.type 25 i Tryz.underlying53 hi aq n n (Nat.le_refl _) _ hsrc) ?_
    exact h aq n w (.inl ⟨rfl, rfl, rfl, rfl⟩) (Below.refl _ _)
  · have hz : i.zero = some (.slice none 0 0) := h0
    obtain ⟨c', w', h3, h4, h5⟩ := run_append_new w 53 o.type 25 i (.slice none 0 0) Tryz.underlying53 hi h0 (by rw [h1]; rfl) (by omega) aq n n cs hrow (by rw [h1, hcl]; simp) (fun e => by
      subst e
      cases cs with
      | nil => simp at hcl; omega
      | cons u cs => obtain ⟨_, _, e, _⟩ := hrow 0 u rfl; cases e) ax m cx cs2 (by rw [h1, hl]; simp) hr (by omega) (by omega) (Nat.le_refl _) (by rw [h2]; omega) (by simp only [maxLen]; omega)
    have h6 := h4 w.heap.size (Nat.le_refl _)
    rw [h1] at h6
    refine wpList_append_eq hgd s x 53 ho hs hx h3 ?_
    exact h _ c' w' (.inr h6) ((Below.refl _ _).grown (h5 none) (Nat.le_refl _) (fun k hk => by cases hk))
end
theorem own_onl {w w' : World} {X : Nat → Prop} {B n c : Nat} {a : Option Addr} {cs : List Value} (h : OwnV w B a n c cs) (k : Onl w w' X) (hX : ∀ b, X b → b < B) : OwnV w' B a n c cs := by
  refine ⟨h.1, ?_⟩
  rcases h.2 with h0 | ⟨g, cap, cur, h1, h2, h3, h4⟩
  · exact .inl h0
  · cases h1
    refine .inr ⟨g, _, cur, rfl, h2, ?_, h4⟩
    rw [k.block g (Array.getElem?_eq_some_iff.1 h3).1 (fun e => by have := hX g e; omega)]
    exact h3
/-- Two lists of shards behind one another, in a new row. -/
theorem Stb.join {X : Nat → Prop} {w w' : World} {aL aM a' : Option Addr} {n m cL cM c' : Nat} {lL lM : List (List UInt8)} (h : Stb X w aL n cL lL) (k : Stb X w aM m cM lM) (hX : ∀ b, X b → b < w.heap.size)
    {aiL aiM : Nat → Option Addr} {ciL ciM : Nat → Nat}
    (hvL : ∀ W, Onl w W X → ∀ i, i < n → (∃ b off, aL = some ⟨b, off, none⟩ ∧ W.cell? ⟨b, off + i, none⟩ = some (.slice (aiL i) (nth lL i).length (ciL i))) ∧ Bs W (aiL i) (nth lL i).length (ciL i) (nth lL i))
    (hvM : ∀ W, Onl w W X → ∀ i, i < m → (∃ b off, aM = some ⟨b, off, none⟩ ∧ W.cell? ⟨b, off + i, none⟩ = some (.slice (aiM i) (nth lM i).length (ciM i))) ∧ Bs W (aiM i) (nth lM i).length (ciM i) (nth lM i))
    (hb : Below w.heap.size w w')
    (ho : OwnV w' w.heap.size a' (n + m) c' (((List.range n).map fun i => Value.slice (aiL i) (nth lL i).length (ciL i)) ++ ((List.range m).map fun i => Value.slice (aiM i) (nth lM i).length (ciM i)))) :
    Stb X w' a' (n + m) c' (lL ++ lM) := by
  have hn := h.len
  have hm := k.len
  refine ⟨by rw [List.length_append, hn, hm], ho.len.2.1, ho.len.2.2, fun i => if i < n then aiL i else aiM (i - n), fun i => if i < n then ciL i else ciM (i - n), fun W hW i hi => ?_⟩
  have hW0 : Onl w W X := (Onl.of_below hb).trans hW
  have hrow := Row.of_own (own_onl ho hW hX : World.ownsRow _ _ _ _ _ _ _)
  by_cases e : i < n
  · simp only [if_pos e]
    rw [nth_append_left _ _ (by omega)]
    exact ⟨hrow i _ (by rw [List.getElem?_append_left (by simpa using e)]; simp [e]), (hvL W hW0 i e).2⟩
  · simp only [if_neg e]
    have e2 : nth (lL ++ lM) i = nth lM (i - n) := by
      rw [nth_eq _ (by rw [List.length_append]; omega), nth_eq _ (by omega), List.getElem_append_right (by omega)]
      congr 1; omega
    rw [e2]
    exact ⟨hrow i _ (by rw [List.getElem?_append_right (by simp; omega)]; simp only [List.length_map, List.length_range]; rw [List.getElem?_map, List.getElem?_range (by omega)]; rfl), (hvM W hW0 (i - n) (by omega)).2⟩
theorem vals_row {w : World} {a : Option Addr} {n : Nat} {v : Nat → Value} (h : ∀ i, i < n → ∃ b off, a = some ⟨b, off, none⟩ ∧ w.cell? ⟨b, off + i, none⟩ = some (v i)) : Row w a ((List.range n).map v) := by
  intro j u hu
  have hj : j < n := by
    rcases Nat.lt_or_ge j n with h' | h'
    · exact h'
    · rw [List.getElem?_eq_none (by simp; omega)] at hu; cases hu
  obtain ⟨b, off, h1, h2⟩ := h j hj
  simp [hj] at hu
  exact ⟨b, off, h1, by rw [h2, hu]⟩
theorem MOwn.stb {X : Nat → Prop} {ls : List (List UInt8)} {er : Int} {w w' : World} {e : Ending} (h : MOwn ls er w e w') (hX : ∀ b, X b → b < w.heap.size) : ∃ a n c, e = .returned (.tuple #[.slice a n c, .int .i64 er]) ∧ Stb X w' a n c ls := by
  obtain ⟨⟨a, n, c, h1, h2, h3⟩, hb⟩ := h
  refine ⟨a, n, c, h1, ?_⟩
  rcases h3 with ⟨rfl, rfl⟩ | ⟨g, C, bl, cp, Z, rfl, hm, hz⟩
  · have := h2.1
    obtain rfl : ls = [] := List.eq_nil_of_length_eq_zero this
    exact ⟨rfl, h2.2.1, h2.2.2.1, fun _ => none, fun _ => 0, fun W hW i hi => by omega⟩
  · rw [hz]
    exact hm.stb hX h2.2.1 h2.2.2.1
/-- All that whole tells is of one length. -/
theorem whole_even {K M m : Nat} {ls : List (List UInt8)} (hK : 1 ≤ K) (hl : ls.length = K + M) (hsc : Rs.sc ls = some m) (hlo : Rs.lostB K ls = false) :
    (Rs.whole K M ls).length = K ∧ Rs.parOk K (Rs.whole K M ls) = true ∧ ∀ i, i < K → (nth (Rs.whole K M ls) i).length = m := by
  obtain ⟨f1, f2, f3⟩ := rows_facts hl hlo
  have hmem : ∀ i, i < K → (Rs.rows K ls).getD i 0 ∈ Rs.rows K ls := fun i hi => by
    rw [List.getD_eq_getElem?_getD, List.getElem?_eq_getElem (by omega)]
    exact List.getElem_mem _
  unfold Rs.whole
  by_cases hf : Rs.full (ls.take K) = true
  · rw [if_pos hf]
    have hlen : (ls.take K).length = K := by rw [List.length_take]; omega
    refine ⟨hlen, ?_, fun i hi => ?_⟩
    · obtain ⟨t, ht⟩ := sc_take hsc K
      unfold Rs.parOk Rs.alk
      rw [if_pos hlen, ht, hf]; rfl
    · have h1 := full_at hf (k := i) (by omega)
      rw [nth_take ls hi (by omega)] at h1 ⊢
      rcases sc_len hsc (i := i) (by omega) with h | h
      · exact absurd h h1
      · exact h
  · rw [if_neg hf]
    have hm0 : (nth (Rs.got ls (Rs.rows K ls)) 0).length = m := by
      rw [got_row (by omega)]
      have := f3 _ (hmem 0 (by omega))
      have := sc_len hsc (i := (Rs.rows K ls).getD 0 0) (by omega)
      omega
    have hpos : 0 < m := by
      have := f3 _ (hmem 0 (by omega))
      have := sc_len hsc (i := (Rs.rows K ls).getD 0 0) (by omega)
      omega
    unfold Rs.mend
    rw [hm0]
    exact ⟨mat_len _ _ _, even_ok hpos, fun i hi => by rw [mat_row hi]; simp⟩
theorem both_len {K M m : Nat} {ls : List (List UInt8)} (hK : 1 ≤ K) (hl : ls.length = K + M) (hsc : Rs.sc ls = some m) (hlo : Rs.lostB K ls = false) : (Rs.parL K M (Rs.whole K M ls)).length = M := by
  obtain ⟨_, h2, _⟩ := whole_even hK hl hsc hlo
  unfold Rs.parL
  rw [if_pos h2]
  exact mat_len _ _ _
end Go.Proofs.YtfgifndpglgjkaaGreatDoor
end

section
set_option maxRecDepth 100000
set_option linter.unusedVariables false
set_option linter.unusedSimpArgs false
namespace Go.Proofs.YtfgifndpglgjkaaGreatDoor
open Go.RowKit Go.Deep

theorem zero_rep : ZeroF 87 (.slice none 0 0) := by
  intro po x w h1 h2
  go_enter Tryz.func87, Tryz.ntmps87
  go_wp2
  go_end0
  exact ⟨rfl, rfl⟩
theorem rsclip_any (a : Option Addr) (n c : Nat) (w : World) (h : n ≤ c) (hc : c ≤ 9223372036854775807) : Calls Tryz.prog 88 #[.slice a n c] w fun e w' => e = .returned (.slice a n n) ∧ w = w' := by
  have hs := slicer_hm a n c (hi := (n : Int)) (hi' := n) (mx := (n : Int)) (mx' := n) rfl rfl (Nat.le_refl _) h
  go_enter Tryz.func88, Tryz.ntmps88
  go_wp2
  go_ret
  exact ⟨rfl, rfl⟩
theorem Stb.of_old {X : Nat → Prop} {w w2 : World} {a : Option Addr} {n c : Nat} {ls : List (List UInt8)} (h : Bss w a n c ls) (hb : Below w.heap.size w w2) (hX : ∀ b, X b → w.heap.size ≤ b) : Stb X w2 a n c ls := by
  obtain ⟨ai, ci, hv⟩ := h.vals
  refine ⟨h.1, h.2.1, h.2.2.1, ai, ci, fun W k i hi => ?_⟩
  have hbW : Below w.heap.size w W := hb.trans (k.below hb.size hX)
  obtain ⟨⟨b, off, h1, h2⟩, h3⟩ := hv i hi
  exact ⟨⟨b, off, h1, cell_later hbW h2⟩, h3.below hbW⟩
theorem sc_le {ls : List (List UInt8)} {N : Nat} (h : ∀ i, i < ls.length → (nth ls i).length ≤ N) : ∀ (k : Nat), k ≤ ls.length → ∀ x, Rs.sc (ls.take k) = some x → x ≤ N
  | 0, _, x, hx => by simp [Rs.sc] at hx; omega
  | k + 1, hk, x, hx => by
    rw [sc_snoc ls (by omega)] at hx
    cases hm : Rs.sc (ls.take k) with
    | none => rw [hm] at hx; cases hx
    | some m =>
      rw [hm] at hx
      simp only [Rs.sc1] at hx
      split at hx
      · cases hx
      · have := sc_le h k (by omega) m hm
        have := h k (by omega)
        have hx' : max m (nth ls k).length = x := by simpa using hx
        omega
/-- Slices that are gathered: the row and its elements are the call's own. -/
structure AccX (w : World) (B : Nat) (a : Option Addr) (n c : Nat) (ls : List (List UInt8)) : Prop where
  len : ls.length = n
  row : ∃ cs, OwnV w B a n c cs ∧ ∀ i, i < n → ∃ ai ni ci, cs[i]? = some (.slice ai ni ci) ∧ Bs w ai ni ci (nth ls i) ∧ (0 < ni → ∀ x, ai = some x → B ≤ x.block) ∧ (0 < ni → ∀ x y, ai = some x → a = some y → x.block ≠ y.block)
theorem AccX.nil (w : World) (B : Nat) : AccX w B none 0 0 [] := ⟨rfl, [], OwnV.nil w B, fun i hi => by omega⟩
theorem AccX.below {w w' : World} {B n c : Nat} {a : Option Addr} {ls : List (List UInt8)} (h : AccX w B a n c ls) (hb : Below w.heap.size w w') : AccX w' B a n c ls := by
  obtain ⟨cs, h1, h2⟩ := h.row
  exact ⟨h.len, cs, h1.below hb, fun i hi => by
    obtain ⟨ai, ni, ci, g1, g2, g3, g4⟩ := h2 i hi
    exact ⟨ai, ni, ci, g1, g2.below hb, g3, g4⟩⟩
theorem AccX.bss {w : World} {B n c : Nat} {a : Option Addr} {ls : List (List UInt8)} (h : AccX w B a n c ls) : Bss w a n c ls := by
  obtain ⟨cs, h1, h2⟩ := h.row
  refine ⟨h.len, h1.len.2.1, h1.len.2.2, fun i hi => ?_⟩
  obtain ⟨ai, ni, ci, g1, g2, _⟩ := h2 i hi
  obtain ⟨b, off, e1, e2⟩ := Row.of_own h1 i _ g1
  exact ⟨b, off, ai, ni, ci, e1, e2, g2⟩
theorem bs_setLow {w : World} {p : Addr} {v : Value} {B : Nat} (hp : p.block < B) {a : Option Addr} {n c : Nat} {l : List UInt8} (h : Bs w a n c l) (hB : 0 < n → ∀ x, a = some x → B ≤ x.block) : Bs (w.setCell p v) a n c l := by
  refine ⟨h.1, h.2.1, h.2.2.1, fun j u hu => ?_⟩
  obtain ⟨b, off, e1, e2⟩ := h.2.2.2 j u hu
  subst e1
  have hn : 0 < n := by
    rcases Nat.eq_zero_or_pos n with h0 | h0
    · have : l = [] := List.eq_nil_of_length_eq_zero (by rw [h.1, h0])
      subst this; simp [vs] at hu
    · exact h0
  have := hB hn _ rfl
  refine ⟨b, off, rfl, ?_⟩
  rw [World.cell?_setCell_other _ _ _ _ (by intro e; rw [e] at hp; simp at hp; have : B ≤ b := this; omega)]
  exact e2
theorem AccX.setLow {w : World} {B n c : Nat} {a : Option Addr} {ls : List (List UInt8)} (h : AccX w B a n c ls) {p : Addr} (hp : p.block < B) (v : Value) : AccX (w.setCell p v) B a n c ls := by
  obtain ⟨cs, h1, h2⟩ := h.row
  refine ⟨h.len, cs, own_keep h1 (fun g hg => Below.heap_setCell _ _ _ _ (by omega)), fun i hi => ?_⟩
  obtain ⟨ai, ni, ci, g1, g2, g3, g4⟩ := h2 i hi
  exact ⟨ai, ni, ci, g1, bs_setLow hp g2 g3, g3, g4⟩
theorem AccX.snoc {w w' : World} {B n c c' : Nat} {a a' : Option Addr} {ls : List (List UInt8)} {cs : List Value} {ae : Option Addr} {ne ce : Nat} {l : List UInt8}
    (hl : ls.length = n) (h1 : OwnV w B a n c cs) (h2 : ∀ i, i < n → ∃ ai ni ci, cs[i]? = some (.slice ai ni ci) ∧ Bs w ai ni ci (nth ls i) ∧ (0 < ni → ∀ x, ai = some x → B ≤ x.block) ∧ (0 < ni → ∀ x y, ai = some x → a = some y → x.block ≠ y.block))
    (he : Bs w ae ne ce l) (heB : 0 < ne → ∀ x, ae = some x → B ≤ x.block) (hne : 0 < ne → ∀ x y, ae = some x → a = some y → x.block ≠ y.block)
    (h : OwnV w' B a' (n + 1) c' (cs ++ [.slice ae ne ce])) (hev : Evol w a w' a') : AccX w' B a' (n + 1) c' (ls ++ [l]) := by
  have step : ∀ {ai : Option Addr} {ni ci : Nat} {m : List UInt8}, Bs w ai ni ci m → (0 < ni → ∀ x y, ai = some x → a = some y → x.block ≠ y.block) → Bs w' ai ni ci m ∧ (0 < ni → ∀ x y, ai = some x → a' = some y → x.block ≠ y.block) := by
    intro ai ni ci m g2 g3
    refine ⟨g2.evol hev g3, fun h0 x y hx hy e => ?_⟩
    have hold := g2.old h0 x hx
    rcases hev.2 y hy with k1 | k1
    · cases a with
      | none => cases k1
      | some z =>
        have k2 : z.block = y.block := by simpa using k1
        exact g3 h0 x z hx rfl (by rw [e, k2])
    · omega
  have hcl := h1.len.1
  refine ⟨by simp [hl], cs ++ [.slice ae ne ce], h, fun i hi => ?_⟩
  by_cases e : i = n
  · subst e
    obtain ⟨k1, k2⟩ := step he hne
    refine ⟨ae, ne, ce, by rw [← hcl]; simp, ?_, heB, k2⟩
    rw [nth_eq _ (by simp; omega)]
    simpa [hl] using k1
  · obtain ⟨ai, ni, ci, g1, g2, g3, g4⟩ := h2 i (by omega)
    obtain ⟨k1, k2⟩ := step g2 g4
    refine ⟨ai, ni, ci, by rw [List.getElem?_append_left (by omega)]; exact g1, ?_, g3, k2⟩
    rw [nth_append_left _ _ (by omega)]
    exact k1
section
variable {w : World} {ops : Array Oper} {rest : List Oper} {o : Oper} {a : Act} {Q : Exit → Act → World → Prop}
theorem app_accX (hgd : Region.wanted o (yielded ops a.tmps) = true) (s x : Operand) (ho : o.op = .call { callee := .builtin .append, args := #[s, x], argTypes := #[53, 53] })
    (B : Nat) {aq : Option Addr} {n c : Nat} {ls : List (List UInt8)} (hs : a.eval s = .slice aq n c) (hacc : AccX w B aq n c ls)
    {k : Nat} {ae : Option Addr} {ne ce : Nat} {l : List UInt8} (hx : a.eval x = .slice (some ⟨k, 0, none⟩) 1 1) (hcell : w.cell? ⟨k, 0, none⟩ = some (.slice ae ne ce)) (he : Bs w ae ne ce l)
    (heB : 0 < ne → ∀ x, ae = some x → B ≤ x.block) (hne : 0 < ne → ∀ x y, ae = some x → aq = some y → x.block ≠ y.block) (hb : n ≤ 1000000000000) (hB : B ≤ w.heap.size)
    (h : ∀ a' c' w', AccX w' B a' (n + 1) c' (ls ++ [l]) → Below B w w' → wpList Tryz.prog ops Q rest (a.put o.dst (.slice a' (n + 1) c')) w') : wpList Tryz.prog ops Q (o :: rest) a w := by
  obtain ⟨cs, h1, h2⟩ := hacc.row
  refine app_row hgd s x ho B hs h1 hx hcell rfl hb hB fun a' c' w' g1 g2 g3 => ?_
  exact h a' c' w' (AccX.snoc hacc.len h1 h2 he heB hne g1 g3) g2
end
theorem AccX.new {w : World} {B n c : Nat} {a : Option Addr} {ls : List (List UInt8)} (h : AccX w B a n c ls) : ∀ z, a = some z → B ≤ z.block ∧ z.block < w.heap.size := by
  obtain ⟨cs, h1, _⟩ := h.row
  exact h1.new

theorem wp_only {P : Program} {Q : Exit → Act → World → Prop} {c : Code} {a : Act} {w : World} (h : c.wp P (fun e a w => e = .normal ∧ Q .normal a w) a w) : c.wp P Q a w :=
  wp_mono h fun e a' w' ⟨h1, h2⟩ => by subst h1; exact h2
theorem both_even {K M m : Nat} {ls : List (List UInt8)} (hK : 1 ≤ K) (hl : ls.length = K + M) (hsc : Rs.sc ls = some m) (hlo : Rs.lostB K ls = false) {i : Nat} (hi : i < K + M) : (nth (Rs.both K M ls) i).length = m := by
  obtain ⟨h1, h2, h3⟩ := whole_even hK hl hsc hlo
  unfold Rs.both
  by_cases e : i < K
  · rw [nth_append_left _ _ (by omega)]; exact h3 i e
  · have hp : Rs.parL K M (Rs.whole K M ls) = Rs.par K M (Rs.whole K M ls) := by unfold Rs.parL; rw [if_pos h2]
    rw [nth_eq _ (by rw [List.length_append, hp]; unfold Rs.par; rw [mat_len]; omega), List.getElem_append_right (by omega), ← nth_eq, hp]
    unfold Rs.par
    rw [mat_row (by omega)]
    simp [h3 0 (by omega)]
theorem own_new {w : World} {B n c : Nat} {a : Option Addr} {l : List UInt8} (h : Own w B a n c l) : ∀ x, a = some x → B ≤ x.block := by
  intro x hx
  subst hx
  exact (World.ownsRow.lt h x.block rfl).1
set_option maxHeartbeats 16000000 in
theorem repair_any (b K M : Nat) (aq : Option Addr) (ns cs : Nat) (ls : List (List UInt8)) (w : World) (hc : Cod w b K M) (hs : Bss w aq ns cs ls) (h1 : 1 ≤ K) (h2 : K + M ≤ 255) (h3 : ns ≤ 1000000000) (h4 : ∀ i, i < ns → (nth ls i).length ≤ 100000000) :
    Calls Tryz.prog 53 #[.pointer (some ⟨b, 0, none⟩), .slice aq ns cs] w (MRes (Rs.repL K M ls) (Rs.errS K M ls) w) := by
  have hmf := makeFunc_run
  obtain ⟨w2, hw2⟩ : ∃ w2, (w.alloc (.cells #[.slice none 0 0] 53)).alloc (.cells #[.int .i64 0] 32) = w2 := ⟨_, rfl⟩
  have hT := Two.start w (.slice none 0 0) (.int .i64 0) 53 32
  rw [hw2] at hT
  have HC : Hid (∀ W, Below w.heap.size w W → Cod W b K M) := Lib.hid fun W h => hc.below h
  have HS : Hid (∀ W, Below w.heap.size w W → Bss W aq ns cs ls) := Lib.hid fun W h => hs.below h
  have HS0 := Lib.hid hs
  have HT := Lib.hid hT
  have HW := Lib.hid hw2
  have H4 := Lib.hid h4
  have k1 := (HC.out w2 hT.out).k
  have k2 := (HC.out w2 hT.out).m
  clear hc hs hT hw2 h4
  have HRD : Hid (∀ tmps : Array Value, tmps.getD 4 undef = .pointer (some ⟨w.heap.size, 0, none⟩) → tmps.getD 5 undef = .pointer (some ⟨w.heap.size + 1, 0, none⟩) → Reads2 Tryz.f53 tmps w.heap.size) := Lib.hid fun tmps t4 t5 W v1 v2 g1 g2 => by
    simp [results, Tryz.results53, go_sem, g1, g2] at t4 t5 ⊢
    simp [t4, t5, asAddr, g1, g2, go_sem]
  go_enter_defers Tryz.func53, Tryz.ntmps53
  go_wp2_with fail
  rw [HW.out]
  clear HW
  go_still_tail 10, (by kernel_rfl)
  go_wp2_with fail
  have hT2 := Lib.hid (HT.out.later (Below.refl _ _).drew)
  generalize w2.drew = w3 at *
  clear HT k1 k2
  refine (alike_sum K M aq ns cs ls w3 (HS.out _ hT2.out.out) (by omega)).mono ?_
  rintro e w4 ⟨rfl, rfl⟩
  cases hA : Rs.alk (K + M) ls with
  | none =>
    have e1 : Rs.errS K M ls = 1 := by unfold Rs.errS; rw [hA]
    have e2 : Rs.repL K M ls = [] := by unfold Rs.repL; rw [e1]; rfl
    simp only [alkE]
    refine door_err (F := 87) (HRD.out _ rfl rfl) hT2.out (enters_of Tryz.func87 (by kernel_rfl) rfl) zero_rep (fun W hb => ?_)
    rw [e1, e2]
    exact nil_res rfl hb
  | some m =>
    simp only [alkE]
    obtain ⟨hlen, hsc⟩ := alk_some hA
    have hns := HS0.out.1
    obtain rfl : ns = K + M := by omega
    have hm4 : m ≤ 100000000 := sc_le (fun i hi => H4.out i (by omega)) ls.length (Nat.le_refl _) m (by rw [List.take_length]; exact hsc)
    have HSC := Lib.hid hsc
    have HLEN := Lib.hid hlen
    have HA := Lib.hid hA
    have hlt := hT2.out.lt
    have HN4 : Hid (∀ i, i < K + M → (nth ls i).length ≤ 100000000) := Lib.hid fun i hi => H4.out i hi
    clear hA hlen hsc hns H4
    go_wp2_with fail
    refine (whole_any (fun b => b = w.heap.size) b K M aq cs m ls w3 (fun b hb => by omega) (HC.out _ hT2.out.out) (Stb.of_old HS0.out hT2.out.out (fun b hb => by omega)) h1 h2 HSC.out hm4).mono ?_
    rintro e w4 ⟨hres, hb4⟩
    have HT4 := Lib.hid (hT2.out.later hb4)
    clear hb4
    by_cases hlo : Rs.lostB K ls = true
    · rw [if_pos hlo] at hres
      subst hres
      have e1 : Rs.errS K M ls = 16 := by unfold Rs.errS; rw [HA.out]; simp [hlo]
      have e2 : Rs.repL K M ls = [] := by unfold Rs.repL; rw [e1]; rfl
      refine door_err (F := 87) (HRD.out _ rfl rfl) HT4.out (enters_of Tryz.func87 (by kernel_rfl) rfl) zero_rep (fun W hb => ?_)
      rw [e1, e2]
      exact nil_res rfl hb
    rw [if_neg hlo] at hres
    have hlo : Rs.lostB K ls = false := by simpa using hlo
    obtain ⟨a4, c4, rfl, hst⟩ := hres
    have e1 := Lib.hid (show Rs.errS K M ls = 0 by unfold Rs.errS; rw [HA.out]; simp [hlo])
    obtain ⟨v1, v2, v3⟩ := whole_even h1 HLEN.out HSC.out hlo
    have hbl := both_len h1 HLEN.out HSC.out hlo
    have HBE : Hid (∀ i, i < K + M → (nth (Rs.both K M ls) i).length = m) := Lib.hid fun i hi => both_even h1 HLEN.out HSC.out hlo hi
    have HST := Lib.hid hst
    have V2 := Lib.hid v2
    have V3 := Lib.hid v3
    have HBL := Lib.hid hbl
    have hc4 := hst.nc
    have hc4m := hst.cm
    clear hst v1 v2 v3 hbl hlo
    go_wp2_with fail
    refine (parity_any b K M _ _ _ _ w4 (HC.out _ HT4.out.out) HST.out.bss h1 h2 (by omega) (fun i hi => by rw [V3.out i hi]; exact hm4)).mono ?_
    rintro e w5 hres
    have hlt4 : w.heap.size < w4.heap.size := by have := HT4.out.lt; omega
    obtain ⟨a5, n5, c5, rfl, hst5⟩ := hres.stb (X := fun b => b = w.heap.size) (fun b hb => by omega)
    obtain ⟨⟨_, _, _, _, _, _⟩, hb5⟩ := hres
    obtain rfl : n5 = M := by rw [← hst5.len, HBL.out]
    have HT5 := Lib.hid (HT4.out.later hb5)
    have hstL := HST.out.below hb5
    obtain ⟨aiL, ciL, hvL⟩ := hstL.vals
    obtain ⟨aiM, ciM, hvM⟩ := hst5.vals
    have RL := Lib.hid (vals_row (fun i hi => (hvL w5 (Onl.refl _ _) i hi).1))
    have RM := Lib.hid (vals_row (fun i hi => (hvM w5 (Onl.refl _ _) i hi).1))
    have HVL := Lib.hid hvL
    have HVM := Lib.hid hvM
    have HSL := Lib.hid hstL
    have HSM := Lib.hid hst5
    clear hstL hvL hvM hst5 hb5
    go_wp2_with fail
    refine (rsclip_any a4 K c4 w5 hc4 (by simp only [maxLen] at hc4m; omega)).mono ?_
    rintro e w6 ⟨rfl, rfl⟩
    go_wp2_with (at_builtin; refine app_fullr rfl _ _ rfl rfl RL.out (by simp) (by omega) rfl RM.out (by simp) (by intro u hu; obtain ⟨i, _, rfl⟩ := List.mem_map.1 hu; rfl) (by omega) ?_; intro a6 c6 w6 ho hb6)
    have hlt5 := HT5.out.lt
    have HSB : Hid (Stb (fun b => b = w.heap.size) w6 a6 (K + n5) c6 (Rs.both K n5 ls)) := Lib.hid (by
      unfold Rs.both
      rcases ho with ⟨h0, h01, h02, h03⟩ | ho
      · have : Rs.parL K n5 (Rs.whole K n5 ls) = [] := List.eq_nil_of_length_eq_zero (by rw [HBL.out, h0])
        rw [this, List.append_nil, h01, h02, h03, h0, Nat.add_zero, ← h0]
        exact ⟨HSL.out.len, Nat.le_refl _, Nat.le_trans HSL.out.nc HSL.out.cm, HSL.out.vals⟩
      · exact HSL.out.join HSM.out (fun b hb => by omega) HVL.out HVM.out hb6 ho)
    have HT6 := Lib.hid (HT5.out.later hb6)
    clear ho hb6 HSL HSM HVL HVM RL RM HT5 HT4 hT2
    have hlt6 := HT6.out.lt
    have c1 := Lib.hid HT6.out.c1
    have c2 := Lib.hid HT6.out.f1
    have HKK : Hid (1 ≤ K) := Lib.hid h1
    go_loopw [37] (fun i wr => ∃ (k c : Nat) (a : Option Addr), k ≤ K + n5 ∧ i = .int .i64 k ∧ Onl w6 wr (fun b => b = w.heap.size) ∧ wr.cell? ⟨w.heap.size, 0, none⟩ = some (.slice a k c) ∧ wr.frozen? ⟨w.heap.size, 0, none⟩ = false ∧ AccX wr w6.heap.size a k c ((List.range k).map (Rs.repAt K n5 ls))) (fun i _ => K + n5 - (intOf i).toNat)
    case atStart => exact ⟨0, 0, none, Nat.zero_le _, rfl, Onl.refl _ _, c1.out, c2.out, AccX.nil _ _⟩
    case round =>
      clear c1 c2
      obtain ⟨k, c, a, hk, rfl, ho, c1, f1, hacc⟩ := hrel
      have hbw : Below w.heap.size w wr := HT6.out.out.trans (ho.below HT6.out.out.size (fun b hb => by omega))
      by_cases hlt : k < K + n5
      · obtain ⟨bB, oB, aB, nB, cB, eB, dB, rB⟩ := (HSB.out.at_ ho).get hlt
        subst eB
        obtain ⟨bA, oA, aA, nA, cA, eA, dA, rA⟩ := (HS.out wr hbw).get hlt
        subst eA
        have HO := Lib.hid ho
        have HBW := Lib.hid hbw
        have RA := Lib.hid rA
        have RB := Lib.hid rB
        have HACC := Lib.hid hacc
        have hnA := rA.le.1
        have hlA : (nth ls k).length = nA := rA.1
        have hat : Hid (Rs.repAt K n5 ls k = if 0 < nA then nth ls k else nth (Rs.both K n5 ls) k) := Lib.hid (by unfold Rs.repAt; rw [hlA])
        have hnA2 : Hid (nA ≤ 1000000000) := Lib.hid (by have := HN4.out k hlt; omega)
        have hnB2 : Hid (nB ≤ 1000000000) := Lib.hid (by have := HBE.out k hlt; rw [rB.1] at this; omega)
        clear ho hbw rA rB hacc hlA
        by_cases hp : 0 < nA
        · have hat2 := Lib.hid (hat.out.trans (if_pos hp))
          go_wp2_with fail
          refine wp_only ?_
          refine wp_region_order [1] [0] [2, 3] [4, 5] 4 (by rintro c a d v w ⟨h, _⟩; cases h) (by kernel_rfl) (by kernel_rfl) (fun W' => ∃ V : BW wr, W' = V.w) ⟨⟨wr.drew, (Below.refl _ _).drew⟩, rfl⟩ ?_
          simp only [opsAt, List.filterMap_cons, List.filterMap_nil, List.getElem?_cons_zero, List.getElem?_cons_succ]
          apply held_step
          · rfl
          · intro W _
            go_simp
            rfl
          refine held_nil ?_
          apply held_step
          · rfl
          · rintro _ ⟨V, rfl⟩
            have m0 := BW.cell c1 V
            go_simp
            rfl
          refine held_nil ?_
          refine walkS_step rfl (fun Kc hK => ?_)
          go_simp
          refine (rsclone_any _ _ _ _ wr.drew (RA.out.below (Below.refl _ _).drew) hnA2.out).mono ?_
          rintro en w7 ⟨a7, n7, c7, rfl, h7, hb7⟩
          obtain rfl : n7 = nA := by have := h7.bs.1; have := RA.out.1; omega
          have hb7' : Below wr.heap.size wr w7 := ((Below.refl wr.heap.size wr).drew).trans hb7
          refine hK _ _ ⟨⟨w7, hb7'⟩, rfl⟩ ?_
          clear hK
          refine walkS_step rfl (fun Kc hK => ?_)
          go_simp
          have hb8 : Below wr.heap.size wr (w7.alloc (.cells #[.slice a7 n7 c7] 25)) := hb7'.trans ((below_alloc w7 _).mono hb7'.size)
          refine hK _ _ ⟨⟨_, hb8⟩, rfl⟩ ?_
          refine walkS_nil ?_
          clear hK
          have HX8 := Lib.hid (box_new w7 (.slice a7 n7 c7) 25)
          have HB8 := Lib.hid hb8
          have HA8 := Lib.hid (HACC.out.below hb8)
          have h78 := h7.below (below_alloc w7 (.cells #[.slice a7 n7 c7] 25))
          have H78 := Lib.hid h78.bs
          have hoX : Hid (∀ x, a7 = some x → w6.heap.size ≤ x.block ∧ (∀ y, a = some y → x.block ≠ y.block)) := Lib.hid fun x hx => by
            have h9 : wr.heap.size ≤ x.block := own_new h7 x hx
            have h10 := HO.out.size
            have h11 : w6.heap.size ≤ x.block := Nat.le_trans h10 (Nat.le_trans (by simp) h9)
            exact ⟨h11, fun y hy e => by have := (HACC.out.new y hy).2; omega⟩
          have hsz8 : w6.heap.size ≤ (w7.alloc (.cells #[.slice a7 n7 c7] 25)).heap.size := Nat.le_trans HO.out.size hb8.size
          have hc8 := cell_later hb8 c1
          clear h7 hb7 hb7' hb8 h78
          refine app_accX rfl _ _ rfl w6.heap.size (by simp [Act.eval, Act.put]) HA8.out (by simp [Act.eval, Act.put]) HX8.out H78.out (fun _ x hx => (hoX.out x hx).1) (fun _ x y hx hy => (hoX.out x hx).2 y hy) (by omega) hsz8 ?_
          intro a9 c9 w9 h9 hb9
          have hlw : w.heap.size < w6.heap.size := by omega
          have hblk : w9.heap[w.heap.size]? = wr.heap[w.heap.size]? := (hb9.block _ hlw).trans (HB8.out.block _ (Nat.lt_of_lt_of_le hlw HO.out.size))
          have c9' := (World.cell?_of_block hblk).trans c1
          have f9 : w9.frozen? ⟨w.heap.size, 0, none⟩ = false := by have := f1; unfold World.frozen? at *; rw [hblk]; exact this
          have hon : Onl w6 w9 (fun b => b = w.heap.size) := ⟨hb9.os.trans (HB8.out.os.trans HO.out.os), hb9.tape.trans (HB8.out.tape.trans HO.out.tape), hb9.output.trans (HB8.out.output.trans HO.out.output), Nat.le_trans hsz8 hb9.size, fun k hk hX => (hb9.block k hk).trans ((HB8.out.block k (Nat.lt_of_lt_of_le hk HO.out.size)).trans (HO.out.block k hk hX))⟩
          have HON : Hid (Onl w6 (w9.setCell ⟨w.heap.size, 0, none⟩ (.slice a9 (k + 1) c9)) (fun b => b = w.heap.size)) := Lib.hid (hon.set rfl _)
          have HAX : Hid (AccX (w9.setCell ⟨w.heap.size, 0, none⟩ (.slice a9 (k + 1) c9)) w6.heap.size a9 (k + 1) c9 ((List.range (k + 1)).map (Rs.repAt K n5 ls))) := Lib.hid (by
            have := h9.setLow (p := ⟨w.heap.size, 0, none⟩) hlw (.slice a9 (k + 1) c9)
            rw [List.range_succ, List.map_append, List.map_singleton, hat2.out]
            exact this)
          have HC9 : Hid ((w9.setCell ⟨w.heap.size, 0, none⟩ (.slice a9 (k + 1) c9)).cell? ⟨w.heap.size, 0, none⟩ = some (.slice a9 (k + 1) c9)) := Lib.hid (World.cell?_setCell_same _ _ _ c9')
          have HF9 : Hid ((w9.setCell ⟨w.heap.size, 0, none⟩ (.slice a9 (k + 1) c9)).frozen? ⟨w.heap.size, 0, none⟩ = false) := Lib.hid (by simpa using f9)
          clear h9 hb9 hblk hon hc8
          go_wp2
          go_roundw
          case rel => exact ⟨k + 1, c9, a9, by omega, by go_num, HON.out, HC9.out, HF9.out, HAX.out⟩
          case measure => simp [intOf]; omega
        · have hat2 := Lib.hid (hat.out.trans (if_neg hp))
          go_wp2_with fail
          refine wp_only ?_
          refine wp_region_order [1] [0] [2, 3] [4, 5] 4 (by rintro c a d v w ⟨h, _⟩; cases h) (by kernel_rfl) (by kernel_rfl) (fun W' => ∃ V : BW wr, W' = V.w) ⟨⟨wr.drew, (Below.refl _ _).drew⟩, rfl⟩ ?_
          simp only [opsAt, List.filterMap_cons, List.filterMap_nil, List.getElem?_cons_zero, List.getElem?_cons_succ]
          apply held_step
          · rfl
          · intro W _
            go_simp
            rfl
          refine held_nil ?_
          apply held_step
          · rfl
          · rintro _ ⟨V, rfl⟩
            have m0 := BW.cell c1 V
            go_simp
            rfl
          refine held_nil ?_
          refine walkS_step rfl (fun Kc hK => ?_)
          go_simp
          refine (rsclone_any _ _ _ _ wr.drew (RB.out.below (Below.refl _ _).drew) hnB2.out).mono ?_
          rintro en w7 ⟨a7, n7, c7, rfl, h7, hb7⟩
          obtain rfl : n7 = nB := by have := h7.bs.1; have := RB.out.1; omega
          have hb7' : Below wr.heap.size wr w7 := ((Below.refl wr.heap.size wr).drew).trans hb7
          refine hK _ _ ⟨⟨w7, hb7'⟩, rfl⟩ ?_
          clear hK
          refine walkS_step rfl (fun Kc hK => ?_)
          go_simp
          have hb8 : Below wr.heap.size wr (w7.alloc (.cells #[.slice a7 n7 c7] 25)) := hb7'.trans ((below_alloc w7 _).mono hb7'.size)
          refine hK _ _ ⟨⟨_, hb8⟩, rfl⟩ ?_
          refine walkS_nil ?_
          clear hK
          have HX8 := Lib.hid (box_new w7 (.slice a7 n7 c7) 25)
          have HB8 := Lib.hid hb8
          have HA8 := Lib.hid (HACC.out.below hb8)
          have h78 := h7.below (below_alloc w7 (.cells #[.slice a7 n7 c7] 25))
          have H78 := Lib.hid h78.bs
          have hoX : Hid (∀ x, a7 = some x → w6.heap.size ≤ x.block ∧ (∀ y, a = some y → x.block ≠ y.block)) := Lib.hid fun x hx => by
            have h9 : wr.heap.size ≤ x.block := own_new h7 x hx
            have h10 := HO.out.size
            have h11 : w6.heap.size ≤ x.block := Nat.le_trans h10 (Nat.le_trans (by simp) h9)
            exact ⟨h11, fun y hy e => by have := (HACC.out.new y hy).2; omega⟩
          have hsz8 : w6.heap.size ≤ (w7.alloc (.cells #[.slice a7 n7 c7] 25)).heap.size := Nat.le_trans HO.out.size hb8.size
          have hc8 := cell_later hb8 c1
          clear h7 hb7 hb7' hb8 h78
          refine app_accX rfl _ _ rfl w6.heap.size (by simp [Act.eval, Act.put]) HA8.out (by simp [Act.eval, Act.put]) HX8.out H78.out (fun _ x hx => (hoX.out x hx).1) (fun _ x y hx hy => (hoX.out x hx).2 y hy) (by omega) hsz8 ?_
          intro a9 c9 w9 h9 hb9
          have hlw : w.heap.size < w6.heap.size := by omega
          have hblk : w9.heap[w.heap.size]? = wr.heap[w.heap.size]? := (hb9.block _ hlw).trans (HB8.out.block _ (Nat.lt_of_lt_of_le hlw HO.out.size))
          have c9' := (World.cell?_of_block hblk).trans c1
          have f9 : w9.frozen? ⟨w.heap.size, 0, none⟩ = false := by have := f1; unfold World.frozen? at *; rw [hblk]; exact this
          have hon : Onl w6 w9 (fun b => b = w.heap.size) := ⟨hb9.os.trans (HB8.out.os.trans HO.out.os), hb9.tape.trans (HB8.out.tape.trans HO.out.tape), hb9.output.trans (HB8.out.output.trans HO.out.output), Nat.le_trans hsz8 hb9.size, fun k hk hX => (hb9.block k hk).trans ((HB8.out.block k (Nat.lt_of_lt_of_le hk HO.out.size)).trans (HO.out.block k hk hX))⟩
          have HON : Hid (Onl w6 (w9.setCell ⟨w.heap.size, 0, none⟩ (.slice a9 (k + 1) c9)) (fun b => b = w.heap.size)) := Lib.hid (hon.set rfl _)
          have HAX : Hid (AccX (w9.setCell ⟨w.heap.size, 0, none⟩ (.slice a9 (k + 1) c9)) w6.heap.size a9 (k + 1) c9 ((List.range (k + 1)).map (Rs.repAt K n5 ls))) := Lib.hid (by
            have := h9.setLow (p := ⟨w.heap.size, 0, none⟩) hlw (.slice a9 (k + 1) c9)
            rw [List.range_succ, List.map_append, List.map_singleton, hat2.out]
            exact this)
          have HC9 : Hid ((w9.setCell ⟨w.heap.size, 0, none⟩ (.slice a9 (k + 1) c9)).cell? ⟨w.heap.size, 0, none⟩ = some (.slice a9 (k + 1) c9)) := Lib.hid (World.cell?_setCell_same _ _ _ c9')
          have HF9 : Hid ((w9.setCell ⟨w.heap.size, 0, none⟩ (.slice a9 (k + 1) c9)).frozen? ⟨w.heap.size, 0, none⟩ = false) := Lib.hid (by simpa using f9)
          clear h9 hb9 hblk hon hc8
          go_wp2
          go_roundw
          case rel => exact ⟨k + 1, c9, a9, by omega, by go_num, HON.out, HC9.out, HF9.out, HAX.out⟩
          case measure => simp [intOf]; omega
      · obtain rfl : k = K + n5 := by omega
        have c2' : wr.cell? ⟨w.heap.size + 1, 0, none⟩ = some (.int .i64 0) := ho.cell HT6.out.c2 (by omega)
        have f2' : wr.frozen? ⟨w.heap.size + 1, 0, none⟩ = false := by
          have := HT6.out.f2
          unfold World.frozen? at *
          rw [ho.block (w.heap.size + 1) hlt6 (by omega)]
          exact this
        have hTF : Two w wr (.slice a (K + n5) c) (.int .i64 0) := ⟨hbw, c1, c2', f1, f2'⟩
        have HTF := Lib.hid hTF
        have HRES : Hid (Bss ((wr.setCell ⟨w.heap.size, 0, none⟩ (.slice a (K + n5) c)).setCell ⟨w.heap.size + 1, 0, none⟩ (.int .i64 0)) a (K + n5) c (Rs.repL K n5 ls)) := Lib.hid (by
          have := ((hacc.setLow (p := ⟨w.heap.size, 0, none⟩) (by show w.heap.size < w6.heap.size; omega) (.slice a (K + n5) c)).setLow (p := ⟨w.heap.size + 1, 0, none⟩) hlt6 (.int .i64 0)).bss
          unfold Rs.repL
          rw [if_pos e1.out]
          exact this)
        clear ho hbw hacc hTF
        go_wp2
        refine door_ok (F := 87) (HRD.out _ rfl rfl) (HTF.out.set' (.int .i64 0) (.slice a (K + n5) c)) ?_
        rw [e1.out]
        exact ⟨⟨_, _, _, rfl, HRES.out⟩, (HTF.out.set' (.int .i64 0) (.slice a (K + n5) c)).out⟩
end Go.Proofs.YtfgifndpglgjkaaGreatDoor
end

section
set_option maxRecDepth 100000
set_option linter.unusedVariables false
set_option linter.unusedSimpArgs false
namespace Go.Proofs.YtfgifndpglgjkaaGreatDoor
open Go.RowKit Go.Deep

def Rs.gone (K M : Nat) (d : List UInt8) (G : List Nat) : List (List UInt8) := (List.range (K + M)).map fun i => if i ∈ G then [] else nth (Rs.all K M d) i
theorem gone_len (K M : Nat) (d : List UInt8) (G : List Nat) : (Rs.gone K M d G).length = K + M := by simp [Rs.gone]
theorem gone_at {K M : Nat} {d : List UInt8} {G : List Nat} {i : Nat} (h : i < K + M) : nth (Rs.gone K M d G) i = if i ∈ G then [] else nth (Rs.all K M d) i := by
  unfold Rs.gone; rw [nth_map_range _ h]
theorem gone_none (K M : Nat) (d : List UInt8) : Rs.gone K M d [] = Rs.all K M d :=
  list_ext_n (by rw [gone_len, Rs.all, mat_len]) fun i hi => by rw [gone_len] at hi; rw [gone_at hi]; simp
theorem gone_set {K M : Nat} {d : List UInt8} {G : List Nat} {g : Nat} (hg : g < K + M) : (Rs.gone K M d G).set g [] = Rs.gone K M d (G ++ [g]) := by
  refine list_ext_n (by rw [List.length_set, gone_len, gone_len]) fun i hi => ?_
  rw [List.length_set, gone_len] at hi
  rw [gone_at hi, nth_eq _ (by rw [List.length_set, gone_len]; exact hi), List.getElem_set]
  by_cases e : g = i
  · subst e; simp
  · rw [if_neg e, ← nth_eq, gone_at hi]
    by_cases e2 : i ∈ G
    · simp [e2]
    · have : ¬ i ∈ G ++ [g] := by simp [e2]; omega
      rw [if_neg e2, if_neg this]
theorem gone_sub (K M : Nat) (d : List UInt8) (G : List Nat) : Sub K M d (Rs.gone K M d G) :=
  ⟨gone_len _ _ _ _, fun i hi => by
    rw [gone_at hi]
    by_cases e : i ∈ G
    · left; rw [if_pos e]
    · right; rw [if_neg e]⟩
theorem gone_thr {K M : Nat} {d : List UInt8} {G : List Nat} (hn : G.Nodup) (hb : ∀ g ∈ G, g < K + M) : (Rs.thr (Rs.gone K M d G) (K + M)).length + G.length = K + M := by
  have e1 : Rs.thr (Rs.gone K M d G) (K + M) = (List.range (K + M)).filter (fun j => !decide (j ∈ G)) := by
    unfold Rs.thr
    apply List.filter_congr
    intro j hj
    have hj := List.mem_range.1 hj
    rw [gone_at hj]
    by_cases e : j ∈ G
    · simp [e]
    · rw [if_neg e, all_len hj]
      have := wd_pos K d.length
      simp [e]; omega
  have e2 := Gf.filter_split (fun j => decide (j ∈ G)) (List.range (K + M))
  have e3 : ((List.range (K + M)).filter (fun j => decide (j ∈ G))).length = G.length := by
    refine Nat.le_antisymm (Gf.len_le_of_sub (List.Pairwise.filter _ List.nodup_range) fun j hj => ?_) (Gf.len_le_of_sub hn fun j hj => ?_)
    · simpa using (List.mem_filter.1 hj).2
    · exact List.mem_filter.2 ⟨List.mem_range.2 (hb j hj), by simpa using hj⟩
  rw [e1]
  rw [List.length_range] at e2
  omega
theorem gone_lost {K M : Nat} {d : List UInt8} {G : List Nat} (hn : G.Nodup) (hb : ∀ g ∈ G, g < K + M) : Rs.lostB K (Rs.gone K M d G) = decide (M < G.length) := by
  have := gone_thr (d := d) hn hb
  unfold Rs.lostB
  rw [gone_len]
  by_cases e : M < G.length
  · rw [decide_eq_true e, decide_eq_true (by omega)]
  · rw [decide_eq_false e, decide_eq_false (by omega)]

/-! The first shards behind one another. -/
def Rs.front (K M : Nat) (d : List UInt8) (i : Nat) : List UInt8 := ((Rs.all K M d).take (min i K)).flatten
theorem front_step {K M i : Nat} {d : List UInt8} (hi : i < K) : Rs.front K M d (i + 1) = Rs.front K M d i ++ nth (Rs.all K M d) i := by
  unfold Rs.front
  rw [show min (i + 1) K = i + 1 by omega, show min i K = i by omega, take_snoc _ (by rw [Rs.all, mat_len]; omega), List.flatten_append]
  simp
theorem front_stay {K M i : Nat} {d : List UInt8} (hi : ¬ i < K) : Rs.front K M d (i + 1) = Rs.front K M d i := by
  unfold Rs.front
  rw [show min (i + 1) K = min i K by omega]
theorem front_all {K M : Nat} {d : List UInt8} : Rs.front K M d (K + M) = (List.range (K * Rs.wd K d.length)).map (nth d) := by
  unfold Rs.front
  rw [show min (K + M) K = K by omega, Rs.all, mat_take (by omega), data_flat]
theorem front_len {K M : Nat} {d : List UInt8} : ∀ i, (Rs.front K M d i).length ≤ i * Rs.wd K d.length
  | 0 => by unfold Rs.front; simp
  | i + 1 => by
    have ih := front_len (K := K) (M := M) (d := d) i
    by_cases e : i < K
    · rw [front_step e, List.length_append, all_len (by omega), Nat.add_mul, Nat.one_mul]; omega
    · rw [front_stay e, Nat.add_mul, Nat.one_mul]; omega
theorem front_pad {K M : Nat} {d : List UInt8} (hK : 1 ≤ K) : (Rs.front K M d (K + M)).length = K * Rs.wd K d.length ∧ (Rs.front K M d (K + M)).take d.length = d ∧ ∀ j, d.length ≤ j → j < K * Rs.wd K d.length → nth (Rs.front K M d (K + M)) j = 0 := by
  rw [front_all]
  refine ⟨by simp, pad_take (wd_le hK), fun j h1 h2 => ?_⟩
  rw [nth_map_range _ h2]
  exact nth_none h1
/-- No longer than they must be. -/
theorem wd_least {K n : Nat} (hK : 1 ≤ K) (h : 1 < Rs.wd K n) : (Rs.wd K n - 1) * K < n := by
  unfold Rs.wd at *
  obtain ⟨D, hD⟩ : ∃ D, (n + K - 1) / K = D := ⟨_, rfl⟩
  rw [hD] at h ⊢
  have h1 := Nat.div_add_mod (n + K - 1) K
  rw [hD] at h1
  rw [show max 1 D = D by omega]
  obtain ⟨E, rfl⟩ : ∃ E, D = E + 1 := ⟨D - 1, by omega⟩
  rw [Nat.mul_add, Nat.mul_one, Nat.mul_comm] at h1
  rw [Nat.add_sub_cancel]
  omega
end Go.Proofs.YtfgifndpglgjkaaGreatDoor
end

section
set_option linter.unusedVariables false
set_option linter.unusedSimpArgs false
namespace Go.Proofs.YtfgifndpglgjkaaGreatDoor
open Go.RowKit

section
variable {P : Program} {md : Region.Mode} {Q : Exit → Act → World → Prop} {S : World → Prop} {l : List Oper} {ts : List Nat}

/-- Behind the heads the tail follows in its order. -/
def tailL (P : Program) (l : List Oper) (Q : Exit → Act → World → Prop) (ts : List Nat) (listed : Array Bool) (a : Act) (w : World) : Prop :=
  seqL .any l.toArray ts listed = true ∧ wpList P l.toArray Q (opsAt l ts) a w
def stepsB (ops : Array Oper) (ts : List Nat) (t0 : Nat) : Bool :=
  Region.noSelect ops && sink2 .any ops (Array.replicate ops.size false) ts t0 && chain2 .any ops ts t0 && ts.all (fun k => decide (k < ops.size))
/-- The heads, n of them, S holding behind each; then the tail ts (t0 first). -/
theorem wp_region_steps {id : Nat} {a : Act} {w : World} (ts : List Nat) (t0 n : Nat) (hm : P.follows .mixedOrders = true) (hB : stepsB l.toArray ts t0 = true) (hn : n + ts.length = l.toArray.size)
    (S : World → Prop) (h : anyT P .any l.toArray Q S ts (tailL P l Q ts) n (Array.replicate l.toArray.size false) a w.drew) : (Code.region id l.toArray true).wp P Q a w := by
  simp only [stepsB, Bool.and_eq_true] at hB
  obtain ⟨⟨⟨hsel, hs⟩, hc⟩, hlt⟩ := hB
  have hlt' : ∀ k ∈ ts, k < l.length := fun k hk => by simpa using List.all_eq_true.1 hlt k hk
  have key := anyT_head (g := ts.length) (L := tailL P l Q ts) (fun listed a w hL => wpAny_seqL l ts listed a w hL.1 hlt' hL.2) _ _ _ _ h
  rw [hn] at key
  exact wp_region_any hm key
def hinvB (ops : Array Oper) (ts : List Nat) (listed : Array Bool) : Bool := decide (listed.size = ops.size) && closedB .any ops listed && ts.all (fun t => !listed.getD t true)
theorem hinv_of {ops : Array Oper} {listed : Array Bool} (h : hinvB ops ts listed = true) : HInv .any ops (Array.replicate ops.size false) ts listed := by
  simp only [hinvB, Bool.and_eq_true, decide_eq_true_eq] at h
  obtain ⟨⟨h1, h2⟩, h3⟩ := h
  refine ⟨h1, fun j oj hj hl e he hb => ?_, fun t ht hts => ?_, fun j hj => ?_⟩
  · have h4 := List.all_eq_true.1 h2 j (List.mem_range.2 (Array.getElem?_eq_some_iff.1 hj).1)
    rw [hl, hj] at h4
    simp only [Bool.not_true, Bool.false_or] at h4
    have h5 := Array.all_eq_true'.1 h4 e he
    rw [hb] at h5
    simpa using h5
  · have := List.all_eq_true.1 h3 t (by unfold inTail at ht; simpa using ht)
    simpa using this
  · rw [getD_replicate_false] at hj; cases hj
def pullB (ops : Array Oper) (ts : List Nat) (t0 : Nat) (rs : List Nat) (listed : Array Bool) : Bool :=
  stepsB ops ts t0 && hinvB ops ts listed && takeL .any ops rs listed && rs.all (fun k => decide (k < ops.size) && !inTail ts k)
/-- Heads that tell the same in every world of S are pulled ahead. -/
theorem anyT_pull (rs : List Nat) (t0 n : Nat) {listed : Array Bool} {a : Act} {w : World} (hQ : ∀ c a d v w, Q (.panic c) (Act.put a d v) w → Q (.panic c) a w) (hB : pullB l.toArray ts t0 rs listed = true) (hS : S w)
    (h : heldL P l.toArray S (fun a' => anyT P .any l.toArray Q S ts (tailL P l Q ts) n (setL listed rs) a' w) (opsAt l rs) a) : anyT P .any l.toArray Q S ts (tailL P l Q ts) (rs.length + n) listed a w := by
  simp only [pullB, stepsB, Bool.and_eq_true] at hB
  obtain ⟨⟨⟨⟨⟨⟨hsel, hs⟩, hc⟩, _⟩, hi⟩, hT⟩, hk⟩ := hB
  have inv := hinv_of hi
  clear hi
  induction rs generalizing listed a with
  | nil => rw [List.length_nil, Nat.zero_add]; exact h
  | cons k rs ih =>
    simp only [takeL, Bool.and_eq_true] at hT
    obtain ⟨⟨hr, hf⟩, hT'⟩ := hT
    simp only [List.all_cons, Bool.and_eq_true, decide_eq_true_eq, Bool.not_eq_true'] at hk
    obtain ⟨⟨hk1, hk2⟩, hk3⟩ := hk
    have hkl : k < l.length := by simpa using hk1
    have h0 : l.toArray[k]? = some (l[k]'hkl) := by simp [hkl]
    have h' : heldL P l.toArray S (fun a' => anyT P .any l.toArray Q S ts (tailL P l Q ts) n (setL (listed.setIfInBounds k true) rs) a' w) (l[k]'hkl :: opsAt l rs) a := by
      unfold opsAt at h
      rw [List.filterMap_cons, List.getElem?_eq_getElem hkl] at h
      exact h
    obtain ⟨v, hy, hK⟩ := h'
    rw [List.length_cons, show rs.length + 1 + n = (rs.length + n) + 1 by omega]
    exact anyT_first h0 (Region.noSelect_spec hsel) (fun c a w => hQ c a _ _ w) hs hc hk2 (fun listed' a' w' hL => seqL_ready hL.1) (rs.length + n) listed a w inv (Region.free_spec h0 hf) (by simpa using hr) hy hS
      (ih hK (List.all_eq_true.2 (by simpa using hk3)) hT' (inv.set (by simpa using hr) hk2))
theorem step_op {L : Array Bool → Act → World → Prop} {k f : Nat} {listed : Array Bool} {a : Act} {w : World} {o : Oper} (h0 : l[k]? = some o) (hw : Region.wanted o (yielded l.toArray a.tmps) = true)
    (h : ∀ K : Act → World → Prop, (∀ a w, S w → anyT P .any l.toArray Q S ts L f (listed.setIfInBounds k true) a w → K a w) → o.wp P a w K Q) :
    wpOp P l.toArray Q k (fun a' w' => S w' ∧ anyT P .any l.toArray Q S ts L f (listed.setIfInBounds k true) a' w') a w := by
  unfold wpOp
  simp only [List.getElem?_toArray, h0]
  rw [if_pos hw]
  exact .inl (h _ fun a w h1 h2 => ⟨h1, h2⟩)
/-- One comes next. -/
theorem anyT_one {L : Array Bool → Act → World → Prop} (k : Nat) {f : Nat} {listed : Array Bool} {a : Act} {w : World} {o : Oper} (h0 : l[k]? = some o) (hr : (Region.ready .any l.toArray listed == [k] && !inTail ts k) = true) (hw : Region.wanted o (yielded l.toArray a.tmps) = true)
    (h : ∀ K : Act → World → Prop, (∀ a w, S w → anyT P .any l.toArray Q S ts L f (listed.setIfInBounds k true) a w → K a w) → o.wp P a w K Q) : anyT P .any l.toArray Q S ts L (f + 1) listed a w := by
  simp only [Bool.and_eq_true, beq_iff_eq, Bool.not_eq_true'] at hr
  refine ⟨fun e => (by rw [hr.1] at e; cases e), fun i hi => ?_⟩
  rw [hr.1] at hi
  have : i = k := by simpa using hi
  subst this
  exact ⟨hr.2, step_op h0 hw h⟩
/-- Either of two may come next. -/
theorem anyT_two {L : Array Bool → Act → World → Prop} (k j : Nat) {f : Nat} {listed : Array Bool} {a : Act} {w : World} {o o' : Oper} (h0 : l[k]? = some o) (h0' : l[j]? = some o') (hr : (Region.ready .any l.toArray listed == [k, j] && !inTail ts k && !inTail ts j) = true)
    (hw : Region.wanted o (yielded l.toArray a.tmps) = true) (hw' : Region.wanted o' (yielded l.toArray a.tmps) = true)
    (h : ∀ K : Act → World → Prop, (∀ a w, S w → anyT P .any l.toArray Q S ts L f (listed.setIfInBounds k true) a w → K a w) → o.wp P a w K Q)
    (h' : ∀ K : Act → World → Prop, (∀ a w, S w → anyT P .any l.toArray Q S ts L f (listed.setIfInBounds j true) a w → K a w) → o'.wp P a w K Q) : anyT P .any l.toArray Q S ts L (f + 1) listed a w := by
  simp only [Bool.and_eq_true, beq_iff_eq, Bool.not_eq_true'] at hr
  refine ⟨fun e => (by rw [hr.1.1] at e; cases e), fun i hi => ?_⟩
  rw [hr.1.1] at hi
  have : i = k ∨ i = j := by simpa using hi
  rcases this with rfl | rfl
  · exact ⟨hr.1.2, step_op h0 hw h⟩
  · exact ⟨hr.2, step_op h0' hw' h'⟩
/-- The heads are done. -/
theorem anyT_done {listed : Array Bool} {a : Act} {w : World} (hB : seqL .any l.toArray ts listed = true) (h : wpList P l.toArray Q (opsAt l ts) a w) : anyT P .any l.toArray Q S ts (tailL P l Q ts) 0 listed a w := ⟨hB, h⟩
end
end Go.Proofs.YtfgifndpglgjkaaGreatDoor
end
