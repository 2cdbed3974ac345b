/- rs: whole, the shards that hold bytes. -/
import Derived.Test.YtfgifndpglgjkaaGreatDoorZQRsc
set_option linter.unusedVariables false
set_option linter.unusedSimpArgs false
set_option maxRecDepth 100000
set_option linter.unusedVariables false
namespace Go.Proofs.YtfgifndpglgjkaaGreatDoor
open Go.RowKit Go.Deep

/-- The numbers of the shards that are there, below i. -/
def Rs.thr (ls : List (List UInt8)) (i : Nat) : List Nat := (List.range i).filter fun j => decide (0 < (nth ls j).length)
def Rs.rows (K : Nat) (ls : List (List UInt8)) : List Nat := (Rs.thr ls ls.length).take K
theorem thr_yes {ls : List (List UInt8)} {i : Nat} (h : 0 < (nth ls i).length) : Rs.thr ls (i + 1) = Rs.thr ls i ++ [i] := by
  unfold Rs.thr; rw [List.range_succ, List.filter_append]; simp [h]
theorem thr_no {ls : List (List UInt8)} {i : Nat} (h : (nth ls i).length = 0) : Rs.thr ls (i + 1) = Rs.thr ls i := by
  unfold Rs.thr; rw [List.range_succ, List.filter_append]; simp [h]
theorem thr_mem {ls : List (List UInt8)} {i j : Nat} (h : j ∈ Rs.thr ls i) : j < i ∧ 0 < (nth ls j).length := by
  unfold Rs.thr at h
  rw [List.mem_filter] at h
  exact ⟨List.mem_range.1 h.1, by simpa using h.2⟩
theorem thr_nodup (ls : List (List UInt8)) (i : Nat) : (Rs.thr ls i).Nodup := by
  unfold Rs.thr
  exact List.Pairwise.filter _ List.nodup_range
def Rs.part (K M : Nat) (l : List Nat) : List (List UInt8) := mat K K (fun i j => at2 (Gf.stack K M) (l.getD i 0) j)
def Rs.got (ls : List (List UInt8)) (l : List Nat) : List (List UInt8) := l.map (nth ls)
def Rs.mend (K M : Nat) (ls : List (List UInt8)) : List (List UInt8) :=
  mat K (nth (Rs.got ls (Rs.rows K ls)) 0).length (Rs.tm (Gf.invL (Rs.part K M (Rs.rows K ls))) (Rs.got ls (Rs.rows K ls)) K)
def Rs.whole (K M : Nat) (ls : List (List UInt8)) : List (List UInt8) := if Rs.full (ls.take K) = true then ls.take K else Rs.mend K M ls
def Rs.lostB (K : Nat) (ls : List (List UInt8)) : Bool := decide ((Rs.thr ls ls.length).length < K)

/-- The inverse of the rows that are there. -/
theorem part_inv {K M : Nat} {l : List Nat} (hK : 1 ≤ K) (hM : K + M ≤ 255) (hl : l.length = K) (hn : l.Nodup) (hb : ∀ j ∈ l, j < K + M) :
    ∃ s : Gf.Mt × Gf.Mt, Gf.gauss K (at2 (Rs.part K M l)) K = some s ∧ Gf.invL (Rs.part K M l) = mat K K s.2 ∧ Gf.invE (Rs.part K M l) = 0 := by
  have hlen : (Rs.part K M l).length = K := mat_len _ _ _
  have hsq : Gf.sq (Rs.part K M l) = true := by
    unfold Gf.sq Rs.part
    rw [right_mat hK (by omega) hK (by omega), mat_len, mat_head (by omega)]
    simp
  have hg : Gf.gauss K (at2 (Rs.part K M l)) K ≠ none := Gf.pick_gauss (l := l) (fun i j hi hj => by
    unfold Rs.part
    have hm : l.getD i 0 ∈ l := by
      rw [List.getD_eq_getElem?_getD, List.getElem?_eq_getElem (by omega)]
      exact List.getElem_mem _
    rw [at2_mat hi hj, stack_at (hb _ hm) hj]
    rfl) hl hn (fun j hj => by have := hb j hj; omega) (by omega)
  cases hs : Gf.gauss K (at2 (Rs.part K M l)) K with
  | none => exact absurd hs hg
  | some s =>
    obtain ⟨h1, h2⟩ := inv_some hsq hlen hs
    exact ⟨s, rfl, h1, h2⟩

section
variable {w : World} {ops : Array Oper} {rest : List Oper} {o : Oper} {a : Act} {Q : Exit → Act → World → Prop}
theorem app_int2 (hgd : Region.wanted o (yielded ops a.tmps) = true) (s x : Operand) (ho : o.op = .call { callee := .builtin .append, args := #[s, x], argTypes := #[26, 26] })
    (B : Nat) {aq : Option Addr} {n c : Nat} {l : List Nat} (hs : a.eval s = .slice aq n c) (hown : OwnI w B aq n c l)
    {k j : Nat} (hx : a.eval x = .slice (some ⟨k, 0, none⟩) 1 1) (hcell : w.cell? ⟨k, 0, none⟩ = some (.int .i64 j)) (hb : n ≤ 1000000) (hB : B ≤ w.heap.size)
    (h : ∀ a' c' w', OwnI w' B a' (n + 1) c' (l ++ [j]) → Below B w w' → Evol w aq w' a' → wpList Tryz.prog ops Q rest (a.put o.dst (.slice a' (n + 1) c')) w') : wpList Tryz.prog ops Q (o :: rest) a w := by
  obtain ⟨i, hi, h0, h1, h2⟩ := info_parts infoInt
  have hr : Row w (some ⟨k, 0, none⟩) [.int .i64 j] := by
    intro y u hj
    cases y with
    | zero => simp at hj; subst hj; exact ⟨k, 0, rfl, hcell⟩
    | succ y => simp at hj
  refine wpList_app_own hgd s x 26 ho B 3 i (.int .i64 0) 1 8 Tryz.underlying26 hi h0 h1 h2 rfl (by decide) aq n c _ hs hown (some ⟨k, 0, none⟩) 1 1 [.int .i64 j] hx hr (by simp) (by intro u hu; simp at hu; subst hu; rfl) (by omega) (by simp only [maxLen]; omega) hB ?_
  intro a' c' w' g1 g2
  exact h a' c' w' (by unfold OwnI ints zv; simpa [ints, zv] using g1) (g2.below hB (fun x hx => by subst hx; exact (World.ownsRow.lt hown x.block rfl).1)) g2
/-- append to a matrix that is full: the result is read. -/
theorem app_matf (hgd : Region.wanted o (yielded ops a.tmps) = true) (s x : Operand) (ho : o.op = .call { callee := .builtin .append, args := #[s, x], argTypes := #[97, 97] })
    {aq : Option Addr} {n : Nat} {cs : List Value} (hs : a.eval s = .slice aq n n) (hrow : Row w aq cs) (hcl : cs.length = n)
    {ax : Option Addr} {m cx : Nat} {cs2 : List Value} (hx : a.eval x = .slice ax m cx) (hr : Row w ax cs2) (hl : cs2.length = m) (h1' : ∀ u ∈ cs2, u.oneCell' = true) (hb : n + m ≤ 1000000)
    (h : ∀ a' c' w', Row w' a' (cs ++ cs2) → n + m ≤ c' ∧ c' ≤ maxLen → Below w.heap.size w w' → wpList Tryz.prog ops Q rest (a.put o.dst (.slice a' (n + m) c')) w') : wpList Tryz.prog ops Q (o :: rest) a w := by
  obtain ⟨i, hi, h0, h1, h2⟩ := info_parts infoSs
  refine wpList_app hgd s x 97 ho w.heap.size 25 i (.slice none 0 0) 1 24 Tryz.underlying97 hi h0 h1 h2 rfl (by decide) aq n n cs hs (.inr ⟨aq, rfl, hrow, by rw [hcl]; simp, by simp only [maxLen]; omega⟩) ax m cx cs2 hx hr (by rw [hl]; simp) h1' (by omega) (by simp only [maxLen]; omega) (Nat.le_refl _) ?_
  intro a' c' w' g1 g2 g3 g4
  exact h a' c' w' g1.row ⟨g1.cap.2.1, g1.cap.2.2⟩ g3
end
theorem row_bss {w : World} {n c : Nat} {a : Option Addr} {cs : List Value} {ls : List (List UInt8)} (h : Row w a cs) (k : Elems w cs ls) (hl : cs.length = n) (h1 : n ≤ c) (h2 : c ≤ maxLen) : Bss w a n c ls := by
  refine ⟨by rw [← k.1, hl], h1, h2, fun i hi => ?_⟩
  obtain ⟨ai, ni, ci, h3, h4⟩ := k.2 i (by rw [← k.1, hl]; exact hi)
  obtain ⟨b, off, e1, e2⟩ := h i _ h3
  exact ⟨b, off, ai, ni, ci, e1, e2, h4⟩
theorem own_evol {w w' : World} {aq a' ao : Option Addr} {B e s n c : Nat} {cs : List Value} (h : w.ownsRow B e s (.slice ao n c) n cs) (k : Evol w aq w' a') (hne : ∀ x y, aq = some x → ao = some y → x.block ≠ y.block) : w'.ownsRow B e s (.slice ao n c) n cs := by
  refine ⟨h.1, ?_⟩
  rcases h.2 with h0 | ⟨g, cap, cur, h1, h2, h3, h4⟩
  · exact .inl h0
  · cases h1
    refine .inr ⟨g, _, cur, rfl, h2, ?_, h4⟩
    rw [k.1.block g (Array.getElem?_eq_some_iff.1 h3).1 ?_]
    · exact h3
    · cases aq with
      | none => simp
      | some x => have := hne x _ rfl rfl; simpa using fun e => this e.symm
theorem own_ne {w : World} {B B' e e' s s' n n' k k' : Nat} {a a' : Option Addr} {cs cs' : List Value} (h : w.ownsRow B e s (.slice a k n) k cs) (h' : w.ownsRow B' e' s' (.slice a' k' n') k' cs') (hne : e ≠ e') : ∀ x y, a = some x → a' = some y → x.block ≠ y.block := by
  rintro x y rfl rfl e1
  rcases h.2 with ⟨h1, _⟩ | ⟨g, cap, cur, h1, _, h2, _⟩
  · cases h1
  · rcases h'.2 with ⟨h3, _⟩ | ⟨g', cap', cur', h3, _, h4, _⟩
    · cases h3
    · cases h1
      cases h3
      have e2 : g = g' := e1
      subst e2
      rw [h2] at h4
      cases h4
      exact hne rfl
/-- Shards are picked: their numbers, and they. -/
structure Sm (w0 wr : World) (aR aS : Option Addr) (cR cS n : Nat) (l : List Nat) (v : Nat → Value) : Prop where
  below : Below w0.heap.size w0 wr
  ints : OwnI wr w0.heap.size aR n cR l
  rows : OwnV wr w0.heap.size aS n cS (l.map v)
  len : l.length = n
theorem Sm.start (w : World) (v : Nat → Value) : Sm w w none none 0 0 0 [] v := ⟨Below.refl _ _, World.ownsRow_nil _ _ _ _, OwnV.nil _ _, rfl⟩
theorem Sm.apart {w0 wr : World} {aR aS : Option Addr} {cR cS n : Nat} {l : List Nat} {v : Nat → Value} (h : Sm w0 wr aR aS cR cS n l v) : ∀ x y, aR = some x → aS = some y → x.block ≠ y.block :=
  own_ne h.ints h.rows (by decide)
end Go.Proofs.YtfgifndpglgjkaaGreatDoor
