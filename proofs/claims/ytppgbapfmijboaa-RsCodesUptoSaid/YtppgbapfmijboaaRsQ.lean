/- rs: Repair. -/
import Derived.Test.YtppgbapfmijboaaRsO
import Derived.Test.YtppgbapfmijboaaRsP
import Derived.Test.YtppgbapfmijboaaReads2
set_option maxRecDepth 100000
set_option linter.unusedVariables false
set_option linter.unusedSimpArgs false
namespace Go.Proofs.Ytppgbapfmijboaa
open Go.RowKit Go.Deep

theorem wp_then_only' {P : Program} {Q : Exit → Act → World → Prop} {c : Code} {K : Act → World → Prop} {a : Act} {w : World} (h : c.wp P (Exit.then K (fun _ _ _ => False)) a w) : c.wp P (Exit.then K Q) a w := by
  refine wp_mono h ?_
  intro e a' w' h'
  cases e with
  | normal => exact h'
  | exit id => exact h'.elim
  | goto l => exact h'.elim
  | ret => exact h'.elim
  | panic ch => exact h'.elim
  | outgrown => exact h'.elim
section
variable {P : Program}
theorem wpList_append_eq {w w' : World} {ops : Array Oper} {rest : List Oper} {o : Oper} {a : Act} {Q : Exit → Act → World → Prop} (hgd : Region.wanted o (yielded ops a.tmps) = true) (s x : Operand) (t : TypeId)
    (ho : o.op = .call { callee := .builtin .append, args := #[s, x], argTypes := #[t, t] }) {v1 v2 v : Value} (hs : a.eval s = v1) (hx : a.eval x = v2)
    (hr : (Builtin.append_ #[t, t] o.type #[v1, v2]).run P w = .ok v w') (h : wpList P ops Q rest (a.put o.dst v) w') : wpList P ops Q (o :: rest) a w :=
  BigFrame.wpList_want hgd fun K hK => by
    unfold Oper.wp execOp
    simp only [ho, resolve, invoke, builtin, Sem.run_bind, Sem.run_pure, Result.andThen_ok, List.map_toArray, List.map_cons, List.map_nil, hs, hx, hr]
    exact hK _ _ h
end
section
variable {w : World} {ops : Array Oper} {rest : List Oper} {o : Oper} {a : Act} {Q : Exit → Act → World → Prop}
/-- append to a slice of rows that is full. -/
theorem app_fullr (hgd : Region.wanted o (yielded ops a.tmps) = true) (s x : Operand) (ho : o.op = .call { callee := .builtin .append, args := #[s, x], argTypes := #[28, 28] })
    {aq : Option Addr} {n : Nat} {cs : List Value} (hs : a.eval s = .slice aq n n) (hrow : Row w aq cs) (hcl : cs.length = n) (hn : 0 < n)
    {ax : Option Addr} {m cx : Nat} {cs2 : List Value} (hx : a.eval x = .slice ax m cx) (hr : Row w ax cs2) (hl : cs2.length = m) (h1' : ∀ u ∈ cs2, u.oneCell' = true) (hb : n + m ≤ 1000000)
    (h : ∀ a' c' w', ((m = 0 ∧ a' = aq ∧ c' = n ∧ w' = w) ∨ OwnV w' w.heap.size a' (n + m) c' (cs ++ cs2)) → Below w.heap.size w w' → wpList Try.prog ops Q rest (a.put o.dst (.slice a' (n + m) c')) w') : wpList Try.prog ops Q (o :: rest) a w := by
  obtain ⟨i, hi, h0, h1, h2⟩ := info_parts infoSs
  by_cases hm : m = 0
  · subst hm
    have hsrc : Src Try.prog i.size 28 (.slice ax 0 cx) 0 [] w := by
      cases ax with
      | none => exact Src.ofNil w Try.underlying28 cx
      | some ad => exact Src.ofSlice w Try.underlying28 ad 0 cx [] (by simp) (by intro j u h; simp at h) (by intro u h; cases h)
    refine wpList_append_eq hgd s x 28 ho hs hx (run_append_nothing w 28 28 o.type 22 i Try.underlying28 hi aq n n (Nat.le_refl _) _ hsrc) ?_
    exact h aq n w (.inl ⟨rfl, rfl, rfl, rfl⟩) (Below.refl _ _)
  · have hz : i.zero = some (.slice none 0 0) := h0
    obtain ⟨c', w', h3, h4, h5⟩ := run_append_new w 28 o.type 22 i (.slice none 0 0) Try.underlying28 hi h0 (by rw [h1]; rfl) (by omega) aq n n cs hrow (by rw [h1, hcl]; simp) (fun e => by
      subst e
      cases cs with
      | nil => simp at hcl; omega
      | cons u cs => obtain ⟨_, _, e, _⟩ := hrow 0 u rfl; cases e) ax m cx cs2 (by rw [h1, hl]; simp) hr (by omega) (by omega) (Nat.le_refl _) (by rw [h2]; omega) (by simp only [maxLen]; omega)
    have h6 := h4 w.heap.size (Nat.le_refl _)
    rw [h1] at h6
    refine wpList_append_eq hgd s x 28 ho hs hx h3 ?_
    exact h _ c' w' (.inr h6) ((Below.refl _ _).grown (h5 none) (Nat.le_refl _) (fun k hk => by cases hk))
end
theorem own_onl {w w' : World} {X : Nat → Prop} {B n c : Nat} {a : Option Addr} {cs : List Value} (h : OwnV w B a n c cs) (k : Onl w w' X) (hX : ∀ b, X b → b < B) : OwnV w' B a n c cs := by
  refine ⟨h.1, ?_⟩
  rcases h.2 with h0 | ⟨g, cap, cur, h1, h2, h3, h4⟩
  · exact .inl h0
  · cases h1
    refine .inr ⟨g, _, cur, rfl, h2, ?_, h4⟩
    rw [k.block g (Array.getElem?_eq_some_iff.1 h3).1 (fun e => by have := hX g e; omega)]
    exact h3
/-- Two lists of shards behind one another, in a new row. -/
theorem Stb.join {X : Nat → Prop} {w w' : World} {aL aM a' : Option Addr} {n m cL cM c' : Nat} {lL lM : List (List UInt8)} (h : Stb X w aL n cL lL) (k : Stb X w aM m cM lM) (hX : ∀ b, X b → b < w.heap.size)
    {aiL aiM : Nat → Option Addr} {ciL ciM : Nat → Nat}
    (hvL : ∀ W, Onl w W X → ∀ i, i < n → (∃ b off, aL = some ⟨b, off, none⟩ ∧ W.cell? ⟨b, off + i, none⟩ = some (.slice (aiL i) (nth lL i).length (ciL i))) ∧ Bs W (aiL i) (nth lL i).length (ciL i) (nth lL i))
    (hvM : ∀ W, Onl w W X → ∀ i, i < m → (∃ b off, aM = some ⟨b, off, none⟩ ∧ W.cell? ⟨b, off + i, none⟩ = some (.slice (aiM i) (nth lM i).length (ciM i))) ∧ Bs W (aiM i) (nth lM i).length (ciM i) (nth lM i))
    (hb : Below w.heap.size w w')
    (ho : OwnV w' w.heap.size a' (n + m) c' (((List.range n).map fun i => Value.slice (aiL i) (nth lL i).length (ciL i)) ++ ((List.range m).map fun i => Value.slice (aiM i) (nth lM i).length (ciM i)))) :
    Stb X w' a' (n + m) c' (lL ++ lM) := by
  have hn := h.len
  have hm := k.len
  refine ⟨by rw [List.length_append, hn, hm], ho.len.2.1, ho.len.2.2, fun i => if i < n then aiL i else aiM (i - n), fun i => if i < n then ciL i else ciM (i - n), fun W hW i hi => ?_⟩
  have hW0 : Onl w W X := (Onl.of_below hb).trans hW
  have hrow := Row.of_own (own_onl ho hW hX : World.ownsRow _ _ _ _ _ _ _)
  by_cases e : i < n
  · simp only [if_pos e]
    rw [nth_append_left _ _ (by omega)]
    exact ⟨hrow i _ (by rw [List.getElem?_append_left (by simpa using e)]; simp [e]), (hvL W hW0 i e).2⟩
  · simp only [if_neg e]
    have e2 : nth (lL ++ lM) i = nth lM (i - n) := by
      rw [nth_eq _ (by rw [List.length_append]; omega), nth_eq _ (by omega), List.getElem_append_right (by omega)]
      congr 1; omega
    rw [e2]
    exact ⟨hrow i _ (by rw [List.getElem?_append_right (by simp; omega)]; simp only [List.length_map, List.length_range]; rw [List.getElem?_map, List.getElem?_range (by omega)]; rfl), (hvM W hW0 (i - n) (by omega)).2⟩
theorem vals_row {w : World} {a : Option Addr} {n : Nat} {v : Nat → Value} (h : ∀ i, i < n → ∃ b off, a = some ⟨b, off, none⟩ ∧ w.cell? ⟨b, off + i, none⟩ = some (v i)) : Row w a ((List.range n).map v) := by
  intro j u hu
  have hj : j < n := by
    rcases Nat.lt_or_ge j n with h' | h'
    · exact h'
    · rw [List.getElem?_eq_none (by simp; omega)] at hu; cases hu
  obtain ⟨b, off, h1, h2⟩ := h j hj
  simp [hj] at hu
  exact ⟨b, off, h1, by rw [h2, hu]⟩
theorem MOwn.stb {X : Nat → Prop} {ls : List (List UInt8)} {er : Int} {w w' : World} {e : Ending} (h : MOwn ls er w e w') (hX : ∀ b, X b → b < w.heap.size) : ∃ a n c, e = .returned (.tuple #[.slice a n c, .int .i64 er]) ∧ Stb X w' a n c ls := by
  obtain ⟨⟨a, n, c, h1, h2, h3⟩, hb⟩ := h
  refine ⟨a, n, c, h1, ?_⟩
  rcases h3 with ⟨rfl, rfl⟩ | ⟨g, C, bl, cp, Z, rfl, hm, hz⟩
  · have := h2.1
    obtain rfl : ls = [] := List.eq_nil_of_length_eq_zero this
    exact ⟨rfl, h2.2.1, h2.2.2.1, fun _ => none, fun _ => 0, fun W hW i hi => by omega⟩
  · rw [hz]
    exact hm.stb hX h2.2.1 h2.2.2.1
/-- All that whole tells is of one length. -/
theorem whole_even {K M m : Nat} {ls : List (List UInt8)} (hK : 1 ≤ K) (hl : ls.length = K + M) (hsc : Rs.sc ls = some m) (hlo : Rs.lostB K ls = false) :
    (Rs.whole K M ls).length = K ∧ Rs.parOk K (Rs.whole K M ls) = true ∧ ∀ i, i < K → (nth (Rs.whole K M ls) i).length = m := by
  obtain ⟨f1, f2, f3⟩ := rows_facts hl hlo
  have hmem : ∀ i, i < K → (Rs.rows K ls).getD i 0 ∈ Rs.rows K ls := fun i hi => by
    rw [List.getD_eq_getElem?_getD, List.getElem?_eq_getElem (by omega)]
    exact List.getElem_mem _
  unfold Rs.whole
  by_cases hf : Rs.full (ls.take K) = true
  · rw [if_pos hf]
    have hlen : (ls.take K).length = K := by rw [List.length_take]; omega
    refine ⟨hlen, ?_, fun i hi => ?_⟩
    · obtain ⟨t, ht⟩ := sc_take hsc K
      unfold Rs.parOk Rs.alk
      rw [if_pos hlen, ht, hf]; rfl
    · have h1 := full_at hf (k := i) (by omega)
      rw [nth_take ls hi (by omega)] at h1 ⊢
      rcases sc_len hsc (i := i) (by omega) with h | h
      · exact absurd h h1
      · exact h
  · rw [if_neg hf]
    have hm0 : (nth (Rs.got ls (Rs.rows K ls)) 0).length = m := by
      rw [got_row (by omega)]
      have := f3 _ (hmem 0 (by omega))
      have := sc_len hsc (i := (Rs.rows K ls).getD 0 0) (by omega)
      omega
    have hpos : 0 < m := by
      have := f3 _ (hmem 0 (by omega))
      have := sc_len hsc (i := (Rs.rows K ls).getD 0 0) (by omega)
      omega
    unfold Rs.mend
    rw [hm0]
    exact ⟨mat_len _ _ _, even_ok hpos, fun i hi => by rw [mat_row hi]; simp⟩
theorem both_len {K M m : Nat} {ls : List (List UInt8)} (hK : 1 ≤ K) (hl : ls.length = K + M) (hsc : Rs.sc ls = some m) (hlo : Rs.lostB K ls = false) : (Rs.parL K M (Rs.whole K M ls)).length = M := by
  obtain ⟨_, h2, _⟩ := whole_even hK hl hsc hlo
  unfold Rs.parL
  rw [if_pos h2]
  exact mat_len _ _ _
end Go.Proofs.Ytppgbapfmijboaa
