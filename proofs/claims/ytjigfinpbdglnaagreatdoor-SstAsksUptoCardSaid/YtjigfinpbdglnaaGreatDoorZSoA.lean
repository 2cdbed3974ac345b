/- Sorted tables: rows of entries whose bytes lie in rows of bytes; a reader, whatever it reads. -/
import Derived.Test.YtjigfinpbdglnaaGreatDoorZSbP
set_option linter.unusedVariables false
set_option linter.unusedSimpArgs false
set_option maxRecDepth 100000
set_option linter.unusedVariables false
set_option linter.unusedSimpArgs false
namespace Go.Proofs.YtjigfinpbdglnaaGreatDoor
open Go.RowKit

/-! Rows of unlike types lie in unlike blocks. -/
theorem own_oth {w w' : World} {B T s n bk : Nat} {v : Value} {cs : List Value} {X : Array Value} {T' : TypeId} {fz : Nat × Nat} (h : w.ownsRow B T s v n cs) (k : Oth (some ⟨bk, 0, none⟩) w w') (hb : w.heap[bk]? = some (.cells X T' fz)) (hT : T ≠ T') : w'.ownsRow B T s v n cs := by
  refine ⟨h.1, ?_⟩
  rcases h.2 with g | ⟨g, cap, cur, g1, g2, g3, g4⟩
  · exact .inl g
  · refine .inr ⟨g, cap, cur, g1, g2, (k.block g (Array.getElem?_eq_some_iff.1 g3).1 (fun x hx e => ?_)).trans g3, g4⟩
    cases hx
    simp only at e
    subst e
    rw [hb] at g3
    cases g3
    exact hT rfl
theorem town_ne {w : World} {B B' T T' s s' n n' k k' c c' : Nat} {a a' : Option Addr} {cs cs' : List Value} (h : w.ownsRow B T s (.slice a n c) k cs) (h' : w.ownsRow B' T' s' (.slice a' n' c') k' cs') (hT : T ≠ T') {x y : Addr} (hx : a = some x) (hy : a' = some y) : x.block ≠ y.block := by
  subst hx hy
  rcases h.2 with ⟨g, _⟩ | ⟨g, cap, cur, g1, g2, g3, g4⟩
  · cases g
  · rcases h'.2 with ⟨q, _⟩ | ⟨q, cap', cur', q1, q2, q3, q4⟩
    · cases q
    · cases g1; cases q1
      intro e
      simp only at e
      subst e
      rw [g3] at q3
      cases q3
      exact hT rfl
theorem town_evol {w w' : World} {B Bo T To s so n no ko co : Nat} {v : Value} {ao ao' : Option Addr} {cs cso : List Value} (h : w.ownsRow B T s v n cs) (ho : w.ownsRow Bo To so (.slice ao no co) ko cso) (hT : T ≠ To) (k : Evol w ao w' ao') : w'.ownsRow B T s v n cs := by
  refine h.kept k.1 ?_
  rcases h.2 with ⟨g, _⟩ | ⟨g, cap, cur, g1, g2, g3, g4⟩
  · subst g; exact .inl rfl
  · subst g1
    refine .inr fun e => ?_
    cases ao with
    | none => cases e
    | some y => exact town_ne h ho hT rfl rfl (by simpa [Value.ownBlock] using e)
/-- An entry in a row; its bytes lie in a row of bytes. -/
def EntOwn (w : World) (cs : List Value) (i : Nat) (e : Ent) : Prop := ∃ ai ci, (∀ j v, (entCells e ai ci)[j]? = some v → cs[i * 4 + j]? = some v) ∧ Own w 0 ai e.val.length ci e.val
structure AccV (w : World) (B : Nat) (a : Option Addr) (n c : Nat) (l : List Ent) : Prop where
  len : l.length = n
  row : ∃ cs, w.ownsRow B 37 4 (.slice a n c) n cs ∧ ∀ i, i < n → EntOwn w cs i (nth l i)
theorem AccV.e {w : World} {B n c : Nat} {a : Option Addr} {l : List Ent} (h : AccV w B a n c l) : AccE w B a n c l := by
  obtain ⟨cs, h1, h2⟩ := h.row
  refine ⟨h.len, cs, h1, fun i hi => ?_⟩
  obtain ⟨ai, ci, g1, g2⟩ := h2 i hi
  exact ⟨ai, ci, g1, g2.bs, fun _ x y hx hy => town_ne g2 h1 (by decide) hx hy⟩
theorem AccV.nil (w : World) (B : Nat) : AccV w B none 0 0 [] := ⟨rfl, [], World.ownsRow_nil w B _ _, fun i hi => by omega⟩
theorem AccV.below {w w' : World} {B n c : Nat} {a : Option Addr} {l : List Ent} (h : AccV w B a n c l) (hb : Below w.heap.size w w') : AccV w' B a n c l := by
  obtain ⟨cs, h1, h2⟩ := h.row
  exact ⟨h.len, cs, own_below h1 hb, fun i hi => by obtain ⟨ai, ci, g1, g2⟩ := h2 i hi; exact ⟨ai, ci, g1, own_below g2 hb⟩⟩
theorem AccV.mono {w : World} {B B' n c : Nat} {a : Option Addr} {l : List Ent} (h : AccV w B a n c l) (hB : B' ≤ B) : AccV w B' a n c l := by
  obtain ⟨cs, h1, h2⟩ := h.row
  exact ⟨h.len, cs, own_mono h1 hB, h2⟩
theorem AccV.oth {w w' : World} {B n c bk : Nat} {a : Option Addr} {l : List Ent} {X : Array Value} {T' : TypeId} {fz : Nat × Nat} (h : AccV w B a n c l) (k : Oth (some ⟨bk, 0, none⟩) w w') (hb : w.heap[bk]? = some (.cells X T' fz)) (h1 : 37 ≠ T') (h2 : 5 ≠ T') : AccV w' B a n c l := by
  obtain ⟨cs, g1, g2⟩ := h.row
  exact ⟨h.len, cs, own_oth g1 k hb h1, fun i hi => by obtain ⟨ai, ci, q1, q2⟩ := g2 i hi; exact ⟨ai, ci, q1, own_oth q2 k hb h2⟩⟩
theorem AccV.evol {w w' : World} {B Bo n c no co ko To so : Nat} {a ao ao' : Option Addr} {l : List Ent} {cso : List Value} (h : AccV w B a n c l) (ho : w.ownsRow Bo To so (.slice ao no co) ko cso) (h1 : 37 ≠ To) (h2 : 5 ≠ To) (k : Evol w ao w' ao') : AccV w' B a n c l := by
  obtain ⟨cs, g1, g2⟩ := h.row
  exact ⟨h.len, cs, town_evol g1 ho h1 k, fun i hi => by obtain ⟨ai, ci, q1, q2⟩ := g2 i hi; exact ⟨ai, ci, q1, town_evol q2 ho h2 k⟩⟩
theorem AccV.join {w w' : World} {B n c c' m : Nat} {a a' : Option Addr} {l l2 : List Ent} {cs cs2 : List Value} (hl : l.length = n) (h1 : w.ownsRow B 37 4 (.slice a n c) n cs) (h2 : ∀ i, i < n → EntOwn w cs i (nth l i))
    (hm : l2.length = m) (hl2 : cs2.length = m * 4) (h3 : ∀ i, i < m → EntOwn w cs2 i (nth l2 i)) (h : w'.ownsRow B 37 4 (.slice a' (n + m) c') (n + m) (cs ++ cs2)) (hev : Evol w a w' a') : AccV w' B a' (n + m) c' (l ++ l2) := by
  have hcl : cs.length = n * 4 := h1.1
  refine ⟨by simp [hl, hm], cs ++ cs2, h, fun i hi => ?_⟩
  by_cases ei : i < n
  · rw [nth_append_left _ _ (by omega)]
    obtain ⟨ai, ci, g1, g2⟩ := h2 i ei
    exact ⟨ai, ci, fun j v hj => by
      have := g1 j v hj
      rw [List.getElem?_append_left (List.getElem?_eq_some_iff.1 this).1]
      exact this, town_evol g2 h1 (by decide) hev⟩
  · obtain ⟨ai, ci, g1, g2⟩ := h3 (i - n) (by omega)
    have e1 : nth (l ++ l2) i = nth l2 (i - n) := by
      rw [nth_eq _ (by simp; omega), nth_eq _ (by omega), List.getElem_append_right (by omega)]
      simp [hl]
    rw [e1]
    exact ⟨ai, ci, fun j v hj => by
      rw [List.getElem?_append_right (by omega), hcl, show i * 4 + j - n * 4 = (i - n) * 4 + j by omega]
      exact g1 j v hj, town_evol g2 h1 (by decide) hev⟩
theorem AccV.one {w : World} {cs : List Value} {l : List Ent} (hl : cs.length = l.length * 4) (h : ∀ i, i < l.length → EntOwn w cs i (nth l i)) : ∀ u ∈ cs, u.oneCell' = true := fun u hu => by
  obtain ⟨q, hq, rfl⟩ := List.mem_iff_getElem.1 hu
  have hi : q / 4 < l.length := by omega
  obtain ⟨ai, ci, h1, _⟩ := h (q / 4) hi
  have hj : q % 4 < (entCells (nth l (q / 4)) ai ci).length := by show q % 4 < 4; omega
  have h2 := h1 (q % 4) _ (List.getElem?_eq_getElem hj)
  rw [show q / 4 * 4 + q % 4 = q by omega, List.getElem?_eq_getElem hq] at h2
  have h3 : cs[q] = (entCells (nth l (q / 4)) ai ci)[q % 4] := by simpa using h2
  rw [h3]
  exact entCells_one _ ai ci _ (List.getElem_mem _)
section
variable {w : World} {ops : Array Oper} {rest : List Oper} {o : Oper} {a : Act} {Q : Exit → Act → World → Prop}
/-- append of one entry. -/
theorem app_entV (hgd : Region.wanted o (yielded ops a.tmps) = true) (s x : Operand) (ho : o.op = .call { callee := .builtin .append, args := #[s, x], argTypes := #[30, 30] })
    (B : Nat) {aq : Option Addr} {n c : Nat} {l : List Ent} (hs : a.eval s = .slice aq n c) (hacc : AccV w B aq n c l)
    {k : Nat} {e : Ent} {ae : Option Addr} {ce : Nat} (hx : a.eval x = .slice (some ⟨k, 0, none⟩) 1 1) (hcell : EntAt w k 0 e ae ce) (he : Own w 0 ae e.val.length ce e.val)
    (hb : n ≤ 1000000000) (hB : B ≤ w.heap.size)
    (h : ∀ a' c' w', AccV w' B a' (n + 1) c' (l ++ [e]) → Below B w w' → Evol w aq w' a' → wpList Tryz.prog ops Q rest (a.put o.dst (.slice a' (n + 1) c')) w') : wpList Tryz.prog ops Q (o :: rest) a w := by
  obtain ⟨i, hi, h0, h1, h2⟩ := info_parts infoE
  obtain ⟨cs, hown, hin⟩ := hacc.row
  have hr : Row w (some ⟨k, 0, none⟩) (entCells e ae ce) := fun j v hj => ⟨k, 0, rfl, hcell.cells j v hj⟩
  refine wpList_app_own hgd s x 30 ho B 37 i (.agg #[.string ByteArray.empty, .int .u64 0, .bool false, .slice none 0 0]) 4 56 Tryz.underlying30 hi h0 h1 h2 rfl (by decide) aq n c cs hs hown (some ⟨k, 0, none⟩) 1 1 (entCells e ae ce) hx hr rfl (entCells_one e ae ce) (by omega) (by simp only [maxLen]; omega) hB ?_
  intro a' c' w' g1 g2
  exact h a' c' w' (AccV.join hacc.len hown hin (m := 1) (l2 := [e]) rfl rfl (fun i hi => by
    obtain rfl : i = 0 := by omega
    exact ⟨ae, ce, fun j v hj => by rw [Nat.zero_mul, Nat.zero_add]; exact hj, he⟩) g1 g2) (g2.below hB (fun x hx => by subst hx; exact (World.ownsRow.lt hown x.block rfl).1)) g2
/-- append of a row of entries. -/
theorem app_entsV (hgd : Region.wanted o (yielded ops a.tmps) = true) (s x : Operand) (ho : o.op = .call { callee := .builtin .append, args := #[s, x], argTypes := #[30, 30] })
    (B : Nat) {aq : Option Addr} {n c : Nat} {l : List Ent} (hs : a.eval s = .slice aq n c) (hacc : AccV w B aq n c l)
    {ax : Option Addr} {m cx Bx : Nat} {l2 : List Ent} (hx : a.eval x = .slice ax m cx) (hr : AccV w Bx ax m cx l2)
    (hb : n + m ≤ 1000000000) (hB : B ≤ w.heap.size)
    (h : ∀ a' c' w', AccV w' B a' (n + m) c' (l ++ l2) → Below B w w' → Evol w aq w' a' → wpList Tryz.prog ops Q rest (a.put o.dst (.slice a' (n + m) c')) w') : wpList Tryz.prog ops Q (o :: rest) a w := by
  obtain ⟨i, hi, hz, h1, h2⟩ := info_parts infoE
  obtain ⟨cs, hown, hin⟩ := hacc.row
  obtain ⟨cs2, hown2, hin2⟩ := hr.row
  have hll := hr.len
  refine wpList_app_own hgd s x 30 ho B 37 i (.agg #[.string ByteArray.empty, .int .u64 0, .bool false, .slice none 0 0]) 4 56 Tryz.underlying30 hi hz h1 h2 rfl (by decide) aq n c cs hs hown ax m cx cs2 hx (Row.of_own hown2) hown2.1 (AccV.one (l := l2) (by rw [hll]; exact hown2.1) (fun i hi => hin2 i (by omega))) (by omega) (by simp only [maxLen]; omega) hB ?_
  intro a' c' w' g1 g2
  exact h a' c' w' (AccV.join hacc.len hown hin hll hown2.1 hin2 g1 g2) (g2.below hB (fun x hx => by subst hx; exact (World.ownsRow.lt hown x.block rfl).1)) g2
end
theorem es_of_row {w : World} {a : Option Addr} {n c : Nat} {l : List Ent} {cs : List Value} (hl : l.length = n) (h1 : n ≤ c) (h2 : c ≤ maxLen) (hr : Row w a cs) (h : ∀ i, i < n → ∃ ai ci, (∀ j v, (entCells (nth l i) ai ci)[j]? = some v → cs[i * 4 + j]? = some v) ∧ Bs w ai (nth l i).val.length ci (nth l i).val) : Es w a n c l := by
  refine ⟨hl, h1, h2, fun i hi => ?_⟩
  obtain ⟨ai, ci, g1, g2⟩ := h i hi
  obtain ⟨b, off, rfl, k0⟩ := hr (i * 4 + 0) _ (g1 0 _ rfl)
  refine ⟨b, off, ai, ci, rfl, EntAt.of_cells fun j v hj => ?_, g2⟩
  obtain ⟨b', off', e, k⟩ := hr (i * 4 + j) v (g1 j v hj)
  cases e
  rw [show off + i * 4 + j = off + (i * 4 + j) by omega]
  exact k
/-- append to a slice that is full. -/
theorem step_app_full {w : World} {o : Oper} {a : Act} {K : Act → World → Prop} {Q : Exit → Act → World → Prop} (s x : Operand) (ho : o.op = .call { callee := .builtin .append, args := #[s, x], argTypes := #[30, 30] })
    {aq : Option Addr} {n : Nat} {l : List Ent} (hs : a.eval s = .slice aq n n) (hes : Es w aq n n l)
    {ax : Option Addr} {m cx : Nat} {l2 : List Ent} (hx : a.eval x = .slice ax m cx) (hes2 : Es w ax m cx l2) (hb : n + m ≤ 1000000000)
    (h : ∀ a' c' w', Es w' a' (n + m) c' (l ++ l2) → Below w.heap.size w w' → K (a.put o.dst (.slice a' (n + m) c')) w') : o.wp Tryz.prog a w K Q := by
  obtain ⟨i, hi, hz, h1, h2⟩ := info_parts infoE
  obtain ⟨cs, hl1, hr1, hin1⟩ := es_cells n hes.2.2.2
  obtain ⟨cs2, hl2, hr2, hin2⟩ := es_cells m hes2.2.2.2
  have hone : ∀ u ∈ cs2, u.oneCell' = true := fun u hu => by
    obtain ⟨q, hq, rfl⟩ := List.mem_iff_getElem.1 hu
    obtain ⟨ai, ci, g1, _⟩ := hin2 (q / 4) (by omega)
    have hj : q % 4 < (entCells (nth l2 (q / 4)) ai ci).length := by show q % 4 < 4; omega
    have g2 := g1 (q % 4) _ (List.getElem?_eq_getElem hj)
    rw [show q / 4 * 4 + q % 4 = q by omega, List.getElem?_eq_getElem hq] at g2
    have g3 : cs2[q] = (entCells (nth l2 (q / 4)) ai ci)[q % 4] := by simpa using g2
    rw [g3]
    exact entCells_one _ ai ci _ (List.getElem_mem _)
  obtain ⟨a', c', w', hr', g1, _, g3, g4⟩ := run_append_app (P := Tryz.prog) w w.heap.size 30 o.type 37 i (.agg #[.string ByteArray.empty, .int .u64 0, .bool false, .slice none 0 0]) 4 56 Tryz.underlying30 hi hz h1 h2 rfl (by decide) aq n n cs (.inr ⟨aq, rfl, hr1, hl1, hes.2.2.1⟩) ax m cx cs2 hl2 hr2 hone (by omega) (by simp only [maxLen]; omega) (Nat.le_refl _)
  unfold Oper.wp execOp
  simp only [ho, resolve, invoke, builtin, Sem.run_bind, Sem.run_pure, Result.andThen_ok, List.map_toArray, List.map_cons, List.map_nil, hs, hx, hr']
  have hcap := g1.cap
  have hll := hes.1
  have hll2 := hes2.1
  refine h a' c' w' (es_of_row (by simp [hll, hll2]) hcap.2.1 hcap.2.2 g1.row fun j hj => ?_) g3
  by_cases e : j < n
  · obtain ⟨ai, ci, q1, q2⟩ := hin1 j e
    rw [nth_append_left _ _ (by omega)]
    exact ⟨ai, ci, fun q v hq => by rw [List.getElem?_append_left (List.getElem?_eq_some_iff.1 (q1 q v hq)).1]; exact q1 q v hq, q2.below g3⟩
  · obtain ⟨ai, ci, q1, q2⟩ := hin2 (j - n) (by omega)
    have e1 : nth (l ++ l2) j = nth l2 (j - n) := by
      rw [nth_eq _ (by simp; omega), nth_eq _ (by omega), List.getElem_append_right (by omega)]
      simp [hll]
    rw [e1]
    exact ⟨ai, ci, fun q v hq => by
      rw [List.getElem?_append_right (by omega), hl1, show j * 4 + q - n * 4 = (j - n) * 4 + q by omega]
      exact q1 q v hq, q2.below g3⟩

/-! Bytes that are read: the call's own. -/
def RetRO (w : World) (r : List UInt8 × Nat × Nat) (e : Ending) (w' : World) : Prop := ∃ a n c, e = .returned (.tuple #[.slice a n c, .int .i64 r.2.1, .int .i64 r.2.2]) ∧ Own w' w.heap.size a n c r.1 ∧ Below w.heap.size w w'
set_option maxHeartbeats 1000000 in
theorem readframe_own (a : Option Addr) (n c : Nat) (l : List UInt8) (w : World) (h : Bs w a n c l) (hf : Fits n) :
    Calls Tryz.prog 47 #[.slice a n c] w (RetRO w (Codec.rdFrame l)) := by
  have hle := h.le.1
  have hlc := h.2.1
  have HL := Lib.hid h.1
  by_cases h0 : (Codec.decFrame l).2.2 = 0
  · obtain ⟨v, k, hd, _, hv4, _, hdf, _, hle4⟩ := Codec.decFrame_ok h0
    have hr : Codec.rdFrame l = ((l.drop (k + 4)).take v, k + 4 + v, 0) := by
      unfold Codec.rdFrame; rw [if_pos h0, hdf]; simp
    rw [HL.out] at hv4 hle4
    have hc4 : k + 4 + v ≤ c := by omega
    have HR := Lib.hid hr
    have HD := Lib.hid hdf
    clear hd hdf h0 hr
    have hs := fun w => slice_lh a n c (lo := (k : Int) + 4) (hi := (k : Int) + 4 + (v : Int)) (lo' := k + 4) (hi' := k + 4 + v) (by omega) (by omega) (by omega) hc4 w
    rw [show k + 4 + v - (k + 4) = v by omega] at hs
    have hp := h.sub (lo := k + 4) (hi := k + 4 + v) (by omega) (by omega)
    rw [show k + 4 + v - (k + 4) = v by omega] at hp
    go_enter Tryz.func47, Tryz.ntmps47
    go_wp2_with fail
    refine (frameread_any _ _ _ l _ h).mono ?_
    rintro e w1 ⟨rfl, hb1⟩
    rw [HD.out]
    go_wp2_with fail
    refine (clone_any _ _ _ _ _ (hp.below hb1) ⟨by have := hf.le; omega⟩).mono ?_
    rintro e w2 ⟨a2, n2, c2, rfl, ho2, hb2⟩
    go_wp2
    go_ret3
    exact ⟨_, _, _, by rw [HR.out]; rfl, by rw [HR.out]; exact own_mono ho2 hb1.size, hb1.trans (hb2.mono hb1.size)⟩
  · have hr : Codec.rdFrame l = ([], 0, (Codec.decFrame l).2.2) := by unfold Codec.rdFrame; rw [if_neg h0]
    have hz : (Codec.decFrame l).1 = 0 ∧ (Codec.decFrame l).2.1 = 0 := by
      unfold Codec.decFrame at h0 ⊢
      split
      · exact ⟨rfl, rfl⟩
      · split
        · exact ⟨rfl, rfl⟩
        · split
          · exact ⟨rfl, rfl⟩
          · split
            · rename_i g1 g2 g3 g4; rw [if_neg g1, if_neg g2, if_neg g3, if_pos g4] at h0; exact absurd rfl h0
            · exact ⟨rfl, rfl⟩
    obtain ⟨er, hd⟩ : ∃ er, Codec.decFrame l = (0, 0, er) := ⟨(Codec.decFrame l).2.2, Prod.ext hz.1 (Prod.ext hz.2 rfl)⟩
    rw [hd] at hr h0
    have HR := Lib.hid hr
    have HD := Lib.hid hd
    have t1 : ((er : Int) != 0) = true := by simp; simpa using h0
    clear hr hz h0 hd
    go_enter Tryz.func47, Tryz.ntmps47
    go_wp2_with fail
    refine (frameread_any _ _ _ l _ h).mono ?_
    rintro e w1 ⟨rfl, hb1⟩
    rw [HD.out]
    go_wp2
    go_ret3
    exact ⟨_, _, _, by rw [HR.out]; rfl, by rw [HR.out]; exact World.ownsRow_nil _ _ _ _, hb1⟩

set_option maxHeartbeats 1000000 in
theorem readbytes_own (a : Option Addr) (n c : Nat) (l : List UInt8) (most : Int) (w : World) (h : Bs w a n c l) (hf : Fits n) (hm1 : -9223372036854775808 ≤ most) (hm2 : most ≤ 9223372036854775807) :
    Calls Tryz.prog 103 #[.slice a n c, .int .i64 most] w (RetRO w (Codec.rdBytes l most)) := by
  have hle := h.le.1
  have hlc := h.2.1
  have HL := Lib.hid h.1
  obtain ⟨v, k, er, hd⟩ : ∃ v k er, Codec.dec l = (v, k, er) := ⟨_, _, _, rfl⟩
  have HD := Lib.hid hd
  have hmx : (if most < 0 then (0 : Int) else most) = ((most.toNat : Nat) : Int) := by split <;> omega
  by_cases h1 : er = 0
  · subst h1
    have hb := Codec.dec_back hd
    rw [HL.out] at hb
    obtain ⟨_, hk0, hkn, hk10, hv64⟩ := hb
    have HV := Lib.hid hv64
    clear hv64
    by_cases h2 : most.toNat < v
    · have hr : Codec.rdBytes l most = ([], 0, 3) := by unfold Codec.rdBytes; rw [HD.out]; simp [h2]
      have HR := Lib.hid hr
      have t2 : decide (most.toNat < v) = true := by simp; omega
      clear hd hr
      go_enter Tryz.func103, Tryz.ntmps103
      go_wp2_with fail
      refine (readnum_any _ _ _ l _ h).mono ?_
      rintro e w1 ⟨rfl, rfl⟩
      rw [HD.out]
      go_wp2
      go_ret3
      exact ⟨_, _, _, by rw [HR.out]; rfl, by rw [HR.out]; exact World.ownsRow_nil _ _ _ _, Below.refl _ _⟩
    · have t2 : decide (most.toNat < v) = false := by simp; omega
      by_cases h3 : n - k < v
      · have hr : Codec.rdBytes l most = ([], 0, 11) := by unfold Codec.rdBytes; rw [HD.out, HL.out]; simp [h2, h3]
        have HR := Lib.hid hr
        have t3 : decide ((n : Int) - (k : Int) < (v : Int)) = true := by simp; omega
        clear hd hr
        go_enter Tryz.func103, Tryz.ntmps103
        go_wp2_with fail
        refine (readnum_any _ _ _ l _ h).mono ?_
        rintro e w1 ⟨rfl, rfl⟩
        rw [HD.out]
        go_wp2
        go_ret3
        exact ⟨_, _, _, by rw [HR.out]; rfl, by rw [HR.out]; exact World.ownsRow_nil _ _ _ _, Below.refl _ _⟩
      · have t3 : decide ((n : Int) - (k : Int) < (v : Int)) = false := by simp; omega
        have hr : Codec.rdBytes l most = ((l.drop k).take v, k + v, 0) := by unfold Codec.rdBytes; rw [HD.out, HL.out]; simp [h2, h3]
        have HR := Lib.hid hr
        have hc4 : k + v ≤ c := by omega
        clear hd hr
        have hs := fun w => slice_lh a n c (lo := (k : Int)) (hi := (k : Int) + (v : Int)) (lo' := k) (hi' := k + v) rfl (by omega) (by omega) hc4 w
        rw [show k + v - k = v by omega] at hs
        have hp := h.sub (lo := k) (hi := k + v) (by omega) (by omega)
        rw [show k + v - k = v by omega] at hp
        go_enter Tryz.func103, Tryz.ntmps103
        go_wp2_with fail
        refine (readnum_any _ _ _ l _ h).mono ?_
        rintro e w1 ⟨rfl, rfl⟩
        rw [HD.out]
        go_wp2_with fail
        refine (clone_any _ _ _ _ _ hp ⟨by have := hf.le; omega⟩).mono ?_
        rintro e w2 ⟨a2, n2, c2, rfl, ho2, hb2⟩
        go_wp2
        go_ret3
        exact ⟨_, _, _, by rw [HR.out]; rfl, by rw [HR.out]; exact ho2, hb2⟩
  · have hr : Codec.rdBytes l most = ([], 0, er) := by unfold Codec.rdBytes; rw [HD.out]; simp [h1]
    have HR := Lib.hid hr
    have t1 : ((er : Int) != 0) = true := by simp; omega
    clear hd hr
    go_enter Tryz.func103, Tryz.ntmps103
    go_wp2_with fail
    refine (readnum_any _ _ _ l _ h).mono ?_
    rintro e w1 ⟨rfl, rfl⟩
    rw [HD.out]
    go_wp2
    go_ret3
    exact ⟨_, _, _, by rw [HR.out]; rfl, by rw [HR.out]; exact World.ownsRow_nil _ _ _ _, Below.refl _ _⟩


/-! A reader: what is left; whether it went wrong. -/
def RS2 (w : World) (bk : Nat) (s : List UInt8 × Bool) : Prop := ∃ a n c, w.heap[bk]? = some (.cells #[.slice a n c, .bool s.2] 143 (0, 0)) ∧ Bs w a n c s.1 ∧ ∀ x, a = some x → x.block < bk
theorem RS2.below {w w' : World} {bk : Nat} {l : List UInt8 × Bool} (h : RS2 w bk l) (k : Below w.heap.size w w') : RS2 w' bk l := by
  obtain ⟨a, n, c, h1, h2, h3⟩ := h
  exact ⟨a, n, c, (k.block bk (Array.getElem?_eq_some_iff.1 h1).1).trans h1, h2.below k, h3⟩
theorem RS2.keep {w w' : World} {bk : Nat} {l : List UInt8 × Bool} {x : List UInt8} {a : Option Addr} {n c : Nat} (h : RS2 w bk l) (k : Oth (some ⟨bk, 0, none⟩) w w') (hx : Bs w a n c x) : Bs w' a n c x := by
  obtain ⟨a', n', c', h1, _⟩ := h
  exact hx.notin k h1 no_rd
theorem RS2.keepO {w w' : World} {bk : Nat} {l : List UInt8 × Bool} {B T s n : Nat} {v : Value} {cs : List Value} (h : RS2 w bk l) (k : Oth (some ⟨bk, 0, none⟩) w w') (hx : w.ownsRow B T s v n cs) (hT : T ≠ 143) : w'.ownsRow B T s v n cs := by
  obtain ⟨a', n', c', h1, _⟩ := h
  exact own_oth hx k h1 hT
theorem RS2.other {w w' : World} {bk g : Nat} {l : List UInt8 × Bool} {t : TypeId} {s : ByteArray} {z : Int} {b : Bool} {a : Option Addr} {n c : Nat} (h : RS2 w bk l) (k : Oth (some ⟨g, 0, none⟩) w w') (hg : w.heap[g]? = some (.cells #[.string s, .int .u64 z, .bool b, .slice a n c] t (0, 0))) (hne : bk ≠ g) : RS2 w' bk l := by
  obtain ⟨a', n', c', h1, h2, h3⟩ := h
  exact ⟨a', n', c', (k.block bk (Array.getElem?_eq_some_iff.1 h1).1 (fun x hx => by cases hx; exact Ne.symm hne)).trans h1, h2.notin k hg no_ent, h3⟩
theorem RS2.rs {w : World} {bk : Nat} {l : List UInt8} (h : RS2 w bk (l, false)) : RS w bk l := by
  obtain ⟨a, n, c, h1, h2, _⟩ := h
  exact ⟨a, n, c, h1, h2⟩
theorem subA_blk {a : Option Addr} {c k : Nat} {x : Addr} (h : subA a c k = some x) : ∃ y, a = some y ∧ x.block = y.block := by
  unfold subA at h
  split at h
  · exact ⟨x, h, rfl⟩
  · cases a with
    | none => cases h
    | some y =>
      refine ⟨y, rfl, ?_⟩
      cases h
      show (y.add k).block = y.block
      unfold Addr.add
      split <;> rfl
def Sst.tk (s : List UInt8 × Bool) (k er : Nat) : List UInt8 × Bool := if s.2 = true ∨ er ≠ 0 then (s.1, true) else (s.1.drop k, false)
theorem RS2.setBad {w : World} {bk : Nat} {s : List UInt8 × Bool} (b : Bool) (h : RS2 w bk s) : RS2 (w.setCell ⟨bk, 1, none⟩ (.bool b)) bk (s.1, b) ∧ Oth (some ⟨bk, 0, none⟩) w (w.setCell ⟨bk, 1, none⟩ (.bool b)) := by
  obtain ⟨a, n, c, h1, h2, h3⟩ := h
  have ho := oth_setAt w bk 1 (.bool b)
  exact ⟨⟨a, n, c, heap_set h1, h2.notin ho h1 no_rd, h3⟩, ho⟩
set_option maxHeartbeats 2000000 in
theorem take_blk (bk k : Nat) (l : List UInt8) (w : World) (h : RS2 w bk (l, false)) (hk : k ≤ l.length) :
    Calls Tryz.prog 99 #[.pointer (some ⟨bk, 0, none⟩), .int .i64 k, .int .i64 0] w fun e w' => e = .returned (.tuple #[]) ∧ RS2 w' bk (l.drop k, false) ∧ Oth (some ⟨bk, 0, none⟩) w w' := by
  obtain ⟨a, n, c, h1, h2, h3⟩ := h
  dsimp only at h1 h2
  have hn := h2.1
  have hle := h2.le.1
  have hnc : n ≤ c := h2.2.1
  have HH := Lib.hid h1
  have HB := Lib.hid h2
  obtain ⟨c0, c1, cf⟩ := cells2 h1
  rw [hn] at hk
  have hsl : ∀ W, (Instr.slice 22 (.slice a n c) (some (.int .i64 k)) (some (.int .i64 n)) (some (.int .i64 n))).run Tryz.prog W = .ok (.slice (subA a n k) (n - k) (n - k)) W := fun W => slice_lhm a n c rfl rfl rfl hk (Nat.le_refl _) hnc W
  have HD := Lib.hid (h2.dropm hk)
  have HS1 : Hid ((w.setCell ⟨bk, 1, none⟩ (.bool false)).heap[bk]? = some (.cells #[.slice a n c, .bool false] 143 (0, 0))) := Lib.hid (heap_set h1)
  have HO1 : Hid (Oth (some ⟨bk, 0, none⟩) w (w.setCell ⟨bk, 1, none⟩ (.bool false))) := Lib.hid ((Oth.refl _ w).set (p := ⟨bk, 1, none⟩) (x := ⟨bk, 0, none⟩) rfl rfl _)
  have HAB : Hid (∀ x, subA a n k = some x → x.block < bk) := Lib.hid (fun x hx => by obtain ⟨y, e1, e2⟩ := subA_blk hx; rw [e2]; exact h3 y e1)
  clear h3
  generalize subA a n k = ab at *
  generalize hm : n - k = m at *
  clear h1 h2 hn hm
  go_enter Tryz.func99, Tryz.ntmps99
  go_upto_region 1 with fail
  have hw1 : ∃ w1, w.setCell ⟨bk, 1, none⟩ (.bool false) = w1 := ⟨_, rfl⟩
  obtain ⟨w1, hw1⟩ := hw1
  rw [hw1] at HS1 HO1
  have HW1 := Lib.hid hw1
  try rw [HW1.out]
  clear hw1 c0 c1 cf
  obtain ⟨c0, c1, cf⟩ := cells2 HS1.out
  go_upto_region 2 with fail
  refine wp_region_still_tail 17 (by kernel_rfl) (by kernel_rfl) ?_
  simp only [List.take_succ_cons, List.take_zero, List.drop_succ_cons, List.drop_zero]
  repeat still_step
  refine wpStill_nil ?_
  have hb2 : Below w1.heap.size w1 w1.drew := (Below.refl _ _).drew
  have hs2 := (hb2.block bk (Array.getElem?_eq_some_iff.1 HS1.out).1).trans HS1.out
  have HP : Hid (RS2 (w1.drew.setCell ⟨bk, 0, none⟩ (.slice ab m m)) bk (l.drop k, false) ∧ Oth (some ⟨bk, 0, none⟩) w (w1.drew.setCell ⟨bk, 0, none⟩ (.slice ab m m))) := Lib.hid (by
    have ho : Oth (some ⟨bk, 0, none⟩) w1 (w1.drew.setCell ⟨bk, 0, none⟩ (.slice ab m m)) := (Oth.of_below hb2).set (p := ⟨bk, 0, none⟩) (x := ⟨bk, 0, none⟩) rfl rfl _
    exact ⟨⟨ab, m, m, heap_set hs2, (HD.out.notin HO1.out HH.out no_rd).notin ho HS1.out no_rd, HAB.out⟩, HO1.out.trans ho⟩)
  clear hb2 hs2
  go_wp2
  go_end0
  exact ⟨rfl, HP.out⟩

theorem take_bad (bk : Nat) (k er : Nat) (s : List UInt8 × Bool) (w : World) (h : RS2 w bk s) (hb : s.2 = true ∨ er ≠ 0) :
    Calls Tryz.prog 99 #[.pointer (some ⟨bk, 0, none⟩), .int .i64 k, .int .i64 er] w fun e w' => e = .returned (.tuple #[]) ∧ RS2 w' bk (s.1, true) ∧ Oth (some ⟨bk, 0, none⟩) w w' := by
  have HS := Lib.hid (h.setBad true)
  obtain ⟨a, n, c, h1, h2, _⟩ := h
  obtain ⟨c0, c1, cf⟩ := cells2 h1
  obtain ⟨l, bd⟩ := s
  dsimp only at c1 hb
  have HH := Lib.hid h1
  clear h1 h2
  cases bd with
  | true =>
    clear hb
    go_enter Tryz.func99, Tryz.ntmps99
    go_wp2
    (try simp only [Exit.inBlock, Exit.then])
    refine bodyPost_ret (results_none rfl _ _ _) rfl ?_
    exact ⟨rfl, HS.out⟩
  | false =>
    have her : er ≠ 0 := by
      rcases hb with h | h
      · cases h
      · exact h
    have t1 : ((er : Int) != 0) = true := by rw [bne_iff_ne]; omega
    clear hb her
    go_enter Tryz.func99, Tryz.ntmps99
    go_wp2
    (try simp only [Exit.inBlock, Exit.then])
    refine bodyPost_ret (results_none rfl _ _ _) rfl ?_
    exact ⟨rfl, HS.out⟩
theorem take_two (bk : Nat) (k er : Nat) (s : List UInt8 × Bool) (w : World) (h : RS2 w bk s) (hk : s.2 = false → er = 0 → k ≤ s.1.length) :
    Calls Tryz.prog 99 #[.pointer (some ⟨bk, 0, none⟩), .int .i64 k, .int .i64 er] w fun e w' => e = .returned (.tuple #[]) ∧ RS2 w' bk (Sst.tk s k er) ∧ Oth (some ⟨bk, 0, none⟩) w w' := by
  by_cases hb : s.2 = true ∨ er ≠ 0
  · refine (take_bad bk k er s w h hb).mono fun e w' hh => ?_
    unfold Sst.tk
    rw [if_pos hb]
    exact hh
  · obtain ⟨l, bd⟩ := s
    have h2 : bd = false := by cases bd; rfl; exact absurd (.inl rfl) hb
    have h3 : er = 0 := by
      by_cases e : er = 0
      · exact e
      · exact absurd (.inr e) hb
    subst h2 h3
    refine (take_blk bk k l w h (hk rfl rfl)).mono fun e w' hh => ?_
    unfold Sst.tk
    rw [if_neg hb]
    exact hh
/-- What a reader's method tells: bytes; what is left. -/
def RdB2 (bk : Nat) (x : List UInt8) (s : List UInt8 × Bool) (w : World) (e : Ending) (w' : World) : Prop := ∃ a n c, e = .returned (.slice a n c) ∧ Bs w' a n c x ∧ RS2 w' bk s ∧ Oth (some ⟨bk, 0, none⟩) w w'
theorem rdBytes_le {b : List UInt8} {most : Int} (h : (Codec.rdBytes b most).2.2 = 0) : (Codec.rdBytes b most).2.1 ≤ b.length := by
  unfold Codec.rdBytes at h ⊢
  by_cases h1 : (Codec.dec b).2.2 ≠ 0
  · rw [if_pos h1] at h; exact absurd h h1
  · have hd : Codec.dec b = ((Codec.dec b).1, (Codec.dec b).2.1, 0) := by rw [← show (Codec.dec b).2.2 = 0 by omega]
    have hb := Codec.dec_back hd
    rw [if_neg h1]
    split
    · simp
    · split
      · simp
      · dsimp only; omega
set_option maxHeartbeats 1000000 in
theorem rbytes_own (bk : Nat) (s : List UInt8 × Bool) (most : Nat) (w : World) (h : RS2 w bk s) (hl : s.1.length ≤ 1000000000) (hmb : most ≤ 1000000000) :
    Calls Tryz.prog 97 #[.pointer (some ⟨bk, 0, none⟩), .int .i64 most] w fun e w' => ∃ a n c, e = .returned (.slice a n c) ∧ Own w' 0 a n c (Codec.rdBytes s.1 most).1 ∧ RS2 w' bk (Sst.tk s (Codec.rdBytes s.1 most).2.1 (Codec.rdBytes s.1 most).2.2) ∧ Oth (some ⟨bk, 0, none⟩) w w' := by
  have HR := Lib.hid h
  obtain ⟨a, n, c, h1, h2, _⟩ := h
  have hn := h2.1
  have HRB := Lib.hid (readbytes_own a n c s.1 (most : Int) w h2 ⟨by omega⟩ (by omega) (by omega))
  have HLE := Lib.hid (fun (e : (Codec.rdBytes s.1 (most : Int)).2.2 = 0) => rdBytes_le e)
  obtain ⟨c0, c1, cf⟩ := cells2 h1
  clear h1 h2
  obtain ⟨x, m, er, hx⟩ : ∃ x m er, Codec.rdBytes s.1 (most : Int) = (x, m, er) := ⟨_, _, _, rfl⟩
  rw [hx] at HRB HLE
  rw [hx]
  clear hx
  dsimp only at HLE ⊢
  go_enter Tryz.func97, Tryz.ntmps97
  go_wp2_with fail
  refine HRB.out.mono ?_
  rintro e w1 ⟨a1, n1, k1, rfl, hb1, hbl1⟩
  dsimp only at hb1 ⊢
  have HB1 := Lib.hid (own_mono hb1 (Nat.zero_le _))
  have HO1 : Hid (Oth (some ⟨bk, 0, none⟩) w w1) := Lib.hid (Oth.of_below hbl1)
  have HR1 := Lib.hid (HR.out.below hbl1)
  clear hb1 hbl1 c0 c1 cf HRB
  go_wp2_with fail
  refine (take_two bk m er s w1 HR1.out (fun _ e => HLE.out e)).mono ?_
  rintro e w2 ⟨rfl, hr2, ho2⟩
  have HP := Lib.hid (And.intro (HR1.out.keepO ho2 HB1.out (by decide)) (And.intro hr2 (HO1.out.trans ho2)))
  clear hr2 ho2
  go_wp2
  go_ret
  exact ⟨a1, n1, k1, rfl, HP.out⟩
theorem rbytes_two (bk : Nat) (s : List UInt8 × Bool) (most : Nat) (w : World) (h : RS2 w bk s) (hl : s.1.length ≤ 1000000000) (hmb : most ≤ 1000000000) :
    Calls Tryz.prog 97 #[.pointer (some ⟨bk, 0, none⟩), .int .i64 most] w (RdB2 bk (Codec.rdBytes s.1 most).1 (Sst.tk s (Codec.rdBytes s.1 most).2.1 (Codec.rdBytes s.1 most).2.2) w) :=
  (rbytes_own bk s most w h hl hmb).mono fun e w' ⟨a, n, c, h1, h2, h3⟩ => ⟨a, n, c, h1, h2.bs, h3⟩
set_option maxHeartbeats 1000000 in
theorem rnumber_two (bk : Nat) (s : List UInt8 × Bool) (w : World) (h : RS2 w bk s) (hl : s.1.length ≤ 1000000000) :
    Calls Tryz.prog 98 #[.pointer (some ⟨bk, 0, none⟩)] w fun e w' => e = .returned (.int .u64 (Codec.dec s.1).1) ∧ RS2 w' bk (Sst.tk s (Codec.dec s.1).2.1 (Codec.dec s.1).2.2) ∧ Oth (some ⟨bk, 0, none⟩) w w' := by
  have HR := Lib.hid h
  obtain ⟨a, n, c, h1, h2, _⟩ := h
  have hn := h2.1
  have HRB := Lib.hid (readnum_any a n c s.1 w h2)
  have HLE : Hid ((Codec.dec s.1).2.2 = 0 → (Codec.dec s.1).2.1 ≤ s.1.length) := Lib.hid (fun e => (Codec.dec_back (w := (Codec.dec s.1).1) (n := (Codec.dec s.1).2.1) (by rw [← e])).2.2.1)
  obtain ⟨c0, c1, cf⟩ := cells2 h1
  clear h1 h2
  obtain ⟨v, m, er, hx⟩ : ∃ v m er, Codec.dec s.1 = (v, m, er) := ⟨_, _, _, rfl⟩
  rw [hx] at HRB HLE
  rw [hx]
  clear hx
  dsimp only at HLE ⊢
  go_enter Tryz.func98, Tryz.ntmps98
  go_wp2_with fail
  refine HRB.out.mono ?_
  rintro e w1 ⟨rfl, rfl⟩
  go_wp2_with fail
  refine (take_two bk m er s w HR.out (fun _ e => HLE.out e)).mono ?_
  rintro e w2 ⟨rfl, hr2, ho2⟩
  have HP := Lib.hid (And.intro hr2 ho2)
  clear hr2 ho2
  go_wp2
  go_ret
  exact ⟨rfl, HP.out⟩
end Go.Proofs.YtjigfinpbdglnaaGreatDoor
