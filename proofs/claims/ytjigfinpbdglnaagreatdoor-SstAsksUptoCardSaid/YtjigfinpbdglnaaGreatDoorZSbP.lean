/- Sorted tables: Open, where there is at most one block of one entry and nothing is wrong. -/
import Derived.Test.YtjigfinpbdglnaaGreatDoorZSbO
set_option linter.unusedVariables false
set_option linter.unusedSimpArgs false
set_option maxRecDepth 100000
set_option linter.unusedVariables false
set_option linter.unusedSimpArgs false
namespace Go.Proofs.YtjigfinpbdglnaaGreatDoor
open Go.RowKit

/-- What is known of an entry's cells in a row that is appended. -/
def EntSrc (w : World) (cs : List Value) (i : Nat) (e : Ent) (aq : Option Addr) : Prop :=
  ∃ ai ci, (∀ j v, (entCells e ai ci)[j]? = some v → cs[i * 4 + j]? = some v) ∧ Bs w ai e.val.length ci e.val ∧ (0 < e.val.length → ∀ x y, ai = some x → aq = some y → x.block ≠ y.block)
theorem src_one {w : World} {cs : List Value} {l : List Ent} {aq : Option Addr} (hl : cs.length = l.length * 4) (h : ∀ i, i < l.length → EntSrc w cs i (nth l i) aq) : ∀ u ∈ cs, u.oneCell' = true := fun u hu => by
  obtain ⟨q, hq, rfl⟩ := List.mem_iff_getElem.1 hu
  have hi : q / 4 < l.length := by omega
  obtain ⟨ai, ci, h1, _⟩ := h (q / 4) hi
  have hj : q % 4 < (entCells (nth l (q / 4)) ai ci).length := by show q % 4 < 4; omega
  have h2 := h1 (q % 4) _ (List.getElem?_eq_getElem hj)
  rw [show q / 4 * 4 + q % 4 = q by omega, List.getElem?_eq_getElem hq] at h2
  have h3 : cs[q] = (entCells (nth l (q / 4)) ai ci)[q % 4] := by simpa using h2
  rw [h3]
  exact entCells_one _ ai ci _ (List.getElem_mem _)
theorem AccE.join {w w' : World} {B n c c' m : Nat} {a a' : Option Addr} {l l2 : List Ent} {cs cs2 : List Value} (hl : l.length = n) (h1 : w.ownsRow B 37 4 (.slice a n c) n cs) (h2 : ∀ i, i < n → EntIn w a cs i (nth l i))
    (hm : l2.length = m) (hl2 : cs2.length = m * 4) (h3 : ∀ i, i < m → EntSrc w cs2 i (nth l2 i) a) (h : w'.ownsRow B 37 4 (.slice a' (n + m) c') (n + m) (cs ++ cs2)) (hev : Evol w a w' a') : AccE w' B a' (n + m) c' (l ++ l2) := by
  have hcl : cs.length = n * 4 := h1.1
  refine ⟨by simp [hl, hm], cs ++ cs2, h, fun i hi => ?_⟩
  by_cases ei : i < n
  · rw [nth_append_left _ _ (by omega)]
    exact (h2 i ei).step hev
  · obtain ⟨ai, ci, g1, g2, g3⟩ := h3 (i - n) (by omega)
    have e1 : nth (l ++ l2) i = nth l2 (i - n) := by
      rw [nth_eq _ (by simp; omega), nth_eq _ (by omega), List.getElem_append_right (by omega)]
      simp [hl]
    rw [e1]
    have h4 : EntIn w a (cs ++ cs2) i (nth l2 (i - n)) := ⟨ai, ci, fun j v hj => by
      rw [List.getElem?_append_right (by omega), hcl, show i * 4 + j - n * 4 = (i - n) * 4 + j by omega]
      exact g1 j v hj, g2, g3⟩
    have := h4.step (cs2 := []) hev
    rwa [List.append_nil] at this
theorem es_cells {w : World} {a : Option Addr} {l : List Ent} : ∀ (n : Nat), (∀ i, i < n → ∃ b off ai ci, a = some ⟨b, off, none⟩ ∧ EntAt w b (off + i * 4) (nth l i) ai ci ∧ Bs w ai (nth l i).val.length ci (nth l i).val) →
    ∃ cs, cs.length = n * 4 ∧ Row w a cs ∧ ∀ i, i < n → ∃ ai ci, (∀ j v, (entCells (nth l i) ai ci)[j]? = some v → cs[i * 4 + j]? = some v) ∧ Bs w ai (nth l i).val.length ci (nth l i).val
  | 0, _ => ⟨[], rfl, Row.nil _ _, fun i hi => by omega⟩
  | n + 1, h => by
    obtain ⟨cs, h1, h2, h3⟩ := es_cells n (fun i hi => h i (by omega))
    obtain ⟨b, off, ai, ci, rfl, he, hv⟩ := h n (by omega)
    have hc := he.cells
    refine ⟨cs ++ entCells (nth l n) ai ci, by rw [List.length_append, h1]; show n * 4 + 4 = _; omega, fun j v hj => ?_, fun i hi => ?_⟩
    · by_cases hjn : j < n * 4
      · rw [List.getElem?_append_left (by omega)] at hj
        exact h2 j v hj
      · rw [List.getElem?_append_right (by omega), h1] at hj
        have := hc _ _ hj
        exact ⟨b, off, rfl, by rw [show off + j = off + n * 4 + (j - n * 4) by omega]; exact this⟩
    · by_cases e : i = n
      · subst e
        exact ⟨ai, ci, fun j v hj => by rw [List.getElem?_append_right (by omega), h1, Nat.add_sub_cancel_left]; exact hj, hv⟩
      · obtain ⟨ai', ci', g1, g2⟩ := h3 i (by omega)
        exact ⟨ai', ci', fun j v hj => by rw [List.getElem?_append_left (List.getElem?_eq_some_iff.1 (g1 j v hj)).1]; exact g1 j v hj, g2⟩
/-- The cells of a slice of entries that is read, as the source of an append. -/
theorem Es.src {w : World} {a : Option Addr} {n c : Nat} {l : List Ent} (h : Es w a n c l) :
    ∃ cs2, cs2.length = n * 4 ∧ ∀ (V : World) (aq : Option Addr), Below w.heap.size w V → (∀ y, aq = some y → w.heap.size ≤ y.block) → Row V a cs2 ∧ ∀ i, i < n → EntSrc V cs2 i (nth l i) aq := by
  obtain ⟨cs, h1, h2, h3⟩ := es_cells n h.2.2.2
  refine ⟨cs, h1, fun V aq hV haq => ⟨h2.below hV, fun i hi => ?_⟩⟩
  obtain ⟨ai, ci, g1, g2⟩ := h3 i hi
  refine ⟨ai, ci, g1, g2.below hV, fun h0 x y hx hy e => ?_⟩
  have := g2.old h0 x hx
  have := haq y hy
  omega
section
variable {w : World} {ops : Array Oper} {rest : List Oper} {o : Oper} {a : Act} {Q : Exit → Act → World → Prop}
/-- append of a slice of entries. -/
theorem app_ents (hgd : Region.wanted o (yielded ops a.tmps) = true) (s x : Operand) (ho : o.op = .call { callee := .builtin .append, args := #[s, x], argTypes := #[30, 30] })
    (B : Nat) {aq : Option Addr} {n c : Nat} {l : List Ent} (hs : a.eval s = .slice aq n c) (hacc : AccE w B aq n c l)
    {ax : Option Addr} {m cx : Nat} {l2 : List Ent} (hx : a.eval x = .slice ax m cx) {w0 : World} (hr : Es w0 ax m cx l2) (hw0 : Below w0.heap.size w0 w) (h0B : w0.heap.size ≤ B)
    (hb : n + m ≤ 1000000000) (hB : B ≤ w.heap.size)
    (h : ∀ a' c' w', AccE w' B a' (n + m) c' (l ++ l2) → Below B w w' → Evol w aq w' a' → wpList Tryz.prog ops Q rest (a.put o.dst (.slice a' (n + m) c')) w') : wpList Tryz.prog ops Q (o :: rest) a w := by
  obtain ⟨i, hi, hz, h1, h2⟩ := info_parts infoE
  obtain ⟨cs, hown, hin⟩ := hacc.row
  obtain ⟨cs2, hl2, hsrc⟩ := hr.src
  obtain ⟨hrow, hsr⟩ := hsrc w aq hw0 (fun y hy => Nat.le_trans h0B (hacc.new y hy).1)
  have hll := hr.1
  refine wpList_app_own hgd s x 30 ho B 37 i (.agg #[.string ByteArray.empty, .int .u64 0, .bool false, .slice none 0 0]) 4 56 Tryz.underlying30 hi hz h1 h2 rfl (by decide) aq n c cs hs hown ax m cx cs2 hx hrow hl2 (src_one (l := l2) (aq := aq) (by rw [hll]; exact hl2) (fun i hi => hsr i (by omega))) (by omega) (by simp only [maxLen]; omega) hB ?_
  intro a' c' w' g1 g2
  exact h a' c' w' (AccE.join hacc.len hown hin hll hl2 hsr g1 g2) (g2.below hB (fun x hx => (hacc.new x hx).1)) g2
end
theorem step_app_ents {w : World} {o : Oper} {a : Act} {K : Act → World → Prop} {Q : Exit → Act → World → Prop} (s x : Operand) (ho : o.op = .call { callee := .builtin .append, args := #[s, x], argTypes := #[30, 30] })
    (B : Nat) {aq : Option Addr} {n c : Nat} {l : List Ent} (hs : a.eval s = .slice aq n c) (hacc : AccE w B aq n c l)
    {ax : Option Addr} {m cx : Nat} {l2 : List Ent} (hx : a.eval x = .slice ax m cx) {w0 : World} (hr : Es w0 ax m cx l2) (hw0 : Below w0.heap.size w0 w) (h0B : w0.heap.size ≤ B)
    (hb : n + m ≤ 1000000000) (hB : B ≤ w.heap.size)
    (h : ∀ a' c' w', AccE w' B a' (n + m) c' (l ++ l2) → Below B w w' → K (a.put o.dst (.slice a' (n + m) c')) w') : o.wp Tryz.prog a w K Q := by
  obtain ⟨i, hi, hz, h1, h2⟩ := info_parts infoE
  obtain ⟨cs, hown, hin⟩ := hacc.row
  obtain ⟨cs2, hl2, hsrc⟩ := hr.src
  obtain ⟨hrow, hsr⟩ := hsrc w aq hw0 (fun y hy => Nat.le_trans h0B (hacc.new y hy).1)
  have hll := hr.1
  obtain ⟨a', c', w', hr', g1, g2⟩ := run_append_own' (P := Tryz.prog) w B 30 o.type 37 i (.agg #[.string ByteArray.empty, .int .u64 0, .bool false, .slice none 0 0]) 4 56 Tryz.underlying30 hi hz h1 h2 rfl (by decide) aq n c cs hown ax m cx cs2 hl2 hrow (src_one (l := l2) (aq := aq) (by rw [hll]; exact hl2) (fun i hi => hsr i (by omega))) (by omega) (by simp only [maxLen]; omega) hB
  unfold Oper.wp execOp
  simp only [ho, resolve, invoke, builtin, Sem.run_bind, Sem.run_pure, Result.andThen_ok, List.map_toArray, List.map_cons, List.map_nil, hs, hx, hr']
  exact h a' c' w' (AccE.join hacc.len hown hin hll hl2 hsr g1 g2) (g2.below hB (fun x hx => (hacc.new x hx).1))
theorem own_lowOth {w w' : World} {B e s n c bt : Nat} {a : Option Addr} {cs : List Value} (h : w.ownsRow B e s (.slice a n c) n cs) (k : Oth (some ⟨bt, 0, none⟩) w w') (hp : bt < B) : w'.ownsRow B e s (.slice a n c) n cs := by
  refine ⟨h.1, ?_⟩
  rcases h.2 with g | ⟨g, cap, cur, g1, g2, g3, g4⟩
  · exact .inl g
  · exact .inr ⟨g, cap, cur, g1, g2, (k.block g (Array.getElem?_eq_some_iff.1 g3).1 (fun x hx => by cases hx; simp only; omega)).trans g3, g4⟩
theorem no_tab {a b : Option Addr} {n c m k : Nat} {z : Int} : ∀ v ∈ [Value.slice a n c, .int .i64 z, .slice b m k], ∀ q, v ≠ .int .u8 q := by
  intro v hv q e
  simp only [List.mem_cons, List.not_mem_nil, or_false] at hv
  rcases hv with rfl | rfl | rfl <;> cases e
theorem AccE.lowOth {w w' : World} {B n c bt : Nat} {a : Option Addr} {l : List Ent} {cs : Array Value} {t : TypeId} (h : AccE w B a n c l) (k : Oth (some ⟨bt, 0, none⟩) w w') (hp : bt < B) (hg : w.heap[bt]? = some (.cells cs t (0, 0))) (hno : ∀ v ∈ cs.toList, ∀ q, v ≠ .int .u8 q) : AccE w' B a n c l := by
  obtain ⟨cs2, h1, h2⟩ := h.row
  exact ⟨h.len, cs2, own_lowOth h1 k hp, fun i hi => by obtain ⟨ai, ci, g1, g2, g3⟩ := h2 i hi; exact ⟨ai, ci, g1, g2.notin k hg hno, g3⟩⟩
theorem run_sliceBound_q (q : IntKind) (k : Nat) (c : Nat) (code : BoundsCode) (h : k ≤ c) (w : World) : (Instr.sliceBound (.int q (k : Int)) c code).run Tryz.prog w = .ok k w := by
  have g : (0 : Int) ≤ (k : Int) ∧ (k : Int) ≤ (c : Int) := by omega
  simp [Instr.sliceBound, asIntOf, h]
theorem slice_q3 (q1 q2 q3 : IntKind) (a : Option Addr) (n c : Nat) {lo hi mx : Int} {lo' hi' mx' : Nat} (hlo : lo = lo') (hhi : hi = hi') (hmx : mx = mx') (h1 : lo' ≤ hi') (h2 : hi' ≤ mx') (h3 : mx' ≤ c) (w : World) :
    (Instr.slice 22 (.slice a n c) (some (.int q1 lo)) (some (.int q2 hi)) (some (.int q3 mx))).run Tryz.prog w = .ok (.slice (subA a mx' lo') (hi' - lo') (mx' - lo')) w := by
  obtain ⟨i, hi0, _, g1, _⟩ := info_parts info8
  subst hlo hhi hmx
  have e1 : lo' ≤ mx' := Nat.le_trans h1 h2
  simp [Instr.slice, run_underlying Tryz.underlying22, sizeOf, typeInfo, hi0, g1, Instr.sliceBounds, run_sliceBound_q, h1, h2, h3, e1]
  unfold subA
  by_cases e : mx' = lo'
  · subst e; simp
  · cases a <;> simp [e]
/-- What is asked of a table's bytes: no block, or one of one entry; nothing is wrong. -/
structure Sst.Good (b : List UInt8) (E A T : Nat) (l : List Ent) (bl : List Bk) : Prop where
  len : b.length = E + 28
  lt1 : A < T
  lt2 : T < E
  big : E ≤ 1000000
  f1 : (Codec.sum ((b.drop E).take 24)).toNat = Sst.num (b.drop (E + 24))
  f2 : Sst.num ((b.drop E).take 8) = A
  f3 : Sst.num ((b.drop (E + 8)).take 8) = T
  f4 : (A = 0 ∧ l = [] ∧ bl = []) ∨ ∃ e, l = [e] ∧ 0 < A ∧ Codec.rdFrame ((b.drop 0).take A) = (Sst.ent e, A, 0) ∧ Ent.rightB [e] = true ∧ bl = [⟨e.key, 0, A⟩] ∧ U64 e.seq ∧ e.key.length ≤ 65535 ∧ e.val.length ≤ 1000000
  f5 : (b.drop A).take (T - A) = Codec.frame (Sst.index bl)
  f6 : (b.drop T).take (E - T) = Codec.frame (Sst.filter l)
  f7 : Sst.num ((b.drop (E + 16)).take 8) = l.length
theorem Bs.win {w : World} {a : Option Addr} {n c : Nat} {l : List UInt8} (h : Bs w a n c l) {lo hi : Nat} (h1 : lo ≤ hi) (h2 : hi ≤ n) : Bs w (subA a hi lo) (hi - lo) (hi - lo) ((l.drop lo).take (hi - lo)) := by
  have ht := (h.take h2)
  have hd : Bs w a hi hi (l.take hi) := ⟨ht.1, Nat.le_refl _, by have := h.2.1; have := h.2.2.1; omega, ht.2.2.2⟩
  have := hd.dropm h1
  rwa [List.drop_take] at this
set_option maxHeartbeats 8000000 in
theorem sopen_any (a : Option Addr) (n c : Nat) (b : List UInt8) (E A T : Nat) (l : List Ent) (bl : List Bk) (w : World) (h : Bs w a n c b) (g : Sst.Good b E A T l bl) :
    Calls Tryz.prog 19 #[.slice a n c] w fun e w' => ∃ (bt : Nat) (al : Option Addr) (cl : Nat) (af : Option Addr) (nf cf : Nat), e = .returned (.tuple #[.pointer (some ⟨bt, 0, none⟩), .nilIface]) ∧ Tb w' bt al l.length cl l bl.length af nf cf (Sst.filter l) ∧ Below w.heap.size w w' := by
  obtain ⟨glen, lt1, lt2, gbig, f1, f2, f3, f4, f5, f6, f7⟩ := g
  have hn := h.1
  have hnc := h.2.1
  have hle := h.le
  have HB0 := Lib.hid h
  have HD := Lib.hid (fun W (hb : Below w.heap.size w W) (lo hi : Nat) (h1 : lo ≤ hi) (h2 : hi ≤ n) => (h.below hb).sub h1 h2)
  have HT := Lib.hid (fun W (hb : Below w.heap.size w W) (lo : Nat) (h1 : lo ≤ n) => (h.below hb).drop h1)
  have HW := Lib.hid (fun W (hb : Below w.heap.size w W) (lo hi : Nat) (h1 : lo ≤ hi) (h2 : hi ≤ n) => (h.below hb).win h1 h2)
  have nE : n = E + 28 := by omega
  have en : (n : Int) - 28 = (E : Int) := by omega
  have HNE := Lib.hid nE
  have hnb : 28 ≤ n ∧ n ≤ 1000028 := by omega
  have s1 : ∀ W, (Instr.slice 22 (.slice a n c) (some (.int .i64 (E : Int))) (some (.int .i64 ((E : Int) + 24))) none).run Tryz.prog W = .ok (.slice (subA a c E) (E + 24 - E) (c - E)) W := fun W => slice_lh a n c rfl (by omega) (by omega) (by omega) W
  have s2 : ∀ W, (Instr.slice 22 (.slice a n c) (some (.int .i64 ((E : Int) + 24))) none none).run Tryz.prog W = .ok (.slice (subA a c (E + 24)) (n - (E + 24)) (c - (E + 24))) W := fun W => slice_l a n c (by omega) (by omega) W
  have s3 : ∀ W, (Instr.slice 22 (.slice a n c) (some (.int .i64 (E : Int))) (some (.int .i64 ((E : Int) + 8))) none).run Tryz.prog W = .ok (.slice (subA a c E) (E + 8 - E) (c - E)) W := fun W => slice_lh a n c rfl (by omega) (by omega) (by omega) W
  have s4 : ∀ W, (Instr.slice 22 (.slice a n c) (some (.int .i64 ((E : Int) + 8))) (some (.int .i64 ((E : Int) + 16))) none).run Tryz.prog W = .ok (.slice (subA a c (E + 8)) (E + 16 - (E + 8)) (c - (E + 8))) W := fun W => slice_lh a n c (by omega) (by omega) (by omega) (by omega) W
  have s5 : ∀ W, (Instr.slice 22 (.slice a n c) (some (.int .i64 ((E : Int) + 16))) (some (.int .i64 ((E : Int) + 24))) none).run Tryz.prog W = .ok (.slice (subA a c (E + 16)) (E + 24 - (E + 16)) (c - (E + 16))) W := fun W => slice_lh a n c (by omega) (by omega) (by omega) (by omega) W
  have s6 : ∀ W, (Instr.slice 22 (.slice a n c) (some (.int .u64 (A : Int))) (some (.int .u64 (T : Int))) (some (.int .u64 (T : Int)))).run Tryz.prog W = .ok (.slice (subA a T A) (T - A) (T - A)) W := fun W => slice_q3 _ _ _ a n c rfl rfl rfl (by omega) (Nat.le_refl _) (by omega) W
  have s7 : ∀ W, (Instr.slice 22 (.slice a n c) (some (.int .u64 (T : Int))) (some (.int .i64 (E : Int))) (some (.int .i64 (E : Int)))).run Tryz.prog W = .ok (.slice (subA a E T) (E - T) (E - T)) W := fun W => slice_q3 _ _ _ a n c rfl rfl rfl (by omega) (Nat.le_refl _) (by omega) W
  have s8 : ∀ W, (Instr.slice 22 (.slice a n c) (some (.int .i64 0)) (some (.int .u64 (A : Int))) (some (.int .u64 (A : Int)))).run Tryz.prog W = .ok (.slice (subA a A 0) (A - 0) (A - 0)) W := fun W => slice_q3 _ _ _ a n c (lo := 0) (lo' := 0) rfl rfl rfl (by omega) (Nat.le_refl _) (by omega) W
  have F1 : Hid (∀ W, Below w.heap.size w W → Bs W (subA a c E) (E + 24 - E) (c - E) ((b.drop E).take 24)) := Lib.hid (fun W hb => by have := HD.out W hb E (E + 24) (by omega) (by omega); rwa [show E + 24 - E = 24 by omega] at this ⊢)
  have F2 : Hid (∀ W, Below w.heap.size w W → Bs W (subA a c (E + 24)) (n - (E + 24)) (c - (E + 24)) (b.drop (E + 24))) := Lib.hid (fun W hb => HT.out W hb (E + 24) (by omega))
  have F3 : Hid (∀ W, Below w.heap.size w W → Bs W (subA a c E) (E + 8 - E) (c - E) ((b.drop E).take 8)) := Lib.hid (fun W hb => by have := HD.out W hb E (E + 8) (by omega) (by omega); rwa [show E + 8 - E = 8 by omega] at this ⊢)
  have F4 : Hid (∀ W, Below w.heap.size w W → Bs W (subA a c (E + 8)) (E + 16 - (E + 8)) (c - (E + 8)) ((b.drop (E + 8)).take 8)) := Lib.hid (fun W hb => by have := HD.out W hb (E + 8) (E + 16) (by omega) (by omega); rwa [show E + 16 - (E + 8) = 8 by omega] at this ⊢)
  have F5 : Hid (∀ W, Below w.heap.size w W → Bs W (subA a c (E + 16)) (E + 24 - (E + 16)) (c - (E + 16)) ((b.drop (E + 16)).take 8)) := Lib.hid (fun W hb => by have := HD.out W hb (E + 16) (E + 24) (by omega) (by omega); rwa [show E + 24 - (E + 16) = 8 by omega] at this ⊢)
  have F6 : Hid (∀ W, Below w.heap.size w W → Bs W (subA a T A) (T - A) (T - A) (Codec.frame (Sst.index bl))) := Lib.hid (fun W hb => by have := HW.out W hb A T (by omega) (by omega); rwa [f5] at this)
  have F7 : Hid (∀ W, Below w.heap.size w W → Bs W (subA a E T) (E - T) (E - T) (Codec.frame (Sst.filter l))) := Lib.hid (fun W hb => by have := HW.out W hb T E (by omega) (by omega); rwa [f6] at this)
  have F8 : Hid (∀ W, Below w.heap.size w W → Bs W (subA a A 0) (A - 0) (A - 0) ((b.drop 0).take A)) := Lib.hid (fun W hb => by have := HW.out W hb 0 A (by omega) (by omega); rwa [show A - 0 = A by omega] at this ⊢)
  have H1 := Lib.hid f1
  have H2 := Lib.hid f2
  have H3 := Lib.hid f3
  have H4 := Lib.hid f4
  have H7 := Lib.hid f7
  have HLT := Lib.hid (show E + 24 ≤ n ∧ n - (E + 24) ≤ 8 by omega)
  generalize subA a c E = aE at *
  generalize subA a c (E + 24) = aE24 at *
  generalize subA a c (E + 8) = aE8 at *
  generalize subA a c (E + 16) = aE16 at *
  generalize subA a T A = aTA at *
  generalize subA a E T = aET at *
  generalize subA a A 0 = aA0 at *
  generalize hg1 : E + 24 - E = n24 at *
  generalize hg2 : E + 8 - E = n8' at *
  generalize hg3 : E + 16 - (E + 8) = n16 at *
  generalize hg4 : E + 24 - (E + 16) = n17 at *
  generalize hg5 : n - (E + 24) = n4 at *
  have hgb : n8' = 8 ∧ n16 = 8 ∧ n17 = 8 ∧ n4 ≤ 8 := by have := HLT.out; omega
  have HGB := Lib.hid hgb
  clear hg1 hg2 hg3 hg4 hg5 hgb HLT f1 f2 f3 f4 f5 f6 f7 nE glen hn HD HT HW
  have tE : decide ((E : Int) < 0) = false := decide_eq_false (by omega)
  have ew24 : IntKind.i64.wrap ((E : Int) + 24) = (E : Int) + 24 := by rw [IntKind.wrap_i64]; omega
  have ew8 : IntKind.i64.wrap ((E : Int) + 8) = (E : Int) + 8 := by rw [IntKind.wrap_i64]; omega
  have ew16 : IntKind.i64.wrap ((E : Int) + 16) = (E : Int) + 16 := by rw [IntKind.wrap_i64]; omega
  go_enter Tryz.func19, Tryz.ntmps19
  go_upto_region 4 with fail
  have HBD : Hid (Below w.heap.size w w.drew) := Lib.hid (Below.refl _ _).drew
  refine wp_region_steps [13] 13 13 (by kernel_rfl) (by kernel_rfl) rfl (fun W' => ∃ V : BW w, W' = V.w) ?_
  refine anyT_pull [0, 1, 2, 3, 4, 8, 9, 10, 11] 13 4 (by intro c a d v w h; cases d <;> exact h) (by kernel_rfl) ⟨⟨w.drew, HBD.out⟩, rfl⟩ ?_
  simp only [opsAt, List.filterMap_cons, List.filterMap_nil, List.getElem?_cons_zero, List.getElem?_cons_succ]
  iterate 9
    apply held_step
    · kernel_rfl
    · rintro _ ⟨V, rfl⟩
      go_simp
      rfl
  refine held_nil ?_
  generalize w.drew = w0 at *
  apply anyT_one 5
  · rfl
  · kernel_rfl
  · kernel_rfl
  intro K hK
  go_simp
  have hb5 := HBD.out.alloc HBD.out.size (o := .cells #[.slice aE n24 (c - E)] 22)
  refine hK _ _ ⟨⟨_, hb5⟩, rfl⟩ ?_
  clear hK
  apply anyT_one 6
  · rfl
  · kernel_rfl
  · kernel_rfl
  intro K hK
  go_simp
  refine (sum_any _ 1 1 [(b.drop E).take 24] _ (Bss.one (F1.out _ HBD.out))).mono ?_
  rintro en w1 ⟨rfl, hb1⟩
  rw [show ([(b.drop E).take 24] : List (List UInt8)).flatten = (b.drop E).take 24 by simp, n32_toNat, H1.out]
  have HB1 := Lib.hid (hb5.trans (hb1.mono hb5.size))
  refine hK _ _ ⟨⟨_, HB1.out⟩, rfl⟩ ?_
  clear hK hb1 hb5
  have hnum : Sst.num (b.drop (E + 24)) < 4294967296 := by rw [← H1.out]; exact (Codec.sum _).toNat_lt
  have HNUM := Lib.hid (snumber_any aE24 n4 (c - (E + 24)) _ w1 (F2.out _ HB1.out) HGB.out.2.2.2)
  generalize Sst.num (b.drop (E + 24)) = N24 at *
  refine anyT_pull [7] 13 1 (by intro c a d v w h; cases d <;> exact h) (by kernel_rfl) ⟨⟨_, HB1.out⟩, rfl⟩ ?_
  simp only [opsAt, List.filterMap_cons, List.filterMap_nil, List.getElem?_cons_zero, List.getElem?_cons_succ]
  apply held_step
  · kernel_rfl
  · rintro _ ⟨V, rfl⟩
    go_simp
    rfl
  refine held_nil ?_
  apply anyT_one 12
  · rfl
  · kernel_rfl
  · kernel_rfl
  intro K hK
  go_simp
  refine HNUM.out.mono ?_
  rintro en w2 ⟨rfl, rfl⟩
  refine hK _ _ ⟨⟨_, HB1.out⟩, rfl⟩ ?_
  clear hK HNUM
  refine anyT_done (by kernel_rfl) ?_
  simp only [opsAt, List.filterMap_cons, List.filterMap_nil, List.getElem?_cons_zero, List.getElem?_cons_succ]
  have t4 : ((N24 : Int) != (N24 : Int)) = false := by simp
  have ew64 : IntKind.u64.wrap ((N24 : Nat) : Int) = (N24 : Int) := by rw [IntKind.wrap_u64]; omega
  clear H1
  go_upto_region 6 with fail
  go_cut [5, 6] (fun u v wx => u = .int .u64 A ∧ v = .int .u64 T ∧ Below w.heap.size w wx)
  case first =>
    have HBE : Hid (Below w.heap.size w w1.drew) := Lib.hid HB1.out.drew
    have HN1 := Lib.hid (snumber_any aE n8' (c - E) _ w1.drew (F3.out _ HBE.out) (by rw [HGB.out.1]; omega))
    have HN2 := Lib.hid (snumber_any aE8 n16 (c - (E + 8)) _ w1.drew (F4.out _ HBE.out) (by rw [HGB.out.2.1]; omega))
    rw [H2.out] at HN1
    rw [H3.out] at HN2
    refine wp_region_steps [13, 14] 13 13 (by kernel_rfl) (by kernel_rfl) rfl (fun W' => ∃ V : BW w, W' = V.w) ?_
    refine anyT_pull [0, 1, 2, 3, 4, 6, 7, 8, 9, 10, 11] 13 2 (by intro c a d v w h; cases d <;> exact h) (by kernel_rfl) ⟨⟨w1.drew, HBE.out⟩, rfl⟩ ?_
    simp only [opsAt, List.filterMap_cons, List.filterMap_nil, List.getElem?_cons_zero, List.getElem?_cons_succ]
    iterate 11
      apply held_step
      · kernel_rfl
      · rintro _ ⟨V, rfl⟩
        go_simp
        rfl
    refine held_nil ?_
    generalize w1.drew = w0 at *
    apply anyT_one 5
    · rfl
    · kernel_rfl
    · kernel_rfl
    intro K hK
    go_simp
    refine HN1.out.mono ?_
    rintro en wA ⟨rfl, rfl⟩
    refine hK _ _ ⟨⟨_, HBE.out⟩, rfl⟩ ?_
    clear hK
    apply anyT_one 12
    · rfl
    · kernel_rfl
    · kernel_rfl
    intro K hK
    go_simp
    refine HN2.out.mono ?_
    rintro en wA ⟨rfl, rfl⟩
    refine hK _ _ ⟨⟨_, HBE.out⟩, rfl⟩ ?_
    clear hK
    clear HN1 HN2
    refine anyT_done (by kernel_rfl) ?_
    simp only [opsAt, List.filterMap_cons, List.filterMap_nil, List.getElem?_cons_zero, List.getElem?_cons_succ]
    go_wp2
    go_meet
    exact ⟨rfl, rfl, HBE.out⟩
  case rest =>
  obtain ⟨rfl, rfl, hb2⟩ := hcut
  have HB2 := Lib.hid hb2
  clear hb2 HB1
  have t7 : decide ((A : Int) ≥ (T : Int)) = false := decide_eq_false (by omega)
  have t7b : decide ((T : Int) ≥ (E : Int)) = false := decide_eq_false (by omega)
  have t7c : decide ((T : Int) ≤ (A : Int)) = false := decide_eq_false (by omega)
  have t7d : decide ((E : Int) ≤ (T : Int)) = false := decide_eq_false (by omega)
  have t7e : decide (T ≤ A) = false := decide_eq_false (by omega)
  have t7f : decide (E ≤ T) = false := decide_eq_false (by omega)
  have eE64 : IntKind.u64.wrap (E : Int) = (E : Int) := by rw [IntKind.wrap_u64]; omega
  --LOOP
  have eA64 : IntKind.i64.wrap (A : Int) = (A : Int) := by rw [IntKind.wrap_i64]; omega
  go_upto_region 12 with fail
  have hr3 := heap_alloc_new wc (.cells #[.slice none 0 0, .int .i64 0, .slice none 0 0] 80)
  have hb3 := below_alloc1 wc (.cells #[.slice none 0 0, .int .i64 0, .slice none 0 0] 80)
  have HB3 := Lib.hid (HB2.out.trans (hb3.mono HB2.out.size))
  have hw3 := HB2.out.size
  have hs3 : wc.heap.size < (wc.alloc (.cells #[.slice none 0 0, .int .i64 0, .slice none 0 0] 80)).heap.size := by simp
  generalize wc.alloc (.cells #[.slice none 0 0, .int .i64 0, .slice none 0 0] 80) = wT at *
  generalize wc.heap.size = bt at *
  have HT3 := Lib.hid hr3
  have HBT3 := Lib.hid hs3
  have HWB := Lib.hid hw3
  clear hr3 hb3 hs3 hw3 t7 t7b t7c t7d t7e t7f
  obtain ⟨n0, hn0⟩ : ∃ k, l.length = k := ⟨_, rfl⟩
  obtain ⟨m0, hm0⟩ : ∃ k, bl.length = k := ⟨_, rfl⟩
  have hsm : n0 ≤ 1 ∧ m0 ≤ 1 := by rcases H4.out with ⟨_, rfl, rfl⟩ | ⟨e, rfl, _, _, _, rfl, _⟩ <;> (subst hn0 hm0; simp)
  have HOK : Hid (BkOk bl) := Lib.hid (by
    rcases H4.out with ⟨_, rfl, rfl⟩ | ⟨e, rfl, _, _, _, rfl, _, hk, _⟩
    · intro b hb; cases hb
    · intro b hb; simp only [List.mem_singleton] at hb; subst hb; exact ⟨by simp only; omega, by simp only; omega, by simp only; omega⟩)
  have HKL : Hid (∀ e ∈ l, e.key.length ≤ 1000000) := Lib.hid (by
    rcases H4.out with ⟨_, rfl, rfl⟩ | ⟨e, rfl, _, _, _, rfl, _, hk, _⟩
    · intro b hb; cases hb
    · intro b hb; simp only [List.mem_singleton] at hb; subst hb; omega)
  have HN0 := Lib.hid hn0
  have HM0 := Lib.hid hm0
  have HSM := Lib.hid hsm
  rw [hn0] at H7
  clear hn0 hm0
  go_loopw [8, 9] (fun ob fr wr => (∃ (a8 al : Option Addr) (c8 cl : Nat), ob = .slice a8 m0 c8 ∧ fr = .int .i64 A ∧ Hid (wr.heap[bt]? = some (.cells #[.slice al n0 cl, .int .i64 0, .slice none 0 0] 80 (0, 0))) ∧ Hid (AccE wr (bt + 1) al n0 cl l) ∧ Hid (Acc celB 93 wr (bt + 1) a8 m0 c8 bl) ∧ Hid (Below w.heap.size w wr)) ∨ (ob = .slice none 0 0 ∧ fr = .int .i64 0 ∧ 0 < A ∧ wr = wT)) (fun _ fr _ => A - (intOf fr).toNat)
  case atStart =>
    by_cases hA : 0 < A
    · exact .inr ⟨rfl, rfl, hA, rfl⟩
    · rcases H4.out with ⟨h0, rfl, rfl⟩ | ⟨e, _, h1, _⟩
      · obtain rfl := HN0.out
        obtain rfl := HM0.out
        exact .inl ⟨none, none, 0, 0, rfl, by rw [h0]; rfl, HT3, Lib.hid (AccE.nil _ _), Lib.hid (Acc.nil _ _ _ _), HB3⟩
      · exact absurd h1 hA
  case round =>
    rcases hrel with ⟨a8, al, c8, cl, rfl, rfl, HT, HE, HK, HB⟩ | ⟨rfl, rfl, hA, hwr⟩
    · obtain ⟨c0, c1, c2, cf⟩ := cells3 HT.out
      have tL : decide ((A : Int) < (A : Int)) = false := decide_eq_false (by omega)
      have HBTr : Hid (bt < wr.heap.size) := Lib.hid (Array.getElem?_eq_some_iff.1 HT.out).1
      have hn0 : n0 ≤ 1000 := by have := HSM.out; omega
      have hm0 : m0 ≤ 1000 := by have := HSM.out; omega
      have hnn0 : (n0 : Int) ≤ 1 := by have := HSM.out; omega
      have hmm0 : (m0 : Int) ≤ 1 := by have := HSM.out; omega
      go_wp2_with fail
      refine (sfilter_any al n0 cl l wr HE.out.es HKL.out (by omega)).mono ?_
      rintro en w5 ⟨af, nf, cf', rfl, of, hb5⟩
      have HF5 := Lib.hid of
      have HB5 := Lib.hid hb5
      have HW5 := Lib.hid (HB.out.trans (hb5.mono HB.out.size))
      have HT5 := Lib.hid ((hb5.block _ HBTr.out).trans HT.out)
      have HE5 := Lib.hid (HE.out.below hb5)
      have HK5 := Lib.hid (HK.out.below hb5)
      clear of hb5 c0 c1 c2 cf
      obtain ⟨c0, c1, c2, cf⟩ := cells3 HT5.out
      go_upto_region 21 with fail
      have HS1 := Lib.hid (oth_setAt w5 bt 1 (.int .i64 (m0 : Int)))
      have HT6 := Lib.hid (heap_set (j := 1) (v := .int .i64 (m0 : Int)) HT5.out)
      have HE6 := Lib.hid ((HE5.out).lowOth HS1.out (by omega) HT5.out no_tab)
      have HK6 : Hid (Acc celB 93 (w5.setCell ⟨bt, 1, none⟩ (.int .i64 (m0 : Int))) (bt + 1) a8 m0 c8 bl) := Lib.hid ⟨HK5.out.1, own_lowOth HK5.out.2 HS1.out (by omega)⟩
      have HF6 := Lib.hid (HF5.out.bs.notin HS1.out HT5.out no_tab)
      have HW6 := Lib.hid (HW5.out.trans (HS1.out.below HW5.out.size (fun x hx => by cases hx; exact HWB.out)))
      generalize w5.setCell ⟨bt, 1, none⟩ (.int .i64 (m0 : Int)) = w6 at *
      have HS2 := Lib.hid (oth_setAt w6 bt 2 (.slice af nf cf'))
      have HT7 := Lib.hid (heap_set (j := 2) (v := .slice af nf cf') HT6.out)
      have HE7 := Lib.hid ((HE6.out).lowOth HS2.out (by omega) HT6.out no_tab)
      have HK7 : Hid (Acc celB 93 (w6.setCell ⟨bt, 2, none⟩ (.slice af nf cf')) (bt + 1) a8 m0 c8 bl) := Lib.hid ⟨HK6.out.1, own_lowOth HK6.out.2 HS2.out (by omega)⟩
      have HF7 := Lib.hid (HF6.out.notin HS2.out HT6.out no_tab)
      have HW7 := Lib.hid (HW6.out.trans (HS2.out.below HW6.out.size (fun x hx => by cases hx; exact HWB.out)))
      generalize w6.setCell ⟨bt, 2, none⟩ (.slice af nf cf') = w7 at *
      have HT : Hid (w7.heap[bt]? = some (.cells #[.slice al n0 cl, .int .i64 m0, .slice af nf cf'] 80 (0, 0))) := Lib.hid HT7.out
      clear HS1 HT6 HE6 HK6 HF6 HW6 HS2 HT7 HT5 HE5 HK5 HF5 HW5 HB5 c0 c1 c2 cf
      have HILE : Hid ((Sst.index bl).length ≤ 100030) := Lib.hid (by
        have h1 := index_len HOK.out bl.length (Nat.le_refl _)
        rw [List.take_length] at h1
        have h2 := HM0.out; have h3 := HSM.out
        rw [h2] at h1
        have := Nat.mul_le_mul h3.2 (Nat.le_refl 100030)
        omega)
      have HFLE : Hid ((Sst.filter l).length ≤ 1300) := Lib.hid (filter_len l (by have := HN0.out; have := HSM.out; omega))
      -- the index
      go_cut [161] (fun v wx => v = .bool false ∧ Hid (Below w7.heap.size w7 wx))
      case first =>
        have HBD := Lib.hid ((Below.refl w7.heap.size w7).drew)
        refine wp_region_steps [10] 10 10 (by kernel_rfl) (by kernel_rfl) rfl (fun W' => ∃ V : BW w, W' = V.w) ?_
        have HWD := Lib.hid (HW7.out.trans (HBD.out.mono HW7.out.size))
        generalize w7.drew = w8 at *
        refine anyT_pull [0, 1, 2, 3, 4, 5] 10 4 (by intro c a d v w h; cases d <;> exact h) (by kernel_rfl) ⟨⟨w8, HWD.out⟩, rfl⟩ ?_
        simp only [opsAt, List.filterMap_cons, List.filterMap_nil, List.getElem?_cons_zero, List.getElem?_cons_succ]
        iterate 6
          apply held_step
          · kernel_rfl
          · rintro _ ⟨V, rfl⟩
            go_simp
            rfl
        refine held_nil ?_
        apply anyT_one 6
        · rfl
        · kernel_rfl
        · kernel_rfl
        intro K hK
        go_simp
        refine (sindex_any a8 m0 c8 bl w8 ((HK7.out.below HBD.out).rd (by decide)) HOK.out (by omega)).mono ?_
        rintro en w9 ⟨a9, n9, c9, rfl, o9, hb9⟩
        have HO9 := Lib.hid o9
        have HB9 := Lib.hid (HBD.out.trans (hb9.mono HBD.out.size))
        have HW9 := Lib.hid (HW7.out.trans (HB9.out.mono HW7.out.size))
        refine hK _ _ ⟨⟨w9, HW9.out⟩, rfl⟩ ?_
        clear hK o9 hb9
        apply anyT_one 7
        · rfl
        · kernel_rfl
        · kernel_rfl
        intro K hK
        go_simp
        refine (frame_any a9 n9 c9 _ w9 HO9.out.bs ⟨by have h1 := HO9.out.bs.1; have h2 := HILE.out; omega⟩).mono ?_
        rintro en w10 ⟨a10, n10, c10, rfl, o10, hb10⟩
        have HO10 := Lib.hid o10
        have HB10 := Lib.hid (HB9.out.trans (hb10.mono HB9.out.size))
        have HW10 := Lib.hid (HW7.out.trans (HB10.out.mono HW7.out.size))
        refine hK _ _ ⟨⟨w10, HW10.out⟩, rfl⟩ ?_
        clear hK o10 hb10
        apply anyT_one 8
        · rfl
        · kernel_rfl
        · kernel_rfl
        intro K hK
        go_simp
        refine (equal_any aTA a10 (T - A) (T - A) n10 c10 _ _ w10 (F6.out _ HW10.out) HO10.out.bs).mono ?_
        rintro en w11 ⟨rfl, hb11⟩
        rw [decide_eq_true (rfl : Codec.frame (Sst.index bl) = Codec.frame (Sst.index bl))]
        have HB11 := Lib.hid (HB10.out.trans (hb11.mono HB10.out.size))
        have HW11 := Lib.hid (HW7.out.trans (HB11.out.mono HW7.out.size))
        refine hK _ _ ⟨⟨w11, HW11.out⟩, rfl⟩ ?_
        clear hK hb11
        refine anyT_pull [9] 10 0 (by intro c a d v w h; cases d <;> exact h) (by kernel_rfl) ⟨⟨w11, HW11.out⟩, rfl⟩ ?_
        simp only [opsAt, List.filterMap_cons, List.filterMap_nil, List.getElem?_cons_zero, List.getElem?_cons_succ]
        apply held_step
        · kernel_rfl
        · rintro _ ⟨V, rfl⟩
          go_simp
          rfl
        refine held_nil ?_
        refine anyT_done (by kernel_rfl) ?_
        simp only [opsAt, List.filterMap_cons, List.filterMap_nil, List.getElem?_cons_zero, List.getElem?_cons_succ]
        go_wp2
        go_meet
        exact ⟨rfl, HB11⟩
      case rest =>
      obtain ⟨rfl, HC⟩ := hcut
      have HWc := Lib.hid (HW7.out.trans (HC.out.mono HW7.out.size))
      have HBT7 : Hid (bt < w7.heap.size) := Lib.hid (Array.getElem?_eq_some_iff.1 HT.out).1
      have HTc := Lib.hid ((HC.out.block _ HBT7.out).trans HT.out)
      have HBTc : Hid (bt < wc.heap.size) := Lib.hid (Nat.lt_of_lt_of_le HBT7.out HC.out.size)
      go_upto_region 23 with fail
      go_cut [177] (fun v wx => v = .bool false ∧ Hid (Below wc.heap.size wc wx))
      case first =>
        have HBD := Lib.hid ((Below.refl wc.heap.size wc).drew)
        have HTD := Lib.hid ((HBD.out.block _ HBTc.out).trans HTc.out)
        refine wp_region_steps [12] 12 12 (by kernel_rfl) (by kernel_rfl) rfl (fun W' => ∃ V : BW wc.drew, W' = V.w) ?_
        have HWD := Lib.hid (HWc.out.trans (HBD.out.mono HWc.out.size))
        generalize wc.drew = w8 at *
        obtain ⟨d0, d1, d2, df⟩ := cells3 HTD.out
        have d0' := BW.cell d0
        have d2' := BW.cell d2
        clear d0 d1 d2 df
        refine anyT_pull [0, 1, 2, 3, 4, 5, 6, 7, 8] 12 3 (by intro c a d v w h; cases d <;> exact h) (by kernel_rfl) ⟨⟨w8, Below.refl _ _⟩, rfl⟩ ?_
        simp only [opsAt, List.filterMap_cons, List.filterMap_nil, List.getElem?_cons_zero, List.getElem?_cons_succ]
        iterate 9
          apply held_step
          · kernel_rfl
          · rintro _ ⟨V, rfl⟩
            go_simp
            rfl
        refine held_nil ?_
        apply anyT_one 9
        · rfl
        · kernel_rfl
        · kernel_rfl
        intro K hK
        go_simp
        refine (frame_any af nf cf' _ w8 (HF7.out.below (HC.out.trans (HBD.out.mono HC.out.size))) ⟨by have h1 := HF7.out.1; have h2 := HFLE.out; omega⟩).mono ?_
        rintro en w10 ⟨a10, n10, c10, rfl, o10, hb10⟩
        have HO10 := Lib.hid o10
        have HB10 := Lib.hid hb10
        have HW10 := Lib.hid (HWD.out.trans (hb10.mono HWD.out.size))
        refine hK _ _ ⟨⟨w10, hb10⟩, rfl⟩ ?_
        clear hK o10 hb10
        apply anyT_one 10
        · rfl
        · kernel_rfl
        · kernel_rfl
        intro K hK
        go_simp
        refine (equal_any aET a10 (E - T) (E - T) n10 c10 _ _ w10 (F7.out _ HW10.out) HO10.out.bs).mono ?_
        rintro en w11 ⟨rfl, hb11⟩
        rw [decide_eq_true (rfl : Codec.frame (Sst.filter l) = Codec.frame (Sst.filter l))]
        have HB11 := Lib.hid (HB10.out.trans (hb11.mono HB10.out.size))
        refine hK _ _ ⟨⟨w11, HB11.out⟩, rfl⟩ ?_
        clear hK hb11
        refine anyT_pull [11] 12 0 (by intro c a d v w h; cases d <;> exact h) (by kernel_rfl) ⟨⟨w11, HB11.out⟩, rfl⟩ ?_
        simp only [opsAt, List.filterMap_cons, List.filterMap_nil, List.getElem?_cons_zero, List.getElem?_cons_succ]
        iterate 1
          apply held_step
          · kernel_rfl
          · rintro _ ⟨V, rfl⟩
            go_simp
            rfl
        refine held_nil ?_
        refine anyT_done (by kernel_rfl) ?_
        simp only [opsAt, List.filterMap_cons, List.filterMap_nil, List.getElem?_cons_zero, List.getElem?_cons_succ]
        go_wp2
        go_meet
        exact ⟨rfl, Lib.hid (HBD.out.trans (HB11.out.mono HBD.out.size))⟩
      case rest =>
      obtain ⟨rfl, HC2⟩ := hcut
      have HC3 := Lib.hid (HC.out.trans (HC2.out.mono HC.out.size))
      clear HC HC2 HWc HTc HBTc
      have HWc := Lib.hid (HW7.out.trans (HC3.out.mono HW7.out.size))
      have HTc := Lib.hid ((HC3.out.block _ HBT7.out).trans HT.out)
      have HBTc : Hid (bt < wc.heap.size) := Lib.hid (Nat.lt_of_lt_of_le HBT7.out HC3.out.size)
      have hn64 : IntKind.u64.wrap (n0 : Int) = (n0 : Int) := by rw [IntKind.wrap_u64]; omega
      go_upto_region 25 with fail
      go_cut [195] (fun v wx => v = .bool false ∧ Hid (Below wc.heap.size wc wx))
      case first =>
        have HBD := Lib.hid ((Below.refl wc.heap.size wc).drew)
        have HTD := Lib.hid ((HBD.out.block _ HBTc.out).trans HTc.out)
        refine wp_region_steps [14] 14 14 (by kernel_rfl) (by kernel_rfl) rfl (fun W' => ∃ V : BW wc.drew, W' = V.w) ?_
        have HWD := Lib.hid (HWc.out.trans (HBD.out.mono HWc.out.size))
        generalize wc.drew = w8 at *
        obtain ⟨d0, d1, d2, df⟩ := cells3 HTD.out
        have d0' := BW.cell d0
        clear d0 d1 d2 df
        have HN := Lib.hid (snumber_any aE16 n17 (c - (E + 16)) _ w8 (F5.out _ HWD.out) (by have := HGB.out; omega))
        rw [H7.out] at HN
        refine anyT_pull [0, 1, 2, 3, 4, 5, 7, 8, 9, 10, 11, 12] 14 2 (by intro c a d v w h; cases d <;> exact h) (by kernel_rfl) ⟨⟨w8, Below.refl _ _⟩, rfl⟩ ?_
        simp only [opsAt, List.filterMap_cons, List.filterMap_nil, List.getElem?_cons_zero, List.getElem?_cons_succ]
        iterate 12
          apply held_step
          · kernel_rfl
          · rintro _ ⟨V, rfl⟩
            go_simp
            rfl
        refine held_nil ?_
        apply anyT_one 6
        · rfl
        · kernel_rfl
        · kernel_rfl
        intro K hK
        go_simp
        refine HN.out.mono ?_
        rintro en w10 ⟨rfl, rfl⟩
        refine hK _ _ ⟨⟨w8, Below.refl _ _⟩, rfl⟩ ?_
        clear hK
        have tnn : ((n0 : Int) != (n0 : Int)) = false := by simp
        refine anyT_pull [13] 14 0 (by intro c a d v w h; cases d <;> exact h) (by kernel_rfl) ⟨⟨w8, Below.refl _ _⟩, rfl⟩ ?_
        simp only [opsAt, List.filterMap_cons, List.filterMap_nil, List.getElem?_cons_zero, List.getElem?_cons_succ]
        iterate 1
          apply held_step
          · kernel_rfl
          · rintro _ ⟨V, rfl⟩
            go_simp
            rfl
        refine held_nil ?_
        refine anyT_done (by kernel_rfl) ?_
        simp only [opsAt, List.filterMap_cons, List.filterMap_nil, List.getElem?_cons_zero, List.getElem?_cons_succ]
        go_wp2
        go_meet
        exact ⟨rfl, HBD⟩
      case rest =>
      obtain ⟨rfl, HC4⟩ := hcut
      go_wp2
      go_ret2
      have HX := Lib.hid (HC3.out.trans (HC4.out.mono HC3.out.size))
      refine ⟨bt, al, cl, af, nf, cf', rfl, ?_, HW7.out.trans (HX.out.mono HW7.out.size)⟩
      rw [HN0.out, HM0.out]
      exact ⟨(HX.out.block _ HBT7.out).trans HT.out, HE7.out.es.below HX.out, HF7.out.below HX.out⟩
    · obtain rfl := hwr
      obtain ⟨e, HL1, HRD, HRT, HBL, hsq, hke, hve⟩ : ∃ e, Hid (l = [e]) ∧ Hid (Codec.rdFrame ((b.drop 0).take A) = (Sst.ent e, A, 0)) ∧ Hid (Ent.rightB [e] = true) ∧ Hid (bl = [⟨e.key, 0, A⟩]) ∧ U64 e.seq ∧ e.key.length ≤ 65535 ∧ e.val.length ≤ 1000000 := by
        rcases H4.out with ⟨h0, _⟩ | ⟨e, g1, _, g2, g3, g4, g5, g6, g7⟩
        · omega
        · exact ⟨e, Lib.hid g1, Lib.hid g2, Lib.hid g3, Lib.hid g4, g5, g6, g7⟩
      obtain ⟨rfl, rfl⟩ : n0 = 1 ∧ m0 = 1 := by
        have h1 := HN0.out; have h2 := HM0.out
        rw [HL1.out] at h1; rw [HBL.out] at h2
        exact ⟨h1.symm, h2.symm⟩
      have tA : decide ((0 : Int) < (A : Int)) = true := decide_eq_true (by omega)
      have tA' : decide (0 < A) = true := decide_eq_true hA
      obtain ⟨c0, c1, c2, cf⟩ := cells3 HT3.out
      have HR13 := Lib.hid (readframe_any aA0 (A - 0) (A - 0) _ wr (F8.out _ HB3.out) ⟨by omega⟩)
      rw [HRD.out] at HR13
      go_wp2_with fail
      refine HR13.out.mono ?_
      rintro en w4 ⟨a4, n4, c4, rfl, hp4, hb4⟩
      have HP4 := Lib.hid hp4
      have HB4 := Lib.hid hb4
      have HBW4 := Lib.hid (HB3.out.trans (hb4.mono HB3.out.size))
      clear hp4 hb4 HR13
      go_wp2_with fail
      refine (sentries1_any a4 n4 c4 e w4 HP4.out hsq hke (by omega)).mono ?_
      rintro en w5 ⟨a5, c5, rfl, hl5, hb5⟩
      have HL5 := Lib.hid hl5
      have HB5 := Lib.hid (HB4.out.trans (hb5.mono HB4.out.size))
      have HBW5 := Lib.hid (HBW4.out.trans (hb5.mono HBW4.out.size))
      clear hl5 hb5
      go_upto_region 15 with fail
      have HBD5 := Lib.hid ((Below.refl w5.heap.size w5).drew)
      have d0 : w5.drew.cell? ⟨bt, 0, none⟩ = some (.slice none 0 0) := cell_later (HB5.out.trans (HBD5.out.mono HB5.out.size)) c0
      have HL6 := Lib.hid (HL5.out.below HBD5.out)
      have HB6 := Lib.hid (HB5.out.trans (HBD5.out.mono HB5.out.size))
      have HBW6 := Lib.hid (HBW5.out.trans (HBD5.out.mono HBW5.out.size))
      refine wp_region_steps [32, 33] 32 32 (by kernel_rfl) (by kernel_rfl) rfl (fun W' => ∃ V : BW w5.drew, W' = V.w) ?_
      generalize w5.drew = w6 at *
      clear HBD5
      have d0' := BW.cell d0
      refine anyT_pull [0, 1, 2, 3, 4, 5, 6, 7, 8, 9, 10, 11, 12, 13, 14, 15, 16, 17, 18, 19, 20, 21, 22, 23, 24, 25, 26, 27, 28, 29] 32 2 (by intro c a d v w h; cases d <;> exact h) (by kernel_rfl) ⟨⟨w6, Below.refl _ _⟩, rfl⟩ ?_
      simp only [opsAt, List.filterMap_cons, List.filterMap_nil, List.getElem?_cons_zero, List.getElem?_cons_succ]
      iterate 30
        apply held_step
        · kernel_rfl
        · rintro _ ⟨V, rfl⟩
          go_simp
          rfl
      refine held_nil ?_
      clear d0'
      apply anyT_one 30
      · rfl
      · kernel_rfl
      · kernel_rfl
      intro K hK
      refine step_app_ents (aq := none) (n := 0) (c := 0) (ax := a5) (m := 1) (cx := c5) (.tmp 116) (.tmp 117) rfl w6.heap.size (by kernel_rfl) (AccE.nil _ _) (by kernel_rfl) HL6.out.es (Below.refl _ _) (Nat.le_refl _) (by omega) (Nat.le_refl _) ?_
      intro a7 c7 w7 h7 hb7
      have HA7 := Lib.hid h7
      have HB7 := Lib.hid hb7
      refine hK _ _ ⟨⟨w7, hb7⟩, rfl⟩ ?_
      clear hK h7 hb7
      apply anyT_one 31
      · rfl
      · kernel_rfl
      · kernel_rfl
      intro K hK
      go_simp
      refine (mright_any a7 1 c7 [e] w7 HA7.out.es).mono ?_
      rintro en w8 ⟨rfl, hb8⟩
      rw [HRT.out]
      have HB8 := Lib.hid (HB7.out.trans (hb8.mono HB7.out.size))
      refine hK _ _ ⟨⟨w8, HB8.out⟩, rfl⟩ ?_
      clear hK hb8 HA7 HB7
      refine anyT_done (by kernel_rfl) ?_
      simp only [opsAt, List.filterMap_cons, List.filterMap_nil, List.getElem?_cons_zero, List.getElem?_cons_succ]
      have HL8 := Lib.hid (HL6.out.below HB8.out)
      have HX8 := Lib.hid (HB6.out.trans (HB8.out.mono HB6.out.size))
      have HW8 := Lib.hid (HBW6.out.trans (HB8.out.mono HBW6.out.size))
      have HT8 := Lib.hid ((HX8.out.block _ HBT3.out).trans HT3.out)
      obtain ⟨b5, o5, a5', d5', e5, he5, _⟩ := HL8.out.es.vals (i := 0) (by omega)
      have hk5 : w8.cell? ⟨b5, o5, none⟩ = some (.string (bstr e.key)) := by simpa [nth] using he5.key
      clear he5
      subst e5
      obtain ⟨c0, c1, c2, cf⟩ := cells3 HT8.out
      clear HB8 HL6 HB6 HBW6 HL5 HB5 HBW5 HP4 HB4 HBW4
      go_upto_region 17 with fail
      have HT8' := Lib.hid (HT8.out)
      go_wp2_with (first
        | (at_builtin; refine app_cel celB rfl _ _ 90 93 rfl Tryz.underlying90 infoBk rfl (by decide) (by decide) w8.heap.size rfl (Acc.nil _ _ _ _) (e := ⟨e.key, 0, A⟩) rfl (bk_box (by first | rfl | simp) ⟨e.key, 0, A⟩) (by omega) (le_alloc (Nat.le_refl _)) ?_; intro a9 c9 w9 h9 hb9 hev9; have HA9 := Lib.hid h9; have HB9 : Hid (Below w8.heap.size w8 w9) := Lib.hid (((Below.refl _ _).alloc (Nat.le_refl _) _).trans hb9); have HX9 := Lib.hid (HX8.out.trans (HB9.out.mono HX8.out.size)); have HT9 := Lib.hid ((HX9.out.block _ HBT3.out).trans HT3.out); have HL9 := Lib.hid (HL8.out.below HB9.out); obtain ⟨p0, p1, p2, pf⟩ := cells3 HT9.out; clear h9 hb9 hev9 c0 c1 c2 cf)
        | (at_builtin; refine app_ents rfl _ _ rfl w9.heap.size rfl (AccE.nil _ _) rfl HL9.out.es (Below.refl _ _) (Nat.le_refl _) (by omega) (Nat.le_refl _) ?_; intro a10 c10 w10 h10 hb10 hev10; have HA10 := Lib.hid h10; have HB10 := Lib.hid hb10; have HX10 := Lib.hid (HX9.out.trans (hb10.mono HX9.out.size)); have HT10 := Lib.hid ((HX10.out.block _ HBT3.out).trans HT3.out); obtain ⟨q0, q1, q2, qf⟩ := cells3 HT10.out; clear h10 hb10 hev10 p0 p1 p2 pf))
      have HS := Lib.hid (oth_setAt w10 bt 0 (.slice a10 1 c10))
      have HTS := Lib.hid (heap_set (j := 0) (v := .slice a10 1 c10) HT10.out)
      have HAS : Hid (AccE (w10.setCell ⟨bt, 0, none⟩ (.slice a10 1 c10)) (bt + 1) a10 1 c10 l) := Lib.hid (by
        have h1 := (HA10.out.mono (B' := bt + 1) (by have := HX9.out.size; have := HBT3.out; omega)).lowOth HS.out (by omega) HT10.out no_tab
        rw [HL1.out]; exact h1)
      have HCS : Hid (Acc celB 93 (w10.setCell ⟨bt, 0, none⟩ (.slice a10 1 c10)) (bt + 1) a9 1 c9 bl) := Lib.hid (by
        have h1 := (HA9.out.below HB10.out).mono (B' := bt + 1) (by have := HX8.out.size; have := HBT3.out; omega)
        rw [HBL.out]; exact ⟨h1.1, own_lowOth h1.2 HS.out (by omega)⟩)
      have HWS : Hid (Below w.heap.size w (w10.setCell ⟨bt, 0, none⟩ (.slice a10 1 c10))) := Lib.hid ((HB3.out.trans (HX10.out.mono HB3.out.size)).trans (HS.out.below (HB3.out.trans (HX10.out.mono HB3.out.size)).size (fun x hx => by cases hx; exact HWB.out)))
      generalize w10.setCell ⟨bt, 0, none⟩ (.slice a10 1 c10) = w11 at *
      go_roundw
      case rel => exact .inl ⟨a9, a10, c9, c10, rfl, by go_num, HTS, HAS, HCS, HWS⟩
      case measure => simp [intOf]; omega
end Go.Proofs.YtjigfinpbdglnaaGreatDoor
