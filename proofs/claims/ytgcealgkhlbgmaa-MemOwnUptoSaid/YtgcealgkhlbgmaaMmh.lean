/- Rows appended to rows: entries, heights. -/
import Derived.Test.YtgcealgkhlbgmaaMmg
namespace Go.Proofs.Ytgcealgkhlbgmaa
open Go.RowKit
set_option linter.unusedVariables false

/-- What is known of an entry's cells in a row that is appended. -/
def EntSrc (w : World) (cs : List Value) (i : Nat) (e : Ent) (aq : Option Addr) : Prop :=
  ∃ ai ci, (∀ j v, (entCells e ai ci)[j]? = some v → cs[i * 4 + j]? = some v) ∧ Bs w ai e.val.length ci e.val ∧ (0 < e.val.length → ∀ x y, ai = some x → aq = some y → x.block ≠ y.block)
theorem src_one {w : World} {cs : List Value} {l : List Ent} {aq : Option Addr} (hl : cs.length = l.length * 4) (h : ∀ i, i < l.length → EntSrc w cs i (nth l i) aq) : ∀ u ∈ cs, u.oneCell' = true := fun u hu => by
  obtain ⟨q, hq, rfl⟩ := List.mem_iff_getElem.1 hu
  have hi : q / 4 < l.length := by omega
  obtain ⟨ai, ci, h1, _⟩ := h (q / 4) hi
  have hj : q % 4 < (entCells (nth l (q / 4)) ai ci).length := by show q % 4 < 4; omega
  have h2 := h1 (q % 4) _ (List.getElem?_eq_getElem hj)
  rw [show q / 4 * 4 + q % 4 = q by omega, List.getElem?_eq_getElem hq] at h2
  have h3 : cs[q] = (entCells (nth l (q / 4)) ai ci)[q % 4] := by simpa using h2
  rw [h3]
  exact entCells_one _ ai ci _ (List.getElem_mem _)
theorem AccE.join {w w' : World} {B n c c' m : Nat} {a a' : Option Addr} {l l2 : List Ent} {cs cs2 : List Value} (hl : l.length = n) (h1 : w.ownsRow B 30 4 (.slice a n c) n cs) (h2 : ∀ i, i < n → EntIn w a cs i (nth l i))
    (hm : l2.length = m) (hl2 : cs2.length = m * 4) (h3 : ∀ i, i < m → EntSrc w cs2 i (nth l2 i) a) (h : w'.ownsRow B 30 4 (.slice a' (n + m) c') (n + m) (cs ++ cs2)) (hev : Evol w a w' a') : AccE w' B a' (n + m) c' (l ++ l2) := by
  have hcl : cs.length = n * 4 := h1.1
  refine ⟨by simp [hl, hm], cs ++ cs2, h, fun i hi => ?_⟩
  by_cases ei : i < n
  · rw [nth_append_left _ _ (by omega)]
    exact (h2 i ei).step hev
  · obtain ⟨ai, ci, g1, g2, g3⟩ := h3 (i - n) (by omega)
    have e1 : nth (l ++ l2) i = nth l2 (i - n) := by
      rw [nth_eq _ (by simp; omega), nth_eq _ (by omega), List.getElem_append_right (by omega)]
      simp [hl]
    rw [e1]
    have h4 : EntIn w a (cs ++ cs2) i (nth l2 (i - n)) := ⟨ai, ci, fun j v hj => by
      rw [List.getElem?_append_right (by omega), hcl, show i * 4 + j - n * 4 = (i - n) * 4 + j by omega]
      exact g1 j v hj, g2, g3⟩
    have := h4.step (cs2 := []) hev
    rwa [List.append_nil] at this
/-- The cells of a part of a row of entries. -/
theorem AccE.part {w : World} {B n c : Nat} {a : Option Addr} {l : List Ent} (h : AccE w B a n c l) {lo hi mx : Nat} (h1 : lo ≤ hi) (h2 : hi ≤ n) (h3 : hi ≤ mx) (D : Nat) (hD : ∀ (e : Ent) ai ci, Bs w ai e.val.length ci e.val → 0 < e.val.length → ∀ x, ai = some x → x.block < D) :
    ∃ cs2, Row w (subAn a mx lo 4) cs2 ∧ cs2.length = (hi - lo) * 4 ∧ ((l.take hi).drop lo).length = hi - lo ∧ ∀ (aq : Option Addr), (∀ y, aq = some y → D ≤ y.block) → ∀ i, i < hi - lo → EntSrc w cs2 i (nth ((l.take hi).drop lo) i) aq := by
  obtain ⟨cs, k1, k2⟩ := h.row
  have hcl : cs.length = n * 4 := k1.1
  have hll := h.len
  have hr := Row.of_own k1
  refine ⟨(cs.take (hi * 4)).drop (lo * 4), fun j v hj => ?_, by simp; omega, by simp; omega, fun aq haq i hi' => ?_⟩
  · rw [List.getElem?_drop] at hj
    have hjl := (List.getElem?_eq_some_iff.1 hj).1
    rw [List.length_take] at hjl
    rw [List.getElem?_take, if_pos (by omega)] at hj
    obtain ⟨b, off, e, hc⟩ := hr _ _ hj
    subst e
    refine ⟨b, off + lo * 4, ?_, by rw [Nat.add_assoc]; exact hc⟩
    unfold subAn
    rw [if_neg (by omega)]
    simp [Addr.add_lit]
  · have e1 : nth ((l.take hi).drop lo) i = nth l (lo + i) := by
      rw [nth_eq _ (by simp; omega), nth_eq _ (by omega)]
      simp
    obtain ⟨ai, ci, g1, g2, g3⟩ := k2 (lo + i) (by omega)
    rw [e1]
    refine ⟨ai, ci, fun j v hj => ?_, g2, fun h0 x y hx hy e => ?_⟩
    · have hj4 : j < 4 := (List.getElem?_eq_some_iff.1 hj).1
      rw [List.getElem?_drop, List.getElem?_take, if_pos (by omega), show lo * 4 + (i * 4 + j) = (lo + i) * 4 + j by omega]
      exact g1 j v hj
    · have := hD _ _ _ g2 h0 x hx
      have := haq y hy
      omega
theorem AccE.front {w : World} {B n c : Nat} {a : Option Addr} {l : List Ent} (h : AccE w B a n c l) {hi : Nat} (h2 : hi ≤ n) :
    ∃ cs2, cs2.length = hi * 4 ∧ (l.take hi).length = hi ∧ ∀ (V : World) (aq : Option Addr), Below w.heap.size w V → (∀ y, aq = some y → w.heap.size ≤ y.block) → Row V a cs2 ∧ ∀ i, i < hi → EntSrc V cs2 i (nth (l.take hi) i) aq := by
  obtain ⟨cs, k1, k2⟩ := h.row
  have hcl : cs.length = n * 4 := k1.1
  have hll := h.len
  have hr := Row.of_own k1
  refine ⟨cs.take (hi * 4), by simp; omega, by simp; omega, fun V aq hV haq => ⟨Row.below (fun j v hj => hr j v (by
    rw [List.getElem?_take] at hj
    split at hj
    · exact hj
    · cases hj)) hV, fun i hi' => ?_⟩⟩
  have e1 : nth (l.take hi) i = nth l i := by
    rw [nth_eq _ (by simp; omega), nth_eq _ (by omega)]
    simp
  obtain ⟨ai, ci, g1, g2, g3⟩ := k2 i (by omega)
  rw [e1]
  refine ⟨ai, ci, fun j v hj => ?_, g2.below hV, fun h0 x y hx hy e => ?_⟩
  · have hj4 : j < 4 := (List.getElem?_eq_some_iff.1 hj).1
    rw [List.getElem?_take, if_pos (by omega)]
    exact g1 j v hj
  · have := g2.old h0 x hx
    have := haq y hy
    omega
/-- The rest of a row of entries. -/
theorem AccE.rear {w : World} {B n c : Nat} {a : Option Addr} {l : List Ent} (h : AccE w B a n c l) {lo : Nat} (h2 : lo ≤ n) :
    ∃ cs2, cs2.length = (n - lo) * 4 ∧ (l.drop lo).length = n - lo ∧ ∀ (V : World) (aq : Option Addr), Below w.heap.size w V → (∀ y, aq = some y → w.heap.size ≤ y.block) → Row V (subAn a c lo 4) cs2 ∧ ∀ i, i < n - lo → EntSrc V cs2 i (nth (l.drop lo) i) aq := by
  obtain ⟨cs, k1, k2⟩ := h.row
  have hcl : cs.length = n * 4 := k1.1
  have hll := h.len
  have hc := h.cap.1
  have hr := Row.of_own k1
  refine ⟨cs.drop (lo * 4), by simp; omega, by simp; omega, fun V aq hV haq => ⟨Row.below (fun j v hj => ?_) hV, fun i hi' => ?_⟩⟩
  · rw [List.getElem?_drop] at hj
    have hjl := (List.getElem?_eq_some_iff.1 hj).1
    obtain ⟨b, off, e, hcc⟩ := hr _ _ hj
    subst e
    refine ⟨b, off + lo * 4, ?_, by rw [Nat.add_assoc]; exact hcc⟩
    unfold subAn
    rw [if_neg (by omega)]
    simp [Addr.add_lit]
  · have e1 : nth (l.drop lo) i = nth l (lo + i) := by
      rw [nth_eq _ (by simp; omega), nth_eq _ (by omega)]
      simp
    obtain ⟨ai, ci, g1, g2, g3⟩ := k2 (lo + i) (by omega)
    rw [e1]
    refine ⟨ai, ci, fun j v hj => ?_, g2.below hV, fun h0 x y hx hy e => ?_⟩
    · rw [List.getElem?_drop, show lo * 4 + (i * 4 + j) = (lo + i) * 4 + j by omega]
      exact g1 j v hj
    · have := g2.old h0 x hx
      have := haq y hy
      omega
theorem EntAt.evol {w w' : World} {j o : Nat} {e : Ent} {a aq a' : Option Addr} {c : Nat} (h : EntAt w j o e a c) (k : Evol w aq w' a') (hne : ∀ x, aq = some x → x.block ≠ j) : EntAt w' j o e a c := by
  have hc : ∀ (i : Nat) (v : Value), w.cell? ⟨j, i, none⟩ = some v → w'.cell? ⟨j, i, none⟩ = some v := fun i v hv =>
    (World.cell?_of_block (k.1.block j (World.block_lt_of_cell? _ _ hv) (fun e => by
      cases aq with
      | none => cases e
      | some x => exact hne x rfl (by simpa using e.symm)))).trans hv
  exact ⟨hc _ _ h.key, hc _ _ h.seq, hc _ _ h.gone, hc _ _ h.val⟩
/-- One entry in a box. -/
theorem src_box {w V : World} {e : Ent} {a aq : Option Addr} {c j : Nat} (hv : Bs w a e.val.length c e.val) (hV : Below w.heap.size w V) (hE : EntAt V j 0 e a c) (haq : ∀ y, aq = some y → w.heap.size ≤ y.block) :
    Row V (some ⟨j, 0, none⟩) (entCells e a c) ∧ ∀ i, i < 1 → EntSrc V (entCells e a c) i (nth [e] i) aq := by
  refine ⟨fun m v hm => ⟨j, 0, rfl, hE.cells m v hm⟩, fun i hi => ?_⟩
  obtain rfl : i = 0 := by omega
  refine ⟨a, c, fun m v hm => by rw [Nat.zero_mul, Nat.zero_add]; exact hm, hv.below hV, fun h0 x y hx hy e2 => ?_⟩
  have := hv.old h0 x hx
  have := haq y hy
  omega
def hv (l : List Nat) : List Value := l.map fun (z : Nat) => .int .i64 z
theorem hv_one (l : List Nat) : ∀ u ∈ hv l, u.oneCell' = true := fun u hu => by
  obtain ⟨z, _, rfl⟩ := List.mem_map.1 hu
  rfl
/-- A row of heights of the call's own. -/
def AccH (w : World) (B : Nat) (a : Option Addr) (n c : Nat) (l : List Nat) : Prop := w.ownsRow B 3 1 (.slice a n c) n (hv l)
section
variable {w : World} {ops : Array Oper} {rest : List Oper} {o : Oper} {a : Act} {Q : Exit → Act → World → Prop}
/-- append to a row of the call's own, as one operation. -/
theorem wp_app_own {P : Program} {K : Act → World → Prop} (s x : Operand) (t : TypeId) (ho : o.op = .call { callee := .builtin .append, args := #[s, x], argTypes := #[t, t] })
    (B e : Nat) (i : TypeInfo) (z : Value) (size bytes : Nat) (ht : P.underlying t = some (.slice e)) (hi : P.info? e = some i) (hz : i.zero = some z) (hsize : i.size = size) (hby : i.bytes = bytes) (hzs : z.cells.size = size) (hsz : 0 < size)
    (aq : Option Addr) (n cq : Nat) (xs : List Value) (hs : a.eval s = .slice aq n cq) (hown : w.ownsRow B e size (.slice aq n cq) n xs)
    (ax : Option Addr) (m c : Nat) (news : List Value) (hx : a.eval x = .slice ax m c) (hr : Row w ax news) (hl : news.length = m * size) (h1 : ∀ u ∈ news, u.oneCell' = true) (hbytes : (n + m) * bytes ≤ 140737488355328) (h63 : n + m ≤ maxLen) (hbase : B ≤ w.heap.size)
    (h : ∀ a' c' w', w'.ownsRow B e size (.slice a' (n + m) c') (n + m) (xs ++ news) → Evol w aq w' a' → K (a.put o.dst (.slice a' (n + m) c')) w') : o.wp P a w K Q := by
  obtain ⟨a', c', w', hr, h2, h3⟩ := run_append_own' (P := P) w B t o.type e i z size bytes ht hi hz hsize hby hzs hsz aq n cq xs hown ax m c news hl hr h1 hbytes h63 hbase
  unfold Oper.wp execOp
  simp only [ho, resolve, invoke, builtin, Sem.run_bind, Sem.run_pure, Result.andThen_ok, List.map_toArray, List.map_cons, List.map_nil, hs, hx, hr]
  exact h _ _ _ h2 h3
theorem app_entsO {K : Act → World → Prop} (s x : Operand) (ho : o.op = .call { callee := .builtin .append, args := #[s, x], argTypes := #[23, 23] })
    (B : Nat) {aq : Option Addr} {n c : Nat} {l : List Ent} (hs : a.eval s = .slice aq n c) (hacc : AccE w B aq n c l)
    {ax : Option Addr} {m cx : Nat} {l2 : List Ent} {cs2 : List Value} (hx : a.eval x = .slice ax m cx) (hr : Row w ax cs2) (hl2 : cs2.length = m * 4) (hm : l2.length = m) (h3 : ∀ i, i < m → EntSrc w cs2 i (nth l2 i) aq) (hb : n + m ≤ 1000000000) (hB : B ≤ w.heap.size)
    (h : ∀ a' c' w', AccE w' B a' (n + m) c' (l ++ l2) → Below B w w' → Evol w aq w' a' → K (a.put o.dst (.slice a' (n + m) c')) w') : o.wp Try.prog a w K Q := by
  obtain ⟨i, hi, h0, h1, h2⟩ := info_parts infoE
  obtain ⟨cs, hown, hin⟩ := hacc.row
  refine wp_app_own s x 23 ho B 30 i (.agg #[.string ByteArray.empty, .int .u64 0, .bool false, .slice none 0 0]) 4 56 Try.underlying23 hi h0 h1 h2 rfl (by decide) aq n c cs hs hown ax m cx cs2 hx hr hl2 (src_one (l := l2) (aq := aq) (by rw [hm]; exact hl2) (fun i hi => h3 i (by omega))) (by omega) (by simp only [maxLen]; omega) hB ?_
  intro a' c' w' g1 g2
  exact h a' c' w' (AccE.join hacc.len hown hin hm hl2 h3 g1 g2) (g2.below hB (fun x hx => by subst hx; exact (World.ownsRow.lt hown x.block rfl).1)) g2
theorem app_ents (hgd : Region.wanted o (yielded ops a.tmps) = true) (s x : Operand) (ho : o.op = .call { callee := .builtin .append, args := #[s, x], argTypes := #[23, 23] })
    (B : Nat) {aq : Option Addr} {n c : Nat} {l : List Ent} (hs : a.eval s = .slice aq n c) (hacc : AccE w B aq n c l)
    {ax : Option Addr} {m cx : Nat} {l2 : List Ent} {cs2 : List Value} (hx : a.eval x = .slice ax m cx) (hr : Row w ax cs2) (hl2 : cs2.length = m * 4) (hm : l2.length = m) (h3 : ∀ i, i < m → EntSrc w cs2 i (nth l2 i) aq) (hb : n + m ≤ 1000000000) (hB : B ≤ w.heap.size)
    (h : ∀ a' c' w', AccE w' B a' (n + m) c' (l ++ l2) → Below B w w' → Evol w aq w' a' → wpList Try.prog ops Q rest (a.put o.dst (.slice a' (n + m) c')) w') : wpList Try.prog ops Q (o :: rest) a w := by
  obtain ⟨i, hi, h0, h1, h2⟩ := info_parts infoE
  obtain ⟨cs, hown, hin⟩ := hacc.row
  refine wpList_app_own hgd s x 23 ho B 30 i (.agg #[.string ByteArray.empty, .int .u64 0, .bool false, .slice none 0 0]) 4 56 Try.underlying23 hi h0 h1 h2 rfl (by decide) aq n c cs hs hown ax m cx cs2 hx hr hl2 (src_one (l := l2) (aq := aq) (by rw [hm]; exact hl2) (fun i hi => h3 i (by omega))) (by omega) (by simp only [maxLen]; omega) hB ?_
  intro a' c' w' g1 g2
  exact h a' c' w' (AccE.join hacc.len hown hin hm hl2 h3 g1 g2) (g2.below hB (fun x hx => by subst hx; exact (World.ownsRow.lt hown x.block rfl).1)) g2
theorem app_hs (hgd : Region.wanted o (yielded ops a.tmps) = true) (s x : Operand) (ho : o.op = .call { callee := .builtin .append, args := #[s, x], argTypes := #[22, 22] })
    (B : Nat) {aq : Option Addr} {n c : Nat} {l : List Nat} (hs : a.eval s = .slice aq n c) (hown : AccH w B aq n c l)
    {ax : Option Addr} {m cx : Nat} {l2 : List Nat} (hx : a.eval x = .slice ax m cx) (hr : Row w ax (hv l2)) (hm : l2.length = m) (hb : n + m ≤ 1000000000) (hB : B ≤ w.heap.size)
    (h : ∀ a' c' w', AccH w' B a' (n + m) c' (l ++ l2) → Below B w w' → Evol w aq w' a' → wpList Try.prog ops Q rest (a.put o.dst (.slice a' (n + m) c')) w') : wpList Try.prog ops Q (o :: rest) a w := by
  obtain ⟨i, hi, h0, h1, h2⟩ := info_parts infoI
  refine wpList_app_own hgd s x 22 ho B 3 i (.int .i64 0) 1 8 Try.underlying22 hi h0 h1 h2 rfl (by decide) aq n c _ hs hown ax m cx (hv l2) hx hr (by simp [hv, hm]) (hv_one l2) (by omega) (by simp only [maxLen]; omega) hB ?_
  intro a' c' w' g1 g2
  exact h a' c' w' (by unfold AccH hv; rw [List.map_append]; exact g1) (g2.below hB (fun x hx => by subst hx; exact (World.ownsRow.lt hown x.block rfl).1)) g2
end
theorem accE_lit (w : World) : AccE (w.alloc (.cells #[] 30)) w.heap.size (some ⟨w.heap.size, 0, none⟩) 0 0 [] :=
  ⟨rfl, [], ⟨rfl, .inr ⟨w.heap.size, 0, #[], rfl, Nat.le_refl _, heap_alloc_new w _, Nat.le_refl _, by simp [maxLen], rfl, rfl⟩⟩, fun i hi => by omega⟩
theorem accH_lit (w : World) : AccH (w.alloc (.cells #[] 3)) w.heap.size (some ⟨w.heap.size, 0, none⟩) 0 0 [] :=
  ⟨rfl, .inr ⟨w.heap.size, 0, #[], rfl, Nat.le_refl _, heap_alloc_new w _, Nat.le_refl _, by simp [maxLen], rfl, rfl⟩⟩
theorem AccH.row {w : World} {B n c : Nat} {a : Option Addr} {l : List Nat} (h : AccH w B a n c l) : Row w a (hv l) ∧ l.length = n := by
  have h1 : (hv l).length = n * 1 := h.1
  exact ⟨Row.of_own h, by simpa [hv] using h1⟩
theorem AccH.front {w : World} {B n c : Nat} {a : Option Addr} {l : List Nat} (h : AccH w B a n c l) {hi : Nat} (h2 : hi ≤ n) : Row w a (hv (l.take hi)) ∧ (l.take hi).length = hi := by
  obtain ⟨hr, hl⟩ := h.row
  refine ⟨fun j v hj => hr j v ?_, by simp; omega⟩
  unfold hv at hj ⊢
  rw [List.getElem?_map, List.getElem?_take] at hj
  split at hj
  · rw [List.getElem?_map]; exact hj
  · cases hj
theorem hv_box {w : World} {h : Nat} : Row (w.alloc (.cells #[.int .i64 (h : Nat)] 3)) (some ⟨w.heap.size, 0, none⟩) (hv [h]) := fun j v hj => by
  refine ⟨w.heap.size, 0, rfl, ?_⟩
  cases j with
  | zero => simp [hv] at hj; subst hj; exact cell_of_row _ _ 0 _ _ _ (heap_alloc_new w _)
  | succ j => simp [hv] at hj
theorem AccH.part {w : World} {B n c : Nat} {a : Option Addr} {l : List Nat} (h : AccH w B a n c l) {lo hi mx : Nat} (h1 : lo ≤ hi) (h2 : hi ≤ n) (h3 : hi ≤ mx) : Row w (subAn a mx lo 1) (hv ((l.take hi).drop lo)) ∧ ((l.take hi).drop lo).length = hi - lo := by
  obtain ⟨hr, hl⟩ := h.row
  refine ⟨fun j v hj => ?_, by simp; omega⟩
  unfold hv at hj
  rw [List.getElem?_map, List.getElem?_drop] at hj
  have hjl : lo + j < hi := by
    have := List.getElem?_eq_some_iff.1 (Option.map_eq_some_iff.1 hj).choose_spec.1
    have := this.1
    rw [List.length_take] at this
    omega
  rw [List.getElem?_take, if_pos hjl, ← List.getElem?_map] at hj
  obtain ⟨b, off, e, hc⟩ := hr (lo + j) v hj
  subst e
  refine ⟨b, off + lo * 1, ?_, by rw [Nat.mul_one, Nat.add_assoc]; exact hc⟩
  unfold subAn
  rw [if_neg (by omega)]
  simp [Addr.add_lit]
end Go.Proofs.Ytgcealgkhlbgmaa
