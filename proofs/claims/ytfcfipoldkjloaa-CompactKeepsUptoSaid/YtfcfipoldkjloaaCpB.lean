/- compact: rows of entries cloned, appended; rows of rows. -/
import Derived.Test.YtfcfipoldkjloaaCpA
import Derived.Test.YtfcfipoldkjloaaCgX
set_option maxRecDepth 100000
set_option linter.unusedVariables false
set_option linter.unusedSimpArgs false
namespace Go.Proofs.Ytfcfipoldkjloaa
open Go.RowKit

def EntO (w : World) (O : Nat) (cs : List Value) (i : Nat) (e : Ent) : Prop :=
  ∃ ai ci, (∀ j v, (entCells e ai ci)[j]? = some v → cs[i * 4 + j]? = some v) ∧ Bs w ai e.val.length ci e.val ∧ (0 < e.val.length → ∀ x, ai = some x → x.block < O)
/-- A row of entries that is the call's own; their values lie below O. -/
structure AccO (w : World) (B O : Nat) (a : Option Addr) (n c : Nat) (l : List Ent) : Prop where
  len : l.length = n
  row : ∃ cs, w.ownsRow B 33 4 (.slice a n c) n cs ∧ ∀ i, i < n → EntO w O cs i (nth l i)
theorem AccO.nil (w : World) (B O : Nat) : AccO w B O none 0 0 [] := ⟨rfl, [], World.ownsRow_nil w B _ _, fun i hi => by omega⟩
theorem AccO.new {w : World} {B O n c : Nat} {a : Option Addr} {l : List Ent} (h : AccO w B O a n c l) : ∀ z, a = some z → B ≤ z.block ∧ z.block < w.heap.size := by
  obtain ⟨cs, h1, _⟩ := h.row
  intro z hz
  subst hz
  exact World.ownsRow.lt h1 z.block rfl
theorem AccO.es {w : World} {B O n c : Nat} {a : Option Addr} {l : List Ent} (h : AccO w B O a n c l) (hO : O ≤ B) : Es w a n c l := by
  obtain ⟨cs, h1, h2⟩ := h.row
  have : AccE w B a n c l := by
    refine ⟨h.len, cs, h1, fun i hi => ?_⟩
    obtain ⟨ai, ci, g1, g2, g3⟩ := h2 i hi
    exact ⟨ai, ci, g1, g2, fun h0 x y hx hy e => by have := g3 h0 x hx; have := (h.new y hy).1; omega⟩
  exact this.es
theorem AccO.acc {w : World} {B O n c : Nat} {a : Option Addr} {l : List Ent} (h : AccO w B O a n c l) (hO : O ≤ B) : AccE w B a n c l := by
  obtain ⟨cs, h1, h2⟩ := h.row
  refine ⟨h.len, cs, h1, fun i hi => ?_⟩
  obtain ⟨ai, ci, g1, g2, g3⟩ := h2 i hi
  exact ⟨ai, ci, g1, g2, fun h0 x y hx hy e => by have := g3 h0 x hx; have := (h.new y hy).1; omega⟩
/-- A change of another block. -/
theorem AccO.other {w w' : World} {B O n c : Nat} {a : Option Addr} {l : List Ent} {row : Option Nat} (h : AccO w B O a n c l) (hg : w.grownBy w' row) (hne : ∀ g, row = some g → O ≤ g ∧ ∀ z, a = some z → z.block ≠ g) : AccO w' B O a n c l := by
  obtain ⟨cs, h1, h2⟩ := h.row
  refine ⟨h.len, cs, h1.kept hg ?_, fun i hi => ?_⟩
  · rw [own_block h1]
    cases a with
    | none =>
      exact .inl rfl
    | some x =>
      refine .inr fun e => ?_
      exact (hne x.block (by simpa using e.symm)).2 x rfl rfl
  · obtain ⟨ai, ci, g1, g2, g3⟩ := h2 i hi
    refine ⟨ai, ci, g1, ⟨g2.1, g2.2.1, g2.2.2.1, ?_⟩, g3⟩
    by_cases h0 : 0 < (nth l i).val.length
    · refine g2.2.2.2.grown hg fun x hx e => ?_
      have := g3 h0 x hx
      have := (hne x.block e.symm).1
      omega
    · have : (nth l i).val = [] := List.eq_nil_of_length_eq_zero (by omega)
      rw [this]
      exact Row.nil _ _
/-- What is known of an entry's cells in a row that is appended. -/
def EntSrc (w : World) (cs : List Value) (i : Nat) (e : Ent) (aq : Option Addr) : Prop :=
  ∃ ai ci, (∀ j v, (entCells e ai ci)[j]? = some v → cs[i * 4 + j]? = some v) ∧ Bs w ai e.val.length ci e.val ∧ (0 < e.val.length → ∀ x y, ai = some x → aq = some y → x.block ≠ y.block)
theorem src_one {w : World} {cs : List Value} {l : List Ent} {aq : Option Addr} (hl : cs.length = l.length * 4) (h : ∀ i, i < l.length → EntSrc w cs i (nth l i) aq) : ∀ u ∈ cs, u.oneCell' = true := fun u hu => by
  obtain ⟨q, hq, rfl⟩ := List.mem_iff_getElem.1 hu
  have hi : q / 4 < l.length := by omega
  obtain ⟨ai, ci, h1, _⟩ := h (q / 4) hi
  have hj : q % 4 < (entCells (nth l (q / 4)) ai ci).length := by show q % 4 < 4; omega
  have h2 := h1 (q % 4) _ (List.getElem?_eq_getElem hj)
  rw [show q / 4 * 4 + q % 4 = q by omega, List.getElem?_eq_getElem hq] at h2
  have h3 : cs[q] = (entCells (nth l (q / 4)) ai ci)[q % 4] := by simpa using h2
  rw [h3]
  exact entCells_one _ ai ci _ (List.getElem_mem _)
theorem AccE.join {w w' : World} {B n c c' m : Nat} {a a' : Option Addr} {l l2 : List Ent} {cs cs2 : List Value} (hl : l.length = n) (h1 : w.ownsRow B 33 4 (.slice a n c) n cs) (h2 : ∀ i, i < n → EntIn w a cs i (nth l i))
    (hm : l2.length = m) (hl2 : cs2.length = m * 4) (h3 : ∀ i, i < m → EntSrc w cs2 i (nth l2 i) a) (h : w'.ownsRow B 33 4 (.slice a' (n + m) c') (n + m) (cs ++ cs2)) (hev : Evol w a w' a') : AccE w' B a' (n + m) c' (l ++ l2) := by
  have hcl : cs.length = n * 4 := h1.1
  refine ⟨by simp [hl, hm], cs ++ cs2, h, fun i hi => ?_⟩
  by_cases ei : i < n
  · rw [nth_append_left _ _ (by omega)]
    exact (h2 i ei).step hev
  · obtain ⟨ai, ci, g1, g2, g3⟩ := h3 (i - n) (by omega)
    have e1 : nth (l ++ l2) i = nth l2 (i - n) := by
      rw [nth_eq _ (by simp; omega), nth_eq _ (by omega), List.getElem_append_right (by omega)]
      simp [hl]
    rw [e1]
    have h4 : EntIn w a (cs ++ cs2) i (nth l2 (i - n)) := ⟨ai, ci, fun j v hj => by
      rw [List.getElem?_append_right (by omega), hcl, show i * 4 + j - n * 4 = (i - n) * 4 + j by omega]
      exact g1 j v hj, g2, g3⟩
    have := h4.step (cs2 := []) hev
    rwa [List.append_nil] at this
theorem es_cells {w : World} {a : Option Addr} {l : List Ent} : ∀ (n : Nat), (∀ i, i < n → ∃ b off ai ci, a = some ⟨b, off, none⟩ ∧ EntAt w b (off + i * 4) (nth l i) ai ci ∧ Bs w ai (nth l i).val.length ci (nth l i).val) →
    ∃ cs, cs.length = n * 4 ∧ Row w a cs ∧ ∀ i, i < n → ∃ ai ci, (∀ j v, (entCells (nth l i) ai ci)[j]? = some v → cs[i * 4 + j]? = some v) ∧ Bs w ai (nth l i).val.length ci (nth l i).val
  | 0, _ => ⟨[], rfl, Row.nil _ _, fun i hi => by omega⟩
  | n + 1, h => by
    obtain ⟨cs, h1, h2, h3⟩ := es_cells n (fun i hi => h i (by omega))
    obtain ⟨b, off, ai, ci, rfl, he, hv⟩ := h n (by omega)
    have hc := he.cells
    refine ⟨cs ++ entCells (nth l n) ai ci, by rw [List.length_append, h1]; show n * 4 + 4 = _; omega, fun j v hj => ?_, fun i hi => ?_⟩
    · by_cases hjn : j < n * 4
      · rw [List.getElem?_append_left (by omega)] at hj
        exact h2 j v hj
      · rw [List.getElem?_append_right (by omega), h1] at hj
        have := hc _ _ hj
        exact ⟨b, off, rfl, by rw [show off + j = off + n * 4 + (j - n * 4) by omega]; exact this⟩
    · by_cases e : i = n
      · subst e
        exact ⟨ai, ci, fun j v hj => by rw [List.getElem?_append_right (by omega), h1, Nat.add_sub_cancel_left]; exact hj, hv⟩
      · obtain ⟨ai', ci', g1, g2⟩ := h3 i (by omega)
        exact ⟨ai', ci', fun j v hj => by rw [List.getElem?_append_left (List.getElem?_eq_some_iff.1 (g1 j v hj)).1]; exact g1 j v hj, g2⟩
/-- The cells of a slice of entries that is read, as the source of an append. -/
theorem Es.src {w : World} {a : Option Addr} {n c : Nat} {l : List Ent} (h : Es w a n c l) :
    ∃ cs2, cs2.length = n * 4 ∧ ∀ (V : World) (aq : Option Addr), Below w.heap.size w V → (∀ y, aq = some y → w.heap.size ≤ y.block) → Row V a cs2 ∧ ∀ i, i < n → EntSrc V cs2 i (nth l i) aq := by
  obtain ⟨cs, h1, h2, h3⟩ := es_cells n h.2.2.2
  refine ⟨cs, h1, fun V aq hV haq => ⟨h2.below hV, fun i hi => ?_⟩⟩
  obtain ⟨ai, ci, g1, g2⟩ := h3 i hi
  refine ⟨ai, ci, g1, g2.below hV, fun h0 x y hx hy e => ?_⟩
  have := g2.old h0 x hx
  have := haq y hy
  omega
section
variable {w : World} {ops : Array Oper} {rest : List Oper} {o : Oper} {a : Act} {Q : Exit → Act → World → Prop}
/-- append of a slice of entries. -/
theorem app_ents (hgd : Region.wanted o (yielded ops a.tmps) = true) (s x : Operand) (ho : o.op = .call { callee := .builtin .append, args := #[s, x], argTypes := #[26, 26] })
    (B : Nat) {aq : Option Addr} {n c : Nat} {l : List Ent} (hs : a.eval s = .slice aq n c) (hacc : AccE w B aq n c l)
    {ax : Option Addr} {m cx : Nat} {l2 : List Ent} (hx : a.eval x = .slice ax m cx) {w0 : World} (hr : Es w0 ax m cx l2) (hw0 : Below w0.heap.size w0 w) (h0B : w0.heap.size ≤ B)
    (hb : n + m ≤ 1000000000) (hB : B ≤ w.heap.size)
    (h : ∀ a' c' w', AccE w' B a' (n + m) c' (l ++ l2) → Below B w w' → Evol w aq w' a' → wpList Try.prog ops Q rest (a.put o.dst (.slice a' (n + m) c')) w') : wpList Try.prog ops Q (o :: rest) a w := by
  obtain ⟨i, hi, hz, h1, h2⟩ := info_parts infoE
  obtain ⟨cs, hown, hin⟩ := hacc.row
  obtain ⟨cs2, hl2, hsrc⟩ := hr.src
  obtain ⟨hrow, hsr⟩ := hsrc w aq hw0 (fun y hy => Nat.le_trans h0B (hacc.new y hy).1)
  have hll := hr.1
  refine wpList_app_own hgd s x 26 ho B 33 i (.agg #[.string ByteArray.empty, .int .u64 0, .bool false, .slice none 0 0]) 4 56 Try.underlying26 hi hz h1 h2 rfl (by decide) aq n c cs hs hown ax m cx cs2 hx hrow hl2 (src_one (l := l2) (aq := aq) (by rw [hll]; exact hl2) (fun i hi => hsr i (by omega))) (by omega) (by simp only [maxLen]; omega) hB ?_
  intro a' c' w' g1 g2
  exact h a' c' w' (AccE.join hacc.len hown hin hll hl2 hsr g1 g2) (g2.below hB (fun x hx => (hacc.new x hx).1)) g2
end
set_option maxHeartbeats 1000000 in
theorem clonees_any (a : Option Addr) (n c : Nat) (l : List Ent) (w0 w : World) (h : Es w0 a n c l) (hw : Below w0.heap.size w0 w) (hn : n ≤ 1000000) :
    Calls Try.prog 25 #[.slice a n c] w fun e w' => ∃ a' c', e = .returned (.slice a' n c') ∧ AccO w' w.heap.size w0.heap.size a' n c' l ∧ Below w.heap.size w w' := by
  have hq := fun (w : World) => Lib.run_eql_slice_nil (P := Try.prog) w 26 33 a n c 0 0 Try.underlying26
  have hle := h.le
  cases a with
  | none =>
    go_enter Try.func25, Try.ntmps25
    go_wp2
    go_ret
    have hn0 : n = 0 := by
      rcases Nat.eq_zero_or_pos n with h' | h'
      · exact h'
      · obtain ⟨_, _, _, _, h1, _⟩ := h.vals h'; cases h1
    subst hn0
    obtain rfl : l = [] := List.eq_nil_of_length_eq_zero h.1
    exact ⟨none, 0, rfl, AccO.nil _ _ _, Below.refl _ _⟩
  | some ad =>
    obtain ⟨i0, hi0, hz0, hz1, hz2⟩ := info_parts infoE
    obtain ⟨cs, hcl, hrow0, hcs⟩ := es_cells n h.2.2.2
    have hrow : Row (w.alloc (.cells #[] 33)) (some ad) cs := (hrow0.below hw).below (below_alloc1 w _)
    have hone : ∀ u ∈ cs, u.oneCell' = true := by
      refine src_one (w := w0) (l := l) (aq := none) (by rw [h.1]; exact hcl) (fun i hi => ?_)
      obtain ⟨ai, ci, g1, g2⟩ := hcs i (by rw [h.1] at hi; exact hi)
      exact ⟨ai, ci, g1, g2, fun _ x y _ hy => by cases hy⟩
    have hlit : (w.alloc (.cells #[] 33)).ownsRow w.heap.size 33 4 (.slice (some ⟨w.heap.size, 0, none⟩) 0 0) 0 [] :=
      ⟨rfl, .inr ⟨w.heap.size, 0, #[], rfl, Nat.le_refl _, heap_alloc_new w _, Nat.le_refl _, by simp [maxLen], rfl, rfl⟩⟩
    have HROW := Lib.hid hrow
    have HONE := Lib.hid hone
    have HLIT := Lib.hid hlit
    have HCL := Lib.hid hcl
    have HI := Lib.hid (And.intro hi0 (And.intro hz0 (And.intro hz1 hz2)))
    have HW := Lib.hid hw
    clear hrow hone hlit hcl hi0 hz0 hz1 hz2 hrow0 hw
    go_enter Try.func25, Try.ntmps25
    go_wp2_with (at_builtin; refine wpList_app_own rfl _ _ 26 rfl w.heap.size 33 i0 (.agg #[.string ByteArray.empty, .int .u64 0, .bool false, .slice none 0 0]) 4 56 Try.underlying26 HI.out.1 HI.out.2.1 HI.out.2.2.1 HI.out.2.2.2 rfl (by decide) (some ⟨w.heap.size, 0, none⟩) 0 0 [] rfl HLIT.out (some ad) n c cs rfl HROW.out HCL.out HONE.out (by omega) (by simp only [maxLen]; omega) (le_alloc (Nat.le_refl _)) ?_; intro a5 c5 w5 h5 hev5)
    go_ret
    simp only [Nat.zero_add, List.nil_append] at h5
    have hb5 : Below w.heap.size w w5 := (below_alloc1 w _).trans (hev5.below (B := w.heap.size) (le_alloc (Nat.le_refl _)) (fun x hx => by cases hx; exact Nat.le_refl _))
    refine ⟨a5, c5, by simp, ⟨h.1, cs, h5, fun i hi => ?_⟩, hb5⟩
    obtain ⟨ai, ci, g1, g2⟩ := hcs i hi
    exact ⟨ai, ci, g1, (g2.below HW.out).below hb5, fun h0 x hx => g2.old h0 x hx⟩

/-! Parts: a row of rows. -/
/-- A row of rows of entries that is the call's own, from O on; their values lie below O. -/
structure Parts (w : World) (O : Nat) (a : Option Addr) (n c : Nat) (ls : List (List Ent)) : Prop where
  len : ls.length = n
  row : ∃ cs, w.ownsRow O 26 1 (.slice a n c) n cs ∧ ∀ i, i < n → ∃ ai ci, cs[i]? = some (.slice ai (nth ls i).length ci) ∧ AccO w O O ai (nth ls i).length ci (nth ls i)
theorem Parts.nil (w : World) (O : Nat) : Parts w O none 0 0 [] := ⟨rfl, [], World.ownsRow_nil w O _ _, fun i hi => by omega⟩
theorem AccO.below {w w' : World} {B O n c : Nat} {a : Option Addr} {l : List Ent} (h : AccO w B O a n c l) (hb : Below w.heap.size w w') : AccO w' B O a n c l := by
  obtain ⟨cs, h1, h2⟩ := h.row
  exact ⟨h.len, cs, own_below h1 hb, fun i hi => by obtain ⟨ai, ci, g1, g2, g3⟩ := h2 i hi; exact ⟨ai, ci, g1, g2.below hb, g3⟩⟩
theorem AccO.mono {w : World} {B B' O n c : Nat} {a : Option Addr} {l : List Ent} (h : AccO w B O a n c l) (hB : B' ≤ B) : AccO w B' O a n c l := by
  obtain ⟨cs, h1, h2⟩ := h.row
  exact ⟨h.len, cs, own_mono h1 hB, h2⟩
theorem Parts.below {w w' : World} {O n c : Nat} {a : Option Addr} {ls : List (List Ent)} (h : Parts w O a n c ls) (hb : Below w.heap.size w w') : Parts w' O a n c ls := by
  obtain ⟨cs, h1, h2⟩ := h.row
  exact ⟨h.len, cs, own_below h1 hb, fun i hi => by obtain ⟨ai, ci, g1, g2⟩ := h2 i hi; exact ⟨ai, ci, g1, g2.below hb⟩⟩
theorem Parts.cap {w : World} {O n c : Nat} {a : Option Addr} {ls : List (List Ent)} (h : Parts w O a n c ls) : n ≤ c ∧ c ≤ maxLen := by
  obtain ⟨cs, h1, _⟩ := h.row
  exact (own_cap h1).2
theorem Parts.ess {w : World} {O n c : Nat} {a : Option Addr} {ls : List (List Ent)} (h : Parts w O a n c ls) : Ess w a n c ls := by
  obtain ⟨cs, h1, h2⟩ := h.row
  refine ⟨h.len, h.cap.1, h.cap.2, fun i hi => ?_⟩
  obtain ⟨ai, ci, g1, g2⟩ := h2 i hi
  obtain ⟨b, off, rfl, k⟩ := (Row.of_own h1) i _ g1
  exact ⟨b, off, ai, _, ci, rfl, k, g2.es (Nat.le_refl _)⟩
/-- A row of entries lies apart from the row of rows. -/
theorem AccO.outer {w w' : World} {B O n c m co : Nat} {a ao ao' : Option Addr} {l : List Ent} {cs : List Value} (h : AccO w B O a n c l) (ho : w.ownsRow O 26 1 (.slice ao m co) m cs) (hev : Evol w ao w' ao') : AccO w' B O a n c l := by
  obtain ⟨cs', h1, h2⟩ := h.row
  have hap := own_apart h1 ho (by decide)
  rw [own_block h1, own_block ho] at hap
  refine h.other hev.1 (fun g hg => ⟨?_, fun z hz e => ?_⟩)
  · cases ao with
    | none => cases hg
    | some y => have := (World.ownsRow.lt ho y.block rfl).1; have e : y.block = g := by simpa using hg
                omega
  · subst hz
    rcases hap with k | k
    · cases k
    · exact k (by rw [hg]; simp [e])
/-- Behind the append of a part. -/
theorem Parts.snoc {w w' : World} {O n c c' : Nat} {a a' : Option Addr} {ls : List (List Ent)} {cs : List Value} {p : List Ent} {ap : Option Addr} {cp : Nat}
    (hl : ls.length = n) (h1 : w.ownsRow O 26 1 (.slice a n c) n cs) (h2 : ∀ i, i < n → ∃ ai ci, cs[i]? = some (.slice ai (nth ls i).length ci) ∧ AccO w O O ai (nth ls i).length ci (nth ls i))
    (hp : AccO w O O ap p.length cp p) (h : w'.ownsRow O 26 1 (.slice a' (n + 1) c') (n + 1) (cs ++ [.slice ap p.length cp])) (hev : Evol w a w' a') : Parts w' O a' (n + 1) c' (ls ++ [p]) := by
  have hcl : cs.length = n := by simpa using h1.1
  refine ⟨by simp [hl], _, h, fun i hi => ?_⟩
  by_cases e : i = n
  · subst e
    have e1 : nth (ls ++ [p]) i = p := by rw [nth_eq _ (by simp; omega)]; simp [← hl]
    rw [e1]
    exact ⟨ap, cp, by rw [List.getElem?_append_right (by omega)]; simp [hcl], hp.outer h1 hev⟩
  · rw [nth_append_left _ _ (by omega)]
    obtain ⟨ai, ci, g1, g2⟩ := h2 i (by omega)
    exact ⟨ai, ci, by rw [List.getElem?_append_left (by omega)]; exact g1, g2.outer h1 hev⟩
section
variable {w : World} {ops : Array Oper} {rest : List Oper} {o : Oper} {a : Act} {Q : Exit → Act → World → Prop}
/-- append of one part. -/
theorem app_part (hgd : Region.wanted o (yielded ops a.tmps) = true) (s x : Operand) (ho : o.op = .call { callee := .builtin .append, args := #[s, x], argTypes := #[23, 23] })
    (O : Nat) {aq : Option Addr} {n c : Nat} {ls : List (List Ent)} (hs : a.eval s = .slice aq n c) (hacc : Parts w O aq n c ls)
    {k : Nat} {p : List Ent} {np : Nat} {ap : Option Addr} {cp : Nat} (hx : a.eval x = .slice (some ⟨k, 0, none⟩) 1 1) (hcell : w.cell? ⟨k, 0, none⟩ = some (.slice ap np cp)) (hp : AccO w O O ap np cp p)
    (hb : n ≤ 1000000000) (hB : O ≤ w.heap.size)
    (h : ∀ a' c' w', Parts w' O a' (n + 1) c' (ls ++ [p]) → Below O w w' → Evol w aq w' a' → wpList Try.prog ops Q rest (a.put o.dst (.slice a' (n + 1) c')) w') : wpList Try.prog ops Q (o :: rest) a w := by
  obtain ⟨i, hi, h0, h1, h2⟩ := info_parts infoEs
  obtain ⟨cs, hown, hin⟩ := hacc.row
  obtain rfl : p.length = np := hp.len
  have hr : Row w (some ⟨k, 0, none⟩) [.slice ap p.length cp] := fun j v hj => by
    cases j with
    | zero => cases hj; exact ⟨k, 0, rfl, hcell⟩
    | succ j => simp at hj
  refine wpList_app_own hgd s x 23 ho O 26 i (.slice none 0 0) 1 24 Try.underlying23 hi h0 h1 h2 rfl (by decide) aq n c cs hs hown (some ⟨k, 0, none⟩) 1 1 [.slice ap p.length cp] hx hr rfl (fun u hu => by simp at hu; subst hu; rfl) (by omega) (by simp only [maxLen]; omega) hB ?_
  intro a' c' w' g1 g2
  exact h a' c' w' (Parts.snoc hacc.len hown hin hp g1 g2) (g2.below hB (fun x hx => by subst hx; exact (World.ownsRow.lt hown x.block rfl).1)) g2
end
end Go.Proofs.Ytfcfipoldkjloaa
