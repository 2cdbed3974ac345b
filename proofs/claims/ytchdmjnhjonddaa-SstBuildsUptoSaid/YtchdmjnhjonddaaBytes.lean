/- Slices of bytes that a call owns, over this program's numbers of types: append, conversion to a string. -/
import Derived.Test.YtchdmjnhjonddaaProg
import Derived.Test.YtchdmjnhjonddaaNum
import Derived.Laws.BytesArg
import Derived.Lib.Hide
set_option linter.unusedVariables false
set_option linter.unusedSimpArgs false
namespace Go.Proofs.Ytchdmjnhjonddaa
open Go.RowKit

theorem info8 : (Try.prog.info? 5).map (fun i => (i.zero, i.size, i.bytes)) = some (some (.int .u8 0), 1, 1) := by kernel_rfl
/-- A slice of bytes in memory of the call's own (from block B on). -/
def Own (w : World) (B : Nat) (a : Option Addr) (n c : Nat) (l : List UInt8) : Prop := w.ownsRow B 5 1 (.slice a n c) n (vs l)
/-- A slice of bytes to which append writes nothing that was there. -/
def AppB (w : World) (B : Nat) (a : Option Addr) (n c : Nat) (l : List UInt8) : Prop := App w B 5 1 (.slice a n c) n (vs l)

theorem Own.bs {w : World} {B n c : Nat} {a : Option Addr} {l : List UInt8} (h : Own w B a n c l) : Bs w a n c l := by
  have h1 := h.1
  have h2 := own_cap h
  exact ⟨by simpa [vs_len] using h1, h2.2.1, h2.2.2, Row.of_own h⟩
theorem Own.app {w : World} {B n c : Nat} {a : Option Addr} {l : List UInt8} (h : Own w B a n c l) : AppB w B a n c l := .inl h
theorem Own.mono {w : World} {B B' n c : Nat} {a : Option Addr} {l : List UInt8} (h : Own w B a n c l) (hB : B' ≤ B) : Own w B' a n c l := own_mono h hB
theorem Own.below {w w' : World} {B n c : Nat} {a : Option Addr} {l : List UInt8} (h : Own w B a n c l) (hb : Below w.heap.size w w') : Own w' B a n c l := own_below h hb
theorem Own.alloc {w : World} {B n c : Nat} {a : Option Addr} {l : List UInt8} (h : Own w B a n c l) (o : Obj) : Own (w.alloc o) B a n c l := World.ownsRow.alloc h o
theorem Own.nil (w : World) (B : Nat) : Own w B none 0 0 [] := World.ownsRow_nil w B _ _
theorem AppB.bs {w : World} {B n c : Nat} {a : Option Addr} {l : List UInt8} (h : AppB w B a n c l) : Bs w a n c l := by
  rcases h with h | ⟨a', h1, h2, h3, h4⟩
  · exact Own.bs h
  · cases h1; exact ⟨by simpa [vs_len] using h3, Nat.le_refl _, h4, h2⟩
theorem AppB.full {w : World} {B n : Nat} {a : Option Addr} {l : List UInt8} (h : Bs w a n n l) : AppB w B a n n l := .inr ⟨a, rfl, h.2.2.2, by rw [vs_len, h.1]; simp, h.2.2.1⟩
theorem AppB.below {w w' : World} {B n c : Nat} {a : Option Addr} {l : List UInt8} (h : AppB w B a n c l) (hb : Below w.heap.size w w') : AppB w' B a n c l := App.below h hb
theorem AppB.alloc {w : World} {B n c : Nat} {a : Option Addr} {l : List UInt8} (h : AppB w B a n c l) (o : Obj) : AppB (w.alloc o) B a n c l :=
  h.below ((Below.refl _ _).alloc (Nat.le_refl _) o)
/-- A slice that is written out in a statement. -/
theorem Bs.lit (w : World) (l : List UInt8) (hl : l.length ≤ maxLen) : Bs (w.alloc (.cells (vs l).toArray 5)) (some ⟨w.heap.size, 0, none⟩) l.length l.length l :=
  ⟨rfl, Nat.le_refl _, hl, by simpa using Row.new w (vs l).toArray 5⟩
theorem Own.lit (w : World) (B : Nat) (l : List UInt8) (hB : B ≤ w.heap.size) (hl : l.length ≤ maxLen) : Own (w.alloc (.cells (vs l).toArray 5)) B (some ⟨w.heap.size, 0, none⟩) l.length l.length l := by
  refine ⟨by rw [vs_len]; simp, .inr ⟨w.heap.size, l.length, _, rfl, hB, heap_alloc_new w _, Nat.le_refl _, hl, by simp [vs_len], ?_⟩⟩
  simp only [Nat.mul_one]
  rw [List.take_of_length_le (by simp [vs_len])]
theorem Bs.litAt {w : World} {k : Nat} (l : List UInt8) (fr : Nat × Nat) (hk : k = w.heap.size) (hl : l.length ≤ maxLen) : Bs (w.alloc (.cells (vs l).toArray 5 fr)) (some ⟨k, 0, none⟩) l.length l.length l := by
  subst hk
  refine ⟨rfl, Nat.le_refl _, hl, ?_⟩
  intro j v hv
  refine ⟨w.heap.size, 0, rfl, ?_⟩
  rw [cell_of_row _ _ _ (vs l).toArray 5 fr (heap_alloc_new w _)]
  simpa using hv
theorem Bs.one (w : World) (b : UInt8) : Bs (w.alloc (.cells #[.int .u8 (n8 b)] 5)) (some ⟨w.heap.size, 0, none⟩) 1 1 [b] := Bs.lit w [b] (by simp [maxLen])
theorem Bs.oneN (w : World) (v : Nat) (h : v < 256) : Bs (w.alloc (.cells #[.int .u8 (v : Int)] 5)) (some ⟨w.heap.size, 0, none⟩) 1 1 [UInt8.ofNat v] := by
  have e : (v : Int) = n8 (UInt8.ofNat v) := by unfold n8; rw [UInt8.toNat_ofNat']; omega
  rw [e]; exact Bs.one w _

theorem slice_lh (a : Option Addr) (n c : Nat) {lo hi : Int} {lo' hi' : Nat} (hlo : lo = lo') (hhi : hi = hi') (h1 : lo' ≤ hi') (h2 : hi' ≤ c) (w : World) :
    (Instr.slice 55 (.slice a n c) (some (.int .i64 lo)) (some (.int .i64 hi)) none).run Try.prog w = .ok (.slice (subA a c lo') (hi' - lo') (c - lo')) w := by
  obtain ⟨i, hi0, _, g1, _⟩ := info_parts info8
  rw [run_slice_lh Try.underlying55 hi0 g1 a n c hlo hhi h1 h2, subAn_one]
theorem slice_l (a : Option Addr) (n c : Nat) {lo : Int} {lo' : Nat} (hlo : lo = lo') (h1 : lo' ≤ n) (w : World) :
    (Instr.slice 55 (.slice a n c) (some (.int .i64 lo)) none none).run Try.prog w = .ok (.slice (subA a c lo') (n - lo') (c - lo')) w := by
  obtain ⟨i, hi0, _, g1, _⟩ := info_parts info8
  rw [run_slice_l Try.underlying55 hi0 g1 a n c hlo h1, subAn_one]
theorem slice_h (a : Option Addr) (n c : Nat) {hi : Int} {hi' : Nat} (hhi : hi = hi') (h2 : hi' ≤ c) (w : World) :
    (Instr.slice 55 (.slice a n c) none (some (.int .i64 hi)) none).run Try.prog w = .ok (.slice a hi' c) w := by
  obtain ⟨i, hi0, _, g1, _⟩ := info_parts info8
  exact run_slice_h Try.underlying55 hi0 g1 a n c hhi h2 w

section
variable {w : World} {ops : Array Oper} {rest : List Oper} {o : Oper} {a : Act} {Q : Exit → Act → World → Prop}
/-- append to a row of the call's own. -/
theorem app_own (hgd : Region.wanted o (yielded ops a.tmps) = true) (s x : Operand) (ho : o.op = .call { callee := .builtin .append, args := #[s, x], argTypes := #[55, 55] })
    (B : Nat) {aq : Option Addr} {n c : Nat} {l : List UInt8} (hs : a.eval s = .slice aq n c) (hown : Own w B aq n c l)
    {ax : Option Addr} {m cx : Nat} {p : List UInt8} (hx : a.eval x = .slice ax m cx) (hr : Bs w ax m cx p) (hb : n + m ≤ 140737488355328) (hB : B ≤ w.heap.size)
    (h : ∀ a' c' w', Own w' B a' (n + m) c' (l ++ p) → Below B w w' → Evol w aq w' a' → wpList Try.prog ops Q rest (a.put o.dst (.slice a' (n + m) c')) w') : wpList Try.prog ops Q (o :: rest) a w := by
  obtain ⟨i, hi, h0, h1, h2⟩ := info_parts info8
  refine wpList_app_own hgd s x 55 ho B 5 i (.int .u8 0) 1 1 Try.underlying55 hi h0 h1 h2 rfl (by decide) aq n c (vs l) hs hown ax m cx (vs p) hx hr.2.2.2 (by rw [vs_len, hr.1]; simp) (vs_one p) (by omega) (by simp only [maxLen]; omega) hB ?_
  intro a' c' w' g1 g2
  rw [← vs_append] at g1
  exact h a' c' w' g1 (g2.below hB (fun x hx => by subst hx; exact (World.ownsRow.lt hown x.block rfl).1)) g2
/-- append to a row of the call's own or to a full slice. -/
theorem app_any (hgd : Region.wanted o (yielded ops a.tmps) = true) (s x : Operand) (ho : o.op = .call { callee := .builtin .append, args := #[s, x], argTypes := #[55, 55] })
    (B : Nat) {aq : Option Addr} {n c : Nat} {l : List UInt8} (hs : a.eval s = .slice aq n c) (hown : AppB w B aq n c l)
    {ax : Option Addr} {m cx : Nat} {p : List UInt8} (hx : a.eval x = .slice ax m cx) (hr : Bs w ax m cx p) (hb : n + m ≤ 140737488355328) (hB : B ≤ w.heap.size)
    (h : ∀ a' c' w', AppB w' B a' (n + m) c' (l ++ p) → (0 < m → Own w' B a' (n + m) c' (l ++ p)) → Below B w w' → Evol w aq w' a' → wpList Try.prog ops Q rest (a.put o.dst (.slice a' (n + m) c')) w') : wpList Try.prog ops Q (o :: rest) a w := by
  obtain ⟨i, hi, h0, h1, h2⟩ := info_parts info8
  refine wpList_app hgd s x 55 ho B 5 i (.int .u8 0) 1 1 Try.underlying55 hi h0 h1 h2 rfl (by decide) aq n c (vs l) hs hown ax m cx (vs p) hx hr.2.2.2 (by rw [vs_len, hr.1]; simp) (vs_one p) (by omega) (by simp only [maxLen]; omega) hB ?_
  intro a' c' w' g1 g2 g3 g4
  rw [← vs_append] at g1 g2
  exact h a' c' w' g1 g2 g3 g4
end

/-- The variadic slice of one part. -/
theorem Bss.one {w : World} {a : Option Addr} {n c : Nat} {l : List UInt8} (h : Bs w a n c l) : Bss (w.alloc (.cells #[.slice a n c] 55)) (some ⟨w.heap.size, 0, none⟩) 1 1 [l] := by
  refine ⟨rfl, Nat.le_refl _, by simp [maxLen], fun i hi => ?_⟩
  obtain rfl : i = 0 := by omega
  exact ⟨w.heap.size, 0, a, n, c, rfl, by rw [cell_of_row _ _ _ _ _ _ (heap_alloc_new w _)]; rfl, h.below ((Below.refl _ _).alloc (Nat.le_refl _) _)⟩

theorem Bss.oneAt {w : World} {k : Nat} {a : Option Addr} {n c : Nat} {l : List UInt8} (hk : k = w.heap.size) (h : Bs w a n c l) : Bss (w.alloc (.cells #[.slice a n c] 55)) (some ⟨k, 0, none⟩) 1 1 [l] := by
  subst hk; exact Bss.one h

/-- What a function that hands back a new slice of bytes says: its bytes, in memory of the call's own; what was there is as it was. -/
def RetB (w : World) (B : Nat) (l : List UInt8) (e : Ending) (w' : World) : Prop := ∃ a n c, e = .returned (.slice a n c) ∧ Own w' B a n c l ∧ Below B w w'

/-- The same of a function that appends to a slice that is handed in at 'a0'. -/
def RetE (w : World) (B : Nat) (a0 : Option Addr) (l : List UInt8) (e : Ending) (w' : World) : Prop := ∃ a n c, e = .returned (.slice a n c) ∧ Own w' B a n c l ∧ Below B w w' ∧ Evol w a0 w' a
theorem RetE.retB {w w' : World} {B : Nat} {a0 : Option Addr} {l : List UInt8} {e : Ending} (h : RetE w B a0 l e w') : RetB w B l e w' := by
  obtain ⟨a, n, c, h1, h2, h3, _⟩ := h
  exact ⟨a, n, c, h1, h2, h3⟩
theorem Bs.evol {w w' : World} {a a' ax : Option Addr} {n c : Nat} {l : List UInt8} (h : Bs w ax n c l) (k : Evol w a w' a') (hne : 0 < n → ∀ y x, ax = some y → a = some x → y.block ≠ x.block) : Bs w' ax n c l :=
  ⟨h.1, h.2.1, h.2.2.1, h.2.2.2.evol k (by rw [vs_len, h.1]; exact hne)⟩
theorem Bs.old {w : World} {a : Option Addr} {n c : Nat} {l : List UInt8} (h : Bs w a n c l) (hn : 0 < n) : ∀ y, a = some y → y.block < w.heap.size := by
  intro y hy
  obtain ⟨b, off, h1, h2⟩ := h.byte hn
  rw [hy] at h1
  cases h1
  exact World.block_lt_of_cell? _ _ h2
theorem Own.new {w : World} {B : Nat} {a : Option Addr} {n c : Nat} {l : List UInt8} (h : Own w B a n c l) : ∀ z, a = some z → B ≤ z.block ∧ z.block < w.heap.size := by
  intro z hz
  subst hz
  exact World.ownsRow.lt h z.block rfl

/-- Bytes as a string. -/
def bstr (l : List UInt8) : ByteArray := ⟨l.toArray⟩
theorem bstr_inj {l m : List UInt8} (h : bstr l = bstr m) : l = m := by
  have := congrArg (fun b => b.data.toList) h
  simpa [bstr] using this
theorem bstr_toList (l : List UInt8) : (bstr l).toList = l := by rw [ByteArray.toList_eq]; simp [bstr]
@[go_sem] theorem bstr_beq (l m : List UInt8) : ((bstr l).toList == (bstr m).toList) = decide (l = m) := by
  rw [bstr_toList, bstr_toList, Bool.eq_iff_iff]; simp
theorem conv_bytes {w : World} {a : Option Addr} {n c : Nat} {l : List UInt8} (h : Bs w a n c l) : (convert 55 9 (.slice a n c)).run Try.prog w = .ok (.string (bstr l)) w := by
  cases l with
  | nil =>
    have hn : n = 0 := by have := h.1; simpa using this.symm
    subst hn
    cases a with
    | none => exact run_convert_bytes_nil w 55 5 Try.underlying55 Try.underlying5 0 c 9 Try.underlying9
    | some ad =>
      rw [run_convert_bytes_string w 55 9 5 _ 0 c Try.underlying55 Try.underlying5 Try.underlying9, run_bytesToString w ad 0 c [] (by simp [loadCells, loadCellsFrom])]
      rfl
  | cons b l =>
    obtain ⟨bl, off, rfl, _⟩ := h.2.2.2 0 (.int .u8 (n8 b)) rfl
    rw [run_convert_bytes_arg w 55 5 Try.underlying55 Try.underlying5 bl off n c ((b :: l).map n8) (by rw [List.length_map]; exact h.1) (fun i hi => by
      obtain ⟨b', off', h1, h2⟩ := h.byte hi
      cases h1
      rw [h2]
      have hl : i < (b :: l).length := by rw [h.1]; exact hi
      rw [nth_eq _ hl, List.getD_eq_getElem?_getD, List.getElem?_map, List.getElem?_eq_getElem hl]
      rfl) 9 Try.underlying9]
    have e : strOfNums ((b :: l).map n8) = bstr (b :: l) := by
      unfold strOfNums bstr
      rw [List.map_map]
      congr 2
      conv => rhs; rw [← List.map_id (b :: l)]
      apply List.map_congr_left
      intro x _
      simp [n8]
    rw [e]
end Go.Proofs.Ytchdmjnhjonddaa
