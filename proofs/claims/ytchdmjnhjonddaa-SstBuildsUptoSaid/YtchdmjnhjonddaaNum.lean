/- Machine numbers as the walk holds them: 'n8', 'n32' of Lean's own UInt8, UInt32, and the laws that keep a walk in that form. No program in sight. -/
import Derived.Test.YtchdmjnhjonddaaBase
set_option linter.unusedVariables false
set_option linter.unusedSimpArgs false
namespace Go.Proofs.Ytchdmjnhjonddaa
open Go.RowKit

def n8 (b : UInt8) : Int := (b.toNat : Int)
def n32 (c : UInt32) : Int := (c.toNat : Int)
theorem n8_bd (b : UInt8) : 0 ≤ n8 b ∧ n8 b < 256 := by have := b.toNat_lt; unfold n8; omega
theorem n32_bd (b : UInt32) : 0 ≤ n32 b ∧ n32 b < 4294967296 := by have := b.toNat_lt; unfold n32; omega
@[go_sem] theorem n8_nn (b : UInt8) : 0 ≤ n8 b := (n8_bd b).1
@[go_sem] theorem n32_nn (b : UInt32) : 0 ≤ n32 b := (n32_bd b).1
theorem n8_inj {a b : UInt8} (h : n8 a = n8 b) : a = b := by
  unfold n8 at h; exact UInt8.toNat_inj.1 (by omega)
theorem n32_inj {a b : UInt32} (h : n32 a = n32 b) : a = b := by
  unfold n32 at h; exact UInt32.toNat_inj.1 (by omega)
@[go_sem] theorem n8_beq (a b : UInt8) : (n8 a == n8 b) = (a == b) := by
  rw [Bool.eq_iff_iff]; simp only [beq_iff_eq]; exact ⟨n8_inj, fun h => by rw [h]⟩
@[go_sem] theorem n32_beq (a b : UInt32) : (n32 a == n32 b) = (a == b) := by
  rw [Bool.eq_iff_iff]; simp only [beq_iff_eq]; exact ⟨n32_inj, fun h => by rw [h]⟩
@[go_sem] theorem n8_bne (a b : UInt8) : (n8 a != n8 b) = !(a == b) := by
  show (!(n8 a == n8 b)) = _
  rw [n8_beq]
@[go_sem] theorem n32_bne (a b : UInt32) : (n32 a != n32 b) = !(a == b) := by
  show (!(n32 a == n32 b)) = _
  rw [n32_beq]
theorem n8_cast (a : UInt8) : n8 a = (a.toNat : Int) := rfl
theorem n8_lt_lit {a : UInt8} {k : Nat} (h : a.toNat < k) : decide (n8 a < (k : Int)) = true := by unfold n8; simp; omega
theorem n8_nlt_lit {a : UInt8} {k : Nat} (h : k ≤ a.toNat) : decide (n8 a < (k : Int)) = false := by unfold n8; simp; omega
theorem n8_gt_lit {a : UInt8} {k : Nat} (h : k < a.toNat) : decide ((k : Int) < n8 a) = true := by unfold n8; simp; omega
theorem n8_ngt_lit {a : UInt8} {k : Nat} (h : a.toNat ≤ k) : decide ((k : Int) < n8 a) = false := by unfold n8; simp; omega
theorem n8_lit {n : Nat} (h : n < 256) : (OfNat.ofNat n : Int) = n8 (OfNat.ofNat n) := by
  show (n : Int) = ((UInt8.ofNat n).toNat : Int)
  rw [UInt8.toNat_ofNat']; omega
theorem n32_lit {n : Nat} (h : n < 4294967296) : (OfNat.ofNat n : Int) = n32 (OfNat.ofNat n) := by
  show (n : Int) = ((UInt32.ofNat n).toNat : Int)
  rw [UInt32.toNat_ofNat']; omega
theorem n8_beq_lit (a : UInt8) (n : Nat) (h : n < 256) : (n8 a == (OfNat.ofNat n : Int)) = (a == OfNat.ofNat n) := by rw [n8_lit h, n8_beq]
theorem n32_beq_lit (a : UInt32) (n : Nat) (h : n < 4294967296) : (n32 a == (OfNat.ofNat n : Int)) = (a == OfNat.ofNat n) := by rw [n32_lit h, n32_beq]

@[go_sem] theorem xor32 (a b : UInt32) : bits .xor .u32 (n32 a) (n32 b) = n32 (a ^^^ b) := by
  unfold n32; rw [u32_xor_nat _ _ a.toNat_lt b.toNat_lt, UInt32.toNat_xor]
@[go_sem] theorem and32 (a b : UInt32) : bits .and .u32 (n32 a) (n32 b) = n32 (a &&& b) := by
  unfold n32; rw [u32_and_nat _ _ a.toNat_lt b.toNat_lt, UInt32.toNat_and]
@[go_sem] theorem or32 (a b : UInt32) : bits .or .u32 (n32 a) (n32 b) = n32 (a ||| b) := by
  unfold n32; rw [u32_or_nat _ _ a.toNat_lt b.toNat_lt, UInt32.toNat_or]
theorem xor32_lit (a : UInt32) (n : Nat) (h : n < 4294967296) : bits .xor .u32 (n32 a) (OfNat.ofNat n : Int) = n32 (a ^^^ OfNat.ofNat n) := by rw [n32_lit h, xor32]
theorem and32_lit (a : UInt32) (n : Nat) (h : n < 4294967296) : bits .and .u32 (n32 a) (OfNat.ofNat n : Int) = n32 (a &&& OfNat.ofNat n) := by rw [n32_lit h, and32]
@[go_sem] theorem wrap64_n32 (c : UInt32) : IntKind.u64.wrap (n32 c) = ((c.toNat : Nat) : Int) := by
  have := c.toNat_lt; unfold n32; rw [IntKind.wrap_u64]; omega
@[go_sem] theorem wrap64_n8 (c : UInt8) : IntKind.u64.wrap (n8 c) = ((c.toNat : Nat) : Int) := by
  have := c.toNat_lt; unfold n8; rw [IntKind.wrap_u64]; omega
@[go_sem] theorem not32 (a : UInt32) : bits .xor .u32 IntKind.u32.max (n32 a) = n32 (a ^^^ 4294967295) := by
  have e : IntKind.u32.max = n32 4294967295 := by decide
  rw [e, xor32, UInt32.xor_comm]
@[go_sem] theorem shr32_1 (a : UInt32) : n32 a / (2 : Int) = n32 (a >>> 1) := by unfold n32; simp [Nat.shiftRight_eq_div_pow]
@[go_sem] theorem shr32_4 (a : UInt32) : n32 a / (16 : Int) = n32 (a >>> 4) := by unfold n32; simp [Nat.shiftRight_eq_div_pow]
@[go_sem] theorem shr32_8 (a : UInt32) : n32 a / (256 : Int) = n32 (a >>> 8) := by unfold n32; simp [Nat.shiftRight_eq_div_pow]
@[go_sem] theorem shr32_16 (a : UInt32) : n32 a / (65536 : Int) = n32 (a >>> 16) := by unfold n32; simp [Nat.shiftRight_eq_div_pow]
@[go_sem] theorem shr32_24 (a : UInt32) : n32 a / (16777216 : Int) = n32 (a >>> 24) := by unfold n32; simp [Nat.shiftRight_eq_div_pow]
@[go_sem] theorem n8_to32 (b : UInt8) : n8 b % (4294967296 : Int) = n32 b.toUInt32 := by
  have := b.toNat_lt; unfold n8 n32; rw [UInt8.toNat_toUInt32]; omega
@[go_sem] theorem n32_to8 (b : UInt32) : n32 b % (256 : Int) = n8 b.toUInt8 := by
  unfold n8 n32; rw [UInt32.toNat_toUInt8]; omega

@[go_sem] theorem xor8 (a b : UInt8) : bits .xor .u8 (n8 a) (n8 b) = n8 (a ^^^ b) := by
  unfold n8; rw [u8_xor_nat _ _ a.toNat_lt b.toNat_lt, UInt8.toNat_xor]
@[go_sem] theorem and8 (a b : UInt8) : bits .and .u8 (n8 a) (n8 b) = n8 (a &&& b) := by
  unfold n8; rw [u8_and_nat _ _ a.toNat_lt b.toNat_lt, UInt8.toNat_and]
@[go_sem] theorem or8 (a b : UInt8) : bits .or .u8 (n8 a) (n8 b) = n8 (a ||| b) := by
  unfold n8; rw [u8_or_nat _ _ a.toNat_lt b.toNat_lt, UInt8.toNat_or]
theorem xor8_lit (a : UInt8) (n : Nat) (h : n < 256) : bits .xor .u8 (n8 a) (OfNat.ofNat n : Int) = n8 (a ^^^ OfNat.ofNat n) := by rw [n8_lit h, xor8]
theorem and8_lit (a : UInt8) (n : Nat) (h : n < 256) : bits .and .u8 (n8 a) (OfNat.ofNat n : Int) = n8 (a &&& OfNat.ofNat n) := by rw [n8_lit h, and8]
theorem or8_lit (a : UInt8) (n : Nat) (h : n < 256) : bits .or .u8 (n8 a) (OfNat.ofNat n : Int) = n8 (a ||| OfNat.ofNat n) := by rw [n8_lit h, or8]
@[go_sem] theorem shl32_8 (a : UInt32) : IntKind.u32.wrap (n32 a * (256 : Int)) = n32 (a <<< 8) := by
  unfold n32; rw [IntKind.wrap_u32]; simp [Nat.shiftLeft_eq]
@[go_sem] theorem shl32_16 (a : UInt32) : IntKind.u32.wrap (n32 a * (65536 : Int)) = n32 (a <<< 16) := by
  unfold n32; rw [IntKind.wrap_u32]; simp [Nat.shiftLeft_eq]
@[go_sem] theorem shl32_24 (a : UInt32) : IntKind.u32.wrap (n32 a * (16777216 : Int)) = n32 (a <<< 24) := by
  unfold n32; rw [IntKind.wrap_u32]; simp [Nat.shiftLeft_eq]
@[go_sem] theorem shr8_1 (a : UInt8) : n8 a / (2 : Int) = n8 (a >>> 1) := by unfold n8; simp [Nat.shiftRight_eq_div_pow]
@[go_sem] theorem shr8_7 (a : UInt8) : n8 a / (128 : Int) = n8 (a >>> 7) := by unfold n8; simp [Nat.shiftRight_eq_div_pow]

@[go_sem] theorem n8_beq_0 (a : UInt8) : (n8 a == (0 : Int)) = (a == 0) := n8_beq_lit a 0 (by decide)
@[go_sem] theorem n8_beq_1 (a : UInt8) : (n8 a == (1 : Int)) = (a == 1) := n8_beq_lit a 1 (by decide)
@[go_sem] theorem n8_beq_2 (a : UInt8) : (n8 a == (2 : Int)) = (a == 2) := n8_beq_lit a 2 (by decide)
@[go_sem] theorem n8_beq_255 (a : UInt8) : (n8 a == (255 : Int)) = (a == 255) := n8_beq_lit a 255 (by decide)
@[go_sem] theorem n8_beq_128 (a : UInt8) : (n8 a == (128 : Int)) = (a == 128) := n8_beq_lit a 128 (by decide)
@[go_sem] theorem n32_beq_0 (a : UInt32) : (n32 a == (0 : Int)) = (a == 0) := n32_beq_lit a 0 (by decide)
@[go_sem] theorem n32_beq_1 (a : UInt32) : (n32 a == (1 : Int)) = (a == 1) := n32_beq_lit a 1 (by decide)
@[go_sem] theorem xor32_2197175160 (a : UInt32) : bits .xor .u32 (n32 a) (2197175160 : Int) = n32 (a ^^^ 2197175160) := xor32_lit a 2197175160 (by decide)
@[go_sem] theorem xor32_4294967295 (a : UInt32) : bits .xor .u32 (n32 a) (4294967295 : Int) = n32 (a ^^^ 4294967295) := xor32_lit a 4294967295 (by decide)
@[go_sem] theorem and32_1 (a : UInt32) : bits .and .u32 (n32 a) (1 : Int) = n32 (a &&& 1) := and32_lit a 1 (by decide)
@[go_sem] theorem and32_15 (a : UInt32) : bits .and .u32 (n32 a) (15 : Int) = n32 (a &&& 15) := and32_lit a 15 (by decide)
@[go_sem] theorem and8_1 (a : UInt8) : bits .and .u8 (n8 a) (1 : Int) = n8 (a &&& 1) := and8_lit a 1 (by decide)
@[go_sem] theorem and8_127 (a : UInt8) : bits .and .u8 (n8 a) (127 : Int) = n8 (a &&& 127) := and8_lit a 127 (by decide)
@[go_sem] theorem or8_128 (a : UInt8) : bits .or .u8 (n8 a) (128 : Int) = n8 (a ||| 128) := or8_lit a 128 (by decide)
@[go_sem] theorem xor8_29 (a : UInt8) : bits .xor .u8 (n8 a) (29 : Int) = n8 (a ^^^ 29) := xor8_lit a 29 (by decide)

/-- Numbers that fit 64 bits; lengths that an append bears. Structures: the walk does not see the numerals. -/
structure U64 (v : Nat) : Prop where
  lt : v < 18446744073709551616
structure Fits (n : Nat) : Prop where
  le : n ≤ 140737488355300
/-- 'byte(v)' of whatever number. -/
@[go_sem] theorem to8 (v : Nat) : Value.int .u8 ((v : Int) % 256) = .int .u8 (n8 (UInt8.ofNat v)) := by
  unfold n8; rw [UInt8.toNat_ofNat']; rfl

/-- Bytes as a row of cells. -/
def vs (l : List UInt8) : List Value := l.map fun b => .int .u8 (n8 b)
theorem vs_len (l : List UInt8) : (vs l).length = l.length := by simp [vs]
theorem vs_append (a b : List UInt8) : vs (a ++ b) = vs a ++ vs b := by simp [vs]
theorem vs_take (a : List UInt8) (k : Nat) : vs (a.take k) = (vs a).take k := by simp [vs, List.map_take]
theorem vs_drop (a : List UInt8) (k : Nat) : vs (a.drop k) = (vs a).drop k := by simp [vs, List.map_drop]
theorem vs_one (l : List UInt8) : ∀ u ∈ vs l, u.oneCell' = true := by
  intro u hu; obtain ⟨b, _, rfl⟩ := List.mem_map.1 hu; rfl
/-- The element at a place; the walk's simp leaves it as it stands. -/
def nth {α : Type} [Inhabited α] (l : List α) (k : Nat) : α := l.getD k default
theorem nth_eq {α : Type} [Inhabited α] (l : List α) {k : Nat} (h : k < l.length) : nth l k = l[k] := by simp [nth, List.getD_eq_getElem?_getD, h]
/-- A byte of a row. -/
theorem Row.byte {w : World} {a : Option Addr} {l : List UInt8} (h : Row w a (vs l)) {i : Nat} (hi : i < l.length) :
    ∃ b off, a = some ⟨b, off, none⟩ ∧ w.cell? ⟨b, off + i, none⟩ = some (.int .u8 (n8 (nth l i))) := by
  refine h i _ ?_
  simp [vs, nth_eq l hi, hi]
theorem take_snoc {α : Type} [Inhabited α] (l : List α) {i : Nat} (hi : i < l.length) : l.take (i + 1) = l.take i ++ [nth l i] := by
  rw [List.take_succ_eq_append_getElem hi, nth_eq l hi]

theorem nth_append_left {α : Type} [Inhabited α] (l r : List α) {i : Nat} (h : i < l.length) : nth (l ++ r) i = nth l i := by
  rw [nth_eq _ h, nth_eq _ (by simp; omega), List.getElem_append_left h]
theorem nth_take {α : Type} [Inhabited α] (l : List α) {i k : Nat} (h : i < k) (hl : i < l.length) : nth (l.take k) i = nth l i := by
  rw [nth_eq _ hl, nth_eq _ (by simp; omega), List.getElem_take]
theorem nth_drop {α : Type} [Inhabited α] (l : List α) {i k : Nat} (h : k + i < l.length) : nth (l.drop k) i = nth l (k + i) := by
  rw [nth_eq _ h, nth_eq _ (by simp; omega), List.getElem_drop]

/-- A slice of bytes that is read. -/
def Bs (w : World) (a : Option Addr) (n c : Nat) (l : List UInt8) : Prop := l.length = n ∧ n ≤ c ∧ c ≤ maxLen ∧ Row w a (vs l)
theorem Bs.below {w w' : World} {a : Option Addr} {n c : Nat} {l : List UInt8} (h : Bs w a n c l) (hb : Below w.heap.size w w') : Bs w' a n c l := ⟨h.1, h.2.1, h.2.2.1, h.2.2.2.below hb⟩
theorem Bs.nil (w : World) : Bs w none 0 0 [] := ⟨rfl, Nat.le_refl _, by simp [maxLen], Row.nil _ _⟩
theorem Bs.le {w : World} {a : Option Addr} {n c : Nat} {l : List UInt8} (h : Bs w a n c l) : n ≤ 9223372036854775807 ∧ c ≤ 9223372036854775807 := by
  have := h.2.1; have := h.2.2.1; simp only [maxLen] at *; omega
theorem Bs.byte {w : World} {a : Option Addr} {n c : Nat} {l : List UInt8} (h : Bs w a n c l) {i : Nat} (hi : i < n) :
    ∃ b off, a = some ⟨b, off, none⟩ ∧ w.cell? ⟨b, off + i, none⟩ = some (.int .u8 (n8 (nth l i))) := h.2.2.2.byte (by have := h.1; omega)
theorem Bs.drop {w : World} {a : Option Addr} {n c : Nat} {l : List UInt8} (h : Bs w a n c l) {k : Nat} (hk : k ≤ n) :
    Bs w (subA a c k) (n - k) (c - k) (l.drop k) := by
  refine ⟨by rw [List.length_drop, h.1], by have := h.2.1; omega, by have := h.2.2.1; omega, ?_⟩
  rw [vs_drop]
  exact h.2.2.2.dropIf k c (by rw [vs_len, h.1]; exact h.2.1)
theorem Bs.take {w : World} {a : Option Addr} {n c : Nat} {l : List UInt8} (h : Bs w a n c l) {k : Nat} (hk : k ≤ n) : Bs w a k c (l.take k) := by
  refine ⟨by rw [List.length_take, h.1]; omega, by have := h.2.1; omega, h.2.2.1, ?_⟩
  rw [vs_take]
  exact h.2.2.2.take k

theorem Bs.sub {w : World} {a : Option Addr} {n c : Nat} {l : List UInt8} (h : Bs w a n c l) {lo hi : Nat} (h1 : lo ≤ hi) (h2 : hi ≤ n) : Bs w (subA a c lo) (hi - lo) (c - lo) ((l.drop lo).take (hi - lo)) :=
  (h.drop (Nat.le_trans h1 h2)).take (by omega)

/-- A list of byte slices that is read. -/
def Bss (w : World) (a : Option Addr) (n c : Nat) (ls : List (List UInt8)) : Prop :=
  ls.length = n ∧ n ≤ c ∧ c ≤ maxLen ∧ ∀ i, i < n → ∃ b off ai ni ci, a = some ⟨b, off, none⟩ ∧ w.cell? ⟨b, off + i, none⟩ = some (.slice ai ni ci) ∧ Bs w ai ni ci (nth ls i)
theorem Bss.below {w w' : World} {a : Option Addr} {n c : Nat} {ls : List (List UInt8)} (h : Bss w a n c ls) (hb : Below w.heap.size w w') : Bss w' a n c ls :=
  ⟨h.1, h.2.1, h.2.2.1, fun i hi => by
    obtain ⟨b, off, ai, ni, ci, h1, h2, h3⟩ := h.2.2.2 i hi
    exact ⟨b, off, ai, ni, ci, h1, cell_later hb h2, h3.below hb⟩⟩
theorem Bss.le {w : World} {a : Option Addr} {n c : Nat} {ls : List (List UInt8)} (h : Bss w a n c ls) : n ≤ 9223372036854775807 ∧ c ≤ 9223372036854775807 := by
  have := h.2.1; have := h.2.2.1; simp only [maxLen] at *; omega
theorem Bss.get {w : World} {a : Option Addr} {n c : Nat} {ls : List (List UInt8)} (h : Bss w a n c ls) {i : Nat} (hi : i < n) :
    ∃ b off ai ni ci, a = some ⟨b, off, none⟩ ∧ w.cell? ⟨b, off + i, none⟩ = some (.slice ai ni ci) ∧ Bs w ai ni ci (nth ls i) := h.2.2.2 i hi
theorem Bss.nil (w : World) : Bss w none 0 0 [] := ⟨rfl, Nat.le_refl _, by simp [maxLen], fun i hi => by omega⟩
def tot (ls : List (List UInt8)) : Nat := ls.flatten.length
theorem tot_snoc (ls : List (List UInt8)) {i : Nat} (hi : i < ls.length) : tot (ls.take (i + 1)) = tot (ls.take i) + (nth ls i).length := by
  unfold tot; rw [take_snoc ls hi]; simp
theorem tot_le (ls : List (List UInt8)) (i : Nat) : tot (ls.take i) ≤ tot ls := by
  unfold tot
  conv => rhs; rw [← List.take_append_drop i ls]
  simp only [List.flatten_append, List.length_append]; omega
end Go.Proofs.Ytchdmjnhjonddaa
