/- The field's functions: Mul, Add, Pow, Div, Log; the reference's. -/
import Derived.Test.YtfgifndpglgjkaaGreatDoorProg
import Derived.Test.YtfgifndpglgjkaaGreatDoorZBase
import Derived.Lib.Hide
import Derived.Test.YtfgifndpglgjkaaGreatDoorZGfSpec
import Derived.Laws.BytesArg
import Derived.Deep.OwnRows
set_option linter.unusedVariables false
set_option linter.unusedSimpArgs false
section
set_option linter.unusedVariables false
set_option linter.unusedSimpArgs false
namespace Go.Proofs.YtfgifndpglgjkaaGreatDoor
open Go.RowKit

theorem shl8_1 (a : UInt8) : IntKind.u8.wrap (n8 a * (2 : Int)) = n8 (a <<< 1) := by
  unfold n8; rw [IntKind.wrap_u8]; simp [Nat.shiftLeft_eq]
attribute [go_sem] shl8_1
theorem mulR_odd {k : Nat} {p a b : UInt8} (h : (b &&& 1 == 1) = true) : Gf.mulR (k + 1) p a b = Gf.mulR k (p ^^^ a) (Gf.dbl a) (b >>> 1) := by
  show Gf.mulR k (if b &&& 1 = 1 then _ else _) _ _ = _
  rw [if_pos (by simpa using h)]
theorem mulR_even {k : Nat} {p a b : UInt8} (h : (b &&& 1 == 1) = false) : Gf.mulR (k + 1) p a b = Gf.mulR k p (Gf.dbl a) (b >>> 1) := by
  show Gf.mulR k (if b &&& 1 = 1 then _ else _) _ _ = _
  rw [if_neg (by simpa using h)]
theorem dbl_hi {a : UInt8} (h : (a >>> 7 == 1) = true) : Gf.dbl a = a <<< 1 ^^^ 29 := by unfold Gf.dbl; rw [if_pos (by simpa using h)]
theorem dbl_lo {a : UInt8} (h : (a >>> 7 == 1) = false) : Gf.dbl a = a <<< 1 := by unfold Gf.dbl; rw [if_neg (by simpa using h)]

set_option maxHeartbeats 400000 in
theorem mul_any (a b : UInt8) (w : World) :
    Calls Tryz.prog 115 #[.int .u8 (n8 a), .int .u8 (n8 b)] w fun e w' => e = .returned (.int .u8 (n8 (Gf.mul a b))) ∧ w = w' := by
  go_enter Tryz.func115, Tryz.ntmps115
  go_wp2
  go_loop [0, 1, 5, 7] (fun va vb vp i => ∃ (k : Nat) (x y p : UInt8), k ≤ 8 ∧ i = .int .i64 k ∧ va = .int .u8 (n8 x) ∧ vb = .int .u8 (n8 y) ∧ vp = .int .u8 (n8 p) ∧ Hid (Gf.mulR (8 - k) p x y = Gf.mul a b)) (fun _ _ _ i => 8 - (intOf i).toNat)
  case atStart => exact ⟨0, a, b, 0, by omega, rfl, rfl, rfl, rfl, Lib.hid rfl⟩
  case round =>
    obtain ⟨k, x, y, p, hk, rfl, rfl, rfl, rfl, hm⟩ := hrel
    by_cases hlt : k < 8
    · obtain ⟨r, hr⟩ : ∃ r, 8 - k = r + 1 := ⟨7 - k, by omega⟩
      go_wp2
      all_goals go_round
      all_goals first
        | (exact ⟨k + 1, _, _, _, by omega, by go_num, rfl, rfl, rfl, Lib.hid (by
            have hm := hm.out
            rw [hr] at hm
            rw [show 8 - (k + 1) = r by omega, ← hm]
            first
              | rw [mulR_odd (by assumption), dbl_hi (by assumption)]
              | rw [mulR_odd (by assumption), dbl_lo (by assumption)]
              | rw [mulR_even (by assumption), dbl_hi (by assumption)]
              | rw [mulR_even (by assumption), dbl_lo (by assumption)])⟩)
        | (simp [intOf]; omega)
    · obtain rfl : k = 8 := by omega
      have hp : p = Gf.mul a b := hm.out
      subst hp
      go_wp2
      go_ret
      exact ⟨rfl, rfl⟩

/-! The reference reckons with ints. -/
theorem i64_xor_nat (a b : Nat) (ha : a < 2 ^ 62) (hb : b < 2 ^ 62) : bits .xor .i64 (a : Int) (b : Int) = ((a ^^^ b : Nat) : Int) := by
  have ha' : a % 2 ^ 64 = a := Nat.mod_eq_of_lt (by omega)
  have hb' : b % 2 ^ 64 = b := Nat.mod_eq_of_lt (by omega)
  have hx := Nat.xor_lt_two_pow ha hb
  show IntKind.i64.wrap ((BitVec.ofInt 64 a ^^^ BitVec.ofInt 64 b).toNat : Nat) = _
  simp only [BitVec.ofInt_natCast, BitVec.toNat_xor, BitVec.toNat_ofNat, ha', hb']
  rw [IntKind.wrap_i64]
  omega
theorem i64_and_nat (a b : Nat) (ha : a < 2 ^ 62) (hb : b < 2 ^ 62) : bits .and .i64 (a : Int) (b : Int) = ((a &&& b : Nat) : Int) := by
  have ha' : a % 2 ^ 64 = a := Nat.mod_eq_of_lt (by omega)
  have hb' : b % 2 ^ 64 = b := Nat.mod_eq_of_lt (by omega)
  have hx := Nat.and_lt_two_pow a hb
  show IntKind.i64.wrap ((BitVec.ofInt 64 a &&& BitVec.ofInt 64 b).toNat : Nat) = _
  simp only [BitVec.ofInt_natCast, BitVec.toNat_and, BitVec.toNat_ofNat, ha', hb']
  rw [IntKind.wrap_i64]
  omega
@[go_sem] theorem i64_and1_n8 (b : UInt8) : bits .and .i64 (n8 b) (1 : Int) = n8 (b &&& 1) := by
  have := b.toNat_lt
  unfold n8
  rw [show (1 : Int) = ((1 : Nat) : Int) from rfl, i64_and_nat _ _ (by omega) (by omega), UInt8.toNat_and]
  rfl
@[go_sem] theorem i64_xor_n8 (a b : UInt8) : bits .xor .i64 (n8 a) (n8 b) = n8 (a ^^^ b) := by
  have := a.toNat_lt
  have := b.toNat_lt
  unfold n8
  rw [i64_xor_nat _ _ (by omega) (by omega), UInt8.toNat_xor]
@[go_sem] theorem n8_mod (a : UInt8) : n8 a % (256 : Int) = n8 a := by have := n8_bd a; omega
@[go_sem] theorem wrapi_n8 (a : UInt8) : IntKind.i64.wrap (n8 a) = n8 a := by have := n8_bd a; rw [IntKind.wrap_i64]; omega
theorem top_iff (a : UInt8) : (a >>> 7 = 1) ↔ 128 ≤ a.toNat := by
  have := Gf.all_bytes (p := fun a => decide ((a >>> 7 = 1) ↔ 128 ≤ a.toNat)) (by decide +kernel) a
  exact of_decide_eq_true this
theorem dbl_nat (a : UInt8) : (if 128 ≤ a.toNat then (a.toNat * 2) ^^^ 285 else a.toNat * 2) = (Gf.dbl a).toNat := by
  have := Gf.all_bytes (p := fun a => decide ((if 128 ≤ a.toNat then (a.toNat * 2) ^^^ 285 else a.toNat * 2) = (Gf.dbl a).toNat)) (by decide +kernel) a
  exact of_decide_eq_true this
theorem shr_nat (a : UInt8) : (a >>> 1).toNat = a.toNat / 2 := by
  have := Gf.all_bytes (p := fun a => decide ((a >>> 1).toNat = a.toNat / 2)) (by decide +kernel) a
  exact of_decide_eq_true this
theorem mulR_zero : ∀ (k : Nat) (p a : UInt8), Gf.mulR k p a 0 = p
  | 0, _, _ => rfl
  | k + 1, p, a => by
    show Gf.mulR k (if (0 : UInt8) &&& 1 = 1 then _ else p) _ ((0 : UInt8) >>> 1) = p
    rw [if_neg (by decide), show (0 : UInt8) >>> 1 = 0 by decide]
    exact mulR_zero k p _

set_option maxHeartbeats 400000 in
theorem refmul_any (a b : UInt8) (w : World) :
    Calls Tryz.prog 109 #[.int .u8 (n8 a), .int .u8 (n8 b)] w fun e w' => e = .returned (.int .u8 (n8 (Gf.mul a b))) ∧ w = w' := by
  go_enter Tryz.func109, Tryz.ntmps109
  go_wp2
  go_loop [5, 6, 7] (fun vp va vb => ∃ (k : Nat) (x y p : UInt8), y.toNat < 2 ^ k ∧ vp = .int .i64 (n8 p) ∧ va = .int .i64 (n8 x) ∧ vb = .int .i64 (n8 y) ∧ Hid (Gf.mulR k p x y = Gf.mul a b)) (fun _ _ vb => (intOf vb).toNat)
  case atStart => exact ⟨8, a, b, 0, b.toNat_lt, rfl, rfl, rfl, Lib.hid rfl⟩
  case round =>
    obtain ⟨k, x, y, p, hk, rfl, rfl, rfl, hm⟩ := hrel
    by_cases hlt : y.toNat = 0
    · have hy : y = 0 := UInt8.toNat_inj.1 hlt
      subst hy
      have hp : p = Gf.mul a b := by rw [← hm.out, mulR_zero]
      subst hp
      have t0 : decide ((0 : Int) < n8 0) = false := by decide
      go_wp2
      go_ret
      exact ⟨rfl, rfl⟩
    · obtain ⟨r, rfl⟩ : ∃ r, k = r + 1 := by
        cases k with
        | zero => simp at hk; omega
        | succ r => exact ⟨r, rfl⟩
      have t0 : decide ((0 : Int) < n8 y) = true := decide_eq_true (by unfold n8; omega)
      have hy2 : (y >>> 1).toNat < 2 ^ r := by rw [shr_nat]; rw [Nat.pow_succ] at hk; omega
      have hmeas : (n8 (y >>> 1)).toNat < (n8 y).toNat := by unfold n8; rw [shr_nat]; omega
      have hd := dbl_nat x
      have hx := n8_bd x
      have hw : IntKind.i64.wrap (n8 x * 2) = n8 x * 2 := by rw [IntKind.wrap_i64]; omega
      have hY := Lib.hid hy2
      have hM := Lib.hid hmeas
      clear hk hlt hy2 hmeas
      by_cases hx7 : 128 ≤ x.toNat
      · have t1 : decide ((256 : Int) ≤ n8 x * 2) = true := decide_eq_true (by unfold n8; omega)
        have e1 : bits .xor .i64 (n8 x * 2) 285 = n8 (Gf.dbl x) := by
          rw [if_pos hx7] at hd
          have := x.toNat_lt
          rw [show n8 x * 2 = ((x.toNat * 2 : Nat) : Int) by unfold n8; omega, show (285 : Int) = ((285 : Nat) : Int) from rfl, i64_xor_nat _ _ (by omega) (by omega), hd]
          rfl
        clear hd hx hx7
        go_wp2
        all_goals go_round
        all_goals first
          | (exact ⟨r, Gf.dbl x, y >>> 1, _, hY.out, rfl, rfl, rfl, Lib.hid (by
              have hm := hm.out
              first
                | rwa [mulR_odd (by assumption)] at hm
                | rwa [mulR_even (by assumption)] at hm)⟩)
          | exact hM.out
      · have t1 : decide ((256 : Int) ≤ n8 x * 2) = false := decide_eq_false (by unfold n8; omega)
        have e1 : n8 x * 2 = n8 (Gf.dbl x) := by
          rw [if_neg hx7] at hd
          unfold n8
          omega
        have E1 := Lib.hid e1
        clear hd hx hx7 e1
        go_wp2
        all_goals go_round
        all_goals first
          | (exact ⟨r, Gf.dbl x, y >>> 1, _, hY.out, rfl, by rw [E1.out], rfl, Lib.hid (by
              have hm := hm.out
              first
                | rwa [mulR_odd (by assumption)] at hm
                | rwa [mulR_even (by assumption)] at hm)⟩)
          | exact hM.out
end Go.Proofs.YtfgifndpglgjkaaGreatDoor
end

section
set_option linter.unusedVariables false
set_option linter.unusedSimpArgs false
namespace Go.Proofs.YtfgifndpglgjkaaGreatDoor
open Go.RowKit

theorem info8 : (Tryz.prog.info? 5).map (fun i => (i.zero, i.size, i.bytes)) = some (some (.int .u8 0), 1, 1) := by kernel_rfl
/-- A slice of bytes in memory of the call's own (from block B on). -/
def Own (w : World) (B : Nat) (a : Option Addr) (n c : Nat) (l : List UInt8) : Prop := w.ownsRow B 5 1 (.slice a n c) n (vs l)
/-- A slice of bytes to which append writes nothing that was there. -/
def AppB (w : World) (B : Nat) (a : Option Addr) (n c : Nat) (l : List UInt8) : Prop := App w B 5 1 (.slice a n c) n (vs l)

theorem Own.bs {w : World} {B n c : Nat} {a : Option Addr} {l : List UInt8} (h : Own w B a n c l) : Bs w a n c l := by
  have h1 := h.1
  have h2 := own_cap h
  exact ⟨by simpa [vs_len] using h1, h2.2.1, h2.2.2, Row.of_own h⟩
theorem Own.app {w : World} {B n c : Nat} {a : Option Addr} {l : List UInt8} (h : Own w B a n c l) : AppB w B a n c l := .inl h
theorem Own.mono {w : World} {B B' n c : Nat} {a : Option Addr} {l : List UInt8} (h : Own w B a n c l) (hB : B' ≤ B) : Own w B' a n c l := own_mono h hB
theorem Own.below {w w' : World} {B n c : Nat} {a : Option Addr} {l : List UInt8} (h : Own w B a n c l) (hb : Below w.heap.size w w') : Own w' B a n c l := own_below h hb
theorem Own.alloc {w : World} {B n c : Nat} {a : Option Addr} {l : List UInt8} (h : Own w B a n c l) (o : Obj) : Own (w.alloc o) B a n c l := World.ownsRow.alloc h o
theorem Own.nil (w : World) (B : Nat) : Own w B none 0 0 [] := World.ownsRow_nil w B _ _
theorem AppB.bs {w : World} {B n c : Nat} {a : Option Addr} {l : List UInt8} (h : AppB w B a n c l) : Bs w a n c l := by
  rcases h with h | ⟨a', h1, h2, h3, h4⟩
  · exact Own.bs h
  · cases h1; exact ⟨by simpa [vs_len] using h3, Nat.le_refl _, h4, h2⟩
theorem AppB.full {w : World} {B n : Nat} {a : Option Addr} {l : List UInt8} (h : Bs w a n n l) : AppB w B a n n l := .inr ⟨a, rfl, h.2.2.2, by rw [vs_len, h.1]; simp, h.2.2.1⟩
theorem AppB.below {w w' : World} {B n c : Nat} {a : Option Addr} {l : List UInt8} (h : AppB w B a n c l) (hb : Below w.heap.size w w') : AppB w' B a n c l := App.below h hb
theorem AppB.alloc {w : World} {B n c : Nat} {a : Option Addr} {l : List UInt8} (h : AppB w B a n c l) (o : Obj) : AppB (w.alloc o) B a n c l :=
  h.below ((Below.refl _ _).alloc (Nat.le_refl _) o)
/-- A slice that is written out in a statement. -/
theorem Bs.lit (w : World) (l : List UInt8) (hl : l.length ≤ maxLen) : Bs (w.alloc (.cells (vs l).toArray 5)) (some ⟨w.heap.size, 0, none⟩) l.length l.length l :=
  ⟨rfl, Nat.le_refl _, hl, by simpa using Row.new w (vs l).toArray 5⟩
theorem Own.lit (w : World) (B : Nat) (l : List UInt8) (hB : B ≤ w.heap.size) (hl : l.length ≤ maxLen) : Own (w.alloc (.cells (vs l).toArray 5)) B (some ⟨w.heap.size, 0, none⟩) l.length l.length l := by
  refine ⟨by rw [vs_len]; simp, .inr ⟨w.heap.size, l.length, _, rfl, hB, heap_alloc_new w _, Nat.le_refl _, hl, by simp [vs_len], ?_⟩⟩
  simp only [Nat.mul_one]
  rw [List.take_of_length_le (by simp [vs_len])]
theorem Bs.litAt {w : World} {k : Nat} (l : List UInt8) (fr : Nat × Nat) (hk : k = w.heap.size) (hl : l.length ≤ maxLen) : Bs (w.alloc (.cells (vs l).toArray 5 fr)) (some ⟨k, 0, none⟩) l.length l.length l := by
  subst hk
  refine ⟨rfl, Nat.le_refl _, hl, ?_⟩
  intro j v hv
  refine ⟨w.heap.size, 0, rfl, ?_⟩
  rw [cell_of_row _ _ _ (vs l).toArray 5 fr (heap_alloc_new w _)]
  simpa using hv
theorem Bs.one (w : World) (b : UInt8) : Bs (w.alloc (.cells #[.int .u8 (n8 b)] 5)) (some ⟨w.heap.size, 0, none⟩) 1 1 [b] := Bs.lit w [b] (by simp [maxLen])
theorem Bs.oneN (w : World) (v : Nat) (h : v < 256) : Bs (w.alloc (.cells #[.int .u8 (v : Int)] 5)) (some ⟨w.heap.size, 0, none⟩) 1 1 [UInt8.ofNat v] := by
  have e : (v : Int) = n8 (UInt8.ofNat v) := by unfold n8; rw [UInt8.toNat_ofNat']; omega
  rw [e]; exact Bs.one w _

theorem slice_lh (a : Option Addr) (n c : Nat) {lo hi : Int} {lo' hi' : Nat} (hlo : lo = lo') (hhi : hi = hi') (h1 : lo' ≤ hi') (h2 : hi' ≤ c) (w : World) :
    (Instr.slice 25 (.slice a n c) (some (.int .i64 lo)) (some (.int .i64 hi)) none).run Tryz.prog w = .ok (.slice (subA a c lo') (hi' - lo') (c - lo')) w := by
  obtain ⟨i, hi0, _, g1, _⟩ := info_parts info8
  rw [run_slice_lh Tryz.underlying25 hi0 g1 a n c hlo hhi h1 h2, subAn_one]
theorem slice_l (a : Option Addr) (n c : Nat) {lo : Int} {lo' : Nat} (hlo : lo = lo') (h1 : lo' ≤ n) (w : World) :
    (Instr.slice 25 (.slice a n c) (some (.int .i64 lo)) none none).run Tryz.prog w = .ok (.slice (subA a c lo') (n - lo') (c - lo')) w := by
  obtain ⟨i, hi0, _, g1, _⟩ := info_parts info8
  rw [run_slice_l Tryz.underlying25 hi0 g1 a n c hlo h1, subAn_one]
theorem slice_h (a : Option Addr) (n c : Nat) {hi : Int} {hi' : Nat} (hhi : hi = hi') (h2 : hi' ≤ c) (w : World) :
    (Instr.slice 25 (.slice a n c) none (some (.int .i64 hi)) none).run Tryz.prog w = .ok (.slice a hi' c) w := by
  obtain ⟨i, hi0, _, g1, _⟩ := info_parts info8
  exact run_slice_h Tryz.underlying25 hi0 g1 a n c hhi h2 w

section
variable {w : World} {ops : Array Oper} {rest : List Oper} {o : Oper} {a : Act} {Q : Exit → Act → World → Prop}
/-- append to a row of the call's own. -/
theorem app_own (hgd : Region.wanted o (yielded ops a.tmps) = true) (s x : Operand) (ho : o.op = .call { callee := .builtin .append, args := #[s, x], argTypes := #[25, 25] })
    (B : Nat) {aq : Option Addr} {n c : Nat} {l : List UInt8} (hs : a.eval s = .slice aq n c) (hown : Own w B aq n c l)
    {ax : Option Addr} {m cx : Nat} {p : List UInt8} (hx : a.eval x = .slice ax m cx) (hr : Bs w ax m cx p) (hb : n + m ≤ 140737488355328) (hB : B ≤ w.heap.size)
    (h : ∀ a' c' w', Own w' B a' (n + m) c' (l ++ p) → Below B w w' → Evol w aq w' a' → wpList Tryz.prog ops Q rest (a.put o.dst (.slice a' (n + m) c')) w') : wpList Tryz.prog ops Q (o :: rest) a w := by
  obtain ⟨i, hi, h0, h1, h2⟩ := info_parts info8
  refine wpList_app_own hgd s x 25 ho B 5 i (.int .u8 0) 1 1 Tryz.underlying25 hi h0 h1 h2 rfl (by decide) aq n c (vs l) hs hown ax m cx (vs p) hx hr.2.2.2 (by rw [vs_len, hr.1]; simp) (vs_one p) (by omega) (by simp only [maxLen]; omega) hB ?_
  intro a' c' w' g1 g2
  rw [← vs_append] at g1
  exact h a' c' w' g1 (g2.below hB (fun x hx => by subst hx; exact (World.ownsRow.lt hown x.block rfl).1)) g2
/-- append to a row of the call's own or to a full slice. -/
theorem app_any (hgd : Region.wanted o (yielded ops a.tmps) = true) (s x : Operand) (ho : o.op = .call { callee := .builtin .append, args := #[s, x], argTypes := #[25, 25] })
    (B : Nat) {aq : Option Addr} {n c : Nat} {l : List UInt8} (hs : a.eval s = .slice aq n c) (hown : AppB w B aq n c l)
    {ax : Option Addr} {m cx : Nat} {p : List UInt8} (hx : a.eval x = .slice ax m cx) (hr : Bs w ax m cx p) (hb : n + m ≤ 140737488355328) (hB : B ≤ w.heap.size)
    (h : ∀ a' c' w', AppB w' B a' (n + m) c' (l ++ p) → (0 < m → Own w' B a' (n + m) c' (l ++ p)) → Below B w w' → Evol w aq w' a' → wpList Tryz.prog ops Q rest (a.put o.dst (.slice a' (n + m) c')) w') : wpList Tryz.prog ops Q (o :: rest) a w := by
  obtain ⟨i, hi, h0, h1, h2⟩ := info_parts info8
  refine wpList_app hgd s x 25 ho B 5 i (.int .u8 0) 1 1 Tryz.underlying25 hi h0 h1 h2 rfl (by decide) aq n c (vs l) hs hown ax m cx (vs p) hx hr.2.2.2 (by rw [vs_len, hr.1]; simp) (vs_one p) (by omega) (by simp only [maxLen]; omega) hB ?_
  intro a' c' w' g1 g2 g3 g4
  rw [← vs_append] at g1 g2
  exact h a' c' w' g1 g2 g3 g4
end

/-- The variadic slice of one part. -/
theorem Bss.one {w : World} {a : Option Addr} {n c : Nat} {l : List UInt8} (h : Bs w a n c l) : Bss (w.alloc (.cells #[.slice a n c] 25)) (some ⟨w.heap.size, 0, none⟩) 1 1 [l] := by
  refine ⟨rfl, Nat.le_refl _, by simp [maxLen], fun i hi => ?_⟩
  obtain rfl : i = 0 := by omega
  exact ⟨w.heap.size, 0, a, n, c, rfl, by rw [cell_of_row _ _ _ _ _ _ (heap_alloc_new w _)]; rfl, h.below ((Below.refl _ _).alloc (Nat.le_refl _) _)⟩

theorem Bss.oneAt {w : World} {k : Nat} {a : Option Addr} {n c : Nat} {l : List UInt8} (hk : k = w.heap.size) (h : Bs w a n c l) : Bss (w.alloc (.cells #[.slice a n c] 25)) (some ⟨k, 0, none⟩) 1 1 [l] := by
  subst hk; exact Bss.one h

/-- What a function that hands back a new slice of bytes says: its bytes, in memory of the call's own; what was there is as it was. -/
def RetB (w : World) (B : Nat) (l : List UInt8) (e : Ending) (w' : World) : Prop := ∃ a n c, e = .returned (.slice a n c) ∧ Own w' B a n c l ∧ Below B w w'

/-- The same of a function that appends to a slice that is handed in at 'a0'. -/
def RetE (w : World) (B : Nat) (a0 : Option Addr) (l : List UInt8) (e : Ending) (w' : World) : Prop := ∃ a n c, e = .returned (.slice a n c) ∧ Own w' B a n c l ∧ Below B w w' ∧ Evol w a0 w' a
theorem RetE.retB {w w' : World} {B : Nat} {a0 : Option Addr} {l : List UInt8} {e : Ending} (h : RetE w B a0 l e w') : RetB w B l e w' := by
  obtain ⟨a, n, c, h1, h2, h3, _⟩ := h
  exact ⟨a, n, c, h1, h2, h3⟩
theorem Bs.evol {w w' : World} {a a' ax : Option Addr} {n c : Nat} {l : List UInt8} (h : Bs w ax n c l) (k : Evol w a w' a') (hne : 0 < n → ∀ y x, ax = some y → a = some x → y.block ≠ x.block) : Bs w' ax n c l :=
  ⟨h.1, h.2.1, h.2.2.1, h.2.2.2.evol k (by rw [vs_len, h.1]; exact hne)⟩
theorem Bs.old {w : World} {a : Option Addr} {n c : Nat} {l : List UInt8} (h : Bs w a n c l) (hn : 0 < n) : ∀ y, a = some y → y.block < w.heap.size := by
  intro y hy
  obtain ⟨b, off, h1, h2⟩ := h.byte hn
  rw [hy] at h1
  cases h1
  exact World.block_lt_of_cell? _ _ h2
theorem Own.new {w : World} {B : Nat} {a : Option Addr} {n c : Nat} {l : List UInt8} (h : Own w B a n c l) : ∀ z, a = some z → B ≤ z.block ∧ z.block < w.heap.size := by
  intro z hz
  subst hz
  exact World.ownsRow.lt h z.block rfl

/-- Bytes as a string. -/
def bstr (l : List UInt8) : ByteArray := ⟨l.toArray⟩
theorem bstr_inj {l m : List UInt8} (h : bstr l = bstr m) : l = m := by
  have := congrArg (fun b => b.data.toList) h
  simpa [bstr] using this
theorem bstr_toList (l : List UInt8) : (bstr l).toList = l := by rw [ByteArray.toList_eq]; simp [bstr]
@[go_sem] theorem bstr_beq (l m : List UInt8) : ((bstr l).toList == (bstr m).toList) = decide (l = m) := by
  rw [bstr_toList, bstr_toList, Bool.eq_iff_iff]; simp
theorem conv_bytes {w : World} {a : Option Addr} {n c : Nat} {l : List UInt8} (h : Bs w a n c l) : (convert 25 9 (.slice a n c)).run Tryz.prog w = .ok (.string (bstr l)) w := by
  cases l with
  | nil =>
    have hn : n = 0 := by have := h.1; simpa using this.symm
    subst hn
    cases a with
    | none => exact run_convert_bytes_nil w 25 5 Tryz.underlying25 Tryz.underlying5 0 c 9 Tryz.underlying9
    | some ad =>
      rw [run_convert_bytes_string w 25 9 5 _ 0 c Tryz.underlying25 Tryz.underlying5 Tryz.underlying9, run_bytesToString w ad 0 c [] (by simp [loadCells, loadCellsFrom])]
      rfl
  | cons b l =>
    obtain ⟨bl, off, rfl, _⟩ := h.2.2.2 0 (.int .u8 (n8 b)) rfl
    rw [run_convert_bytes_arg w 25 5 Tryz.underlying25 Tryz.underlying5 bl off n c ((b :: l).map n8) (by rw [List.length_map]; exact h.1) (fun i hi => by
      obtain ⟨b', off', h1, h2⟩ := h.byte hi
      cases h1
      rw [h2]
      have hl : i < (b :: l).length := by rw [h.1]; exact hi
      rw [nth_eq _ hl, List.getD_eq_getElem?_getD, List.getElem?_map, List.getElem?_eq_getElem hl]
      rfl) 9 Tryz.underlying9]
    have e : strOfNums ((b :: l).map n8) = bstr (b :: l) := by
      unfold strOfNums bstr
      rw [List.map_map]
      congr 2
      conv => rhs; rw [← List.map_id (b :: l)]
      apply List.map_congr_left
      intro x _
      simp [n8]
    rw [e]
end Go.Proofs.YtfgifndpglgjkaaGreatDoor
end

section
set_option linter.unusedVariables false
set_option linter.unusedSimpArgs false
namespace Go.Proofs.YtfgifndpglgjkaaGreatDoor
open Go.RowKit Go.Deep

/-- Block b begins with n cells that hold 'f i'; none is frozen. -/
def rowTo (w : World) (b : Nat) (t : TypeId) (n : Nat) (f : Nat → Value) : Prop :=
  ∃ c : Array Value, w.heap[b]? = some (.cells c t (0, 0)) ∧ n ≤ c.size ∧ ∀ i, i < n → c[i]? = some (f i)
namespace rowTo
variable {w : World} {b : Nat} {t : TypeId} {n : Nat} {f g : Nat → Value}
theorem of_is (h : w.rowIs b t n f) : rowTo w b t n f := by
  obtain ⟨c, h1, h2, h3⟩ := h
  exact ⟨c, h1, by omega, h3⟩
theorem cell (h : rowTo w b t n f) {i : Nat} (hi : i < n) : w.cell? ⟨b, i, none⟩ = some (f i) := by
  obtain ⟨c, hb, _, hc⟩ := h
  simp [World.cell?, hb, hc i hi]
theorem frozen (h : rowTo w b t n f) (i : Nat) : w.frozen? ⟨b, i, none⟩ = false := by
  obtain ⟨c, hb, _, _⟩ := h
  simp [World.frozen?, hb]
theorem lt (h : rowTo w b t n f) : b < w.heap.size := by
  obtain ⟨c, hb, _, _⟩ := h
  obtain ⟨hlt, _⟩ := Array.getElem?_eq_some_iff.1 hb
  exact hlt
theorem congr (h : rowTo w b t n f) (e : ∀ i, i < n → f i = g i) : rowTo w b t n g := by
  obtain ⟨c, hb, hn, hc⟩ := h
  exact ⟨c, hb, hn, fun i hi => by rw [hc i hi, e i hi]⟩
theorem of_block {w' : World} (h : rowTo w b t n f) (e : w'.heap[b]? = w.heap[b]?) : rowTo w' b t n f := by
  obtain ⟨c, hb, hn, hc⟩ := h
  exact ⟨c, e.trans hb, hn, hc⟩
theorem below {w' : World} (h : rowTo w b t n f) (hb : Below w.heap.size w w') : rowTo w' b t n f := h.of_block (hb.block _ h.lt)
theorem set (h : rowTo w b t n f) (i : Nat) (v : Value) : rowTo (w.setCell ⟨b, i, none⟩ v) b t n (fun j => if j = i then v else f j) := by
  obtain ⟨c, hb, hn, hc⟩ := h
  refine ⟨c.setIfInBounds i v, ?_, by simpa using hn, fun j hj => ?_⟩
  · simp [World.setCell, Array.getElem?_modify, hb]
  · rw [Array.getElem?_setIfInBounds]
    by_cases e : j = i
    · subst e
      simp only [if_true]
      rw [if_pos (by omega)]
    · rw [if_neg (fun h => e h.symm)]
      show c[j]? = some (if j = i then v else f j)
      rw [if_neg e]
      exact hc j hj
theorem setOther (h : rowTo w b t n f) {a : Addr} (ha : b ≠ a.block) (v : Value) : rowTo (w.setCell a v) b t n f := h.of_block (blk_setCell_other _ _ _ _ ha)
theorem alloc (h : rowTo w b t n f) (o : Obj) : rowTo (w.alloc o) b t n f := h.of_block (blk_alloc_lt _ _ _ h.lt)
end rowTo

def mat (n C : Nat) (Z : Nat → Nat → UInt8) : List (List UInt8) := (List.range n).map fun i => (List.range C).map (Z i)
theorem mat_len (n C : Nat) (Z : Nat → Nat → UInt8) : (mat n C Z).length = n := by simp [mat]
theorem mat_row {n C : Nat} {Z : Nat → Nat → UInt8} {i : Nat} (h : i < n) : nth (mat n C Z) i = (List.range C).map (Z i) := by
  rw [nth_eq _ (by rw [mat_len]; exact h)]; simp [mat]
theorem mat_congr {n C : Nat} {Y Z : Nat → Nat → UInt8} (h : ∀ i j, i < n → j < C → Y i j = Z i j) : mat n C Y = mat n C Z := by
  unfold mat
  apply List.map_congr_left
  intro i hi
  apply List.map_congr_left
  intro j hj
  exact h i j (List.mem_range.1 hi) (List.mem_range.1 hj)

structure Mx (w : World) (B g n C : Nat) (bl : Nat → Nat) (Z : Nat → Nat → UInt8) : Prop where
  base : B ≤ g
  top : rowTo w g 25 n (fun i => .slice (some ⟨bl i, 0, none⟩) C C)
  row : ∀ i, i < n → B ≤ bl i ∧ bl i ≠ g ∧ rowTo w (bl i) 5 C (fun j => .int .u8 (n8 (Z i j)))
  apart : ∀ i j, i < n → j < n → bl i = bl j → i = j
namespace Mx
variable {w : World} {B g n C : Nat} {bl : Nat → Nat} {Z : Nat → Nat → UInt8}
theorem below {w' : World} (h : Mx w B g n C bl Z) (hb : Below w.heap.size w w') : Mx w' B g n C bl Z :=
  ⟨h.base, h.top.below hb, fun i hi => ⟨(h.row i hi).1, (h.row i hi).2.1, (h.row i hi).2.2.below hb⟩, h.apart⟩
theorem mono {B' : Nat} (h : Mx w B g n C bl Z) (hB : B' ≤ B) : Mx w B' g n C bl Z :=
  ⟨Nat.le_trans hB h.base, h.top, fun i hi => ⟨Nat.le_trans hB (h.row i hi).1, (h.row i hi).2⟩, h.apart⟩
theorem drewN (h : Mx w B g n C bl Z) (q : Nat) : Mx (w.drewN q) B g n C bl Z := h.below (below_drewN (Below.refl _ _) q)
theorem congr {Y : Nat → Nat → UInt8} (h : Mx w B g n C bl Z) (e : ∀ i j, i < n → j < C → Z i j = Y i j) : Mx w B g n C bl Y :=
  ⟨h.base, h.top, fun i hi => ⟨(h.row i hi).1, (h.row i hi).2.1, (h.row i hi).2.2.congr fun j hj => by rw [e i j hi hj]⟩, h.apart⟩
theorem set (h : Mx w B g n C bl Z) {i : Nat} (hi : i < n) (j : Nat) (v : UInt8) : Mx (w.setCell ⟨bl i, j, none⟩ (.int .u8 (n8 v))) B g n C bl (fun r c => if r = i ∧ c = j then v else Z r c) := by
  refine ⟨h.base, h.top.setOther (fun e => (h.row i hi).2.1 e.symm) _, fun r hr => ⟨(h.row r hr).1, (h.row r hr).2.1, ?_⟩, h.apart⟩
  by_cases e : r = i
  · subst e
    refine ((h.row r hr).2.2.set j _).congr fun c hc => ?_
    by_cases ec : c = j
    · simp [ec]
    · simp [ec]
  · refine ((h.row r hr).2.2.setOther (fun e' => e (h.apart r i hr hi e')) _).congr fun c hc => ?_
    simp [e]
theorem bss {c : Nat} (h : Mx w B g n C bl Z) (hc : n ≤ c) (hm : c ≤ maxLen) (hC : C ≤ maxLen) : Bss w (some ⟨g, 0, none⟩) n c (mat n C Z) := by
  refine ⟨mat_len _ _ _, hc, hm, fun i hi => ⟨g, 0, some ⟨bl i, 0, none⟩, C, C, rfl, by rw [Nat.zero_add]; exact h.top.cell hi, ?_⟩⟩
  rw [mat_row hi]
  refine ⟨by simp, Nat.le_refl _, hC, fun j v hv => ?_⟩
  have hj : j < C := by
    rcases Nat.lt_or_ge j C with h' | h'
    · exact h'
    · rw [List.getElem?_eq_none (by simp [vs]; omega)] at hv; cases hv
  refine ⟨bl i, 0, rfl, ?_⟩
  rw [Nat.zero_add, (h.row i hi).2.2.cell hj]
  simp [vs, hj] at hv
  rw [hv]
end Mx
theorem infoBs : (Tryz.prog.info? 25).map (fun i => (i.zero, i.size, i.bytes)) = some (some (.slice none 0 0), 1, 24) := by kernel_rfl
end Go.Proofs.YtfgifndpglgjkaaGreatDoor
end
