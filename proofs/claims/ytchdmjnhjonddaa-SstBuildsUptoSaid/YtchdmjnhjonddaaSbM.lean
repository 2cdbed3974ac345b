/- Sorted tables: numbers that are read, a reader's steps. -/
import Derived.Test.YtchdmjnhjonddaaSbL
set_option maxRecDepth 100000
set_option linter.unusedVariables false
set_option linter.unusedSimpArgs false
namespace Go.Proofs.Ytchdmjnhjonddaa
open Go.RowKit

def Sst.num : List UInt8 → Nat
  | [] => 0
  | b :: l => b.toNat + 256 * Sst.num l
theorem num_lt : ∀ l : List UInt8, Sst.num l < 256 ^ l.length
  | [] => by simp [Sst.num]
  | b :: l => by
    have h1 := num_lt l
    have h2 := b.toNat_lt
    rw [Sst.num, List.length_cons, Nat.pow_succ]
    omega
theorem or8_64 {v : Nat} {x : UInt8} (hv : v < 72057594037927936) : bits .or .u64 ((v : Int) * 256) (x.toNat : Int) = ((x.toNat + 256 * v : Nat) : Int) := by
  have hx := x.toNat_lt
  rw [show (v : Int) * 256 = ((v * 256 : Nat) : Int) by omega, u64_or_nat _ _ (by omega) (by omega)]
  congr 1
  rw [show v * 256 = v <<< 8 by rw [Nat.shiftLeft_eq], ← Nat.shiftLeft_add_eq_or_of_lt (by omega : x.toNat < 2 ^ 8), Nat.shiftLeft_eq]
  omega
set_option maxHeartbeats 1000000 in
theorem snumber_any (a : Option Addr) (n c : Nat) (l : List UInt8) (w : World) (h : Bs w a n c l) (hn : n ≤ 8) :
    Calls Try.prog 57 #[.slice a n c] w fun e w' => e = .returned (.int .u64 (Sst.num l : Nat)) ∧ w = w' := by
  have HN := Lib.hid h.1
  have HL := Lib.hid h
  clear h
  go_enter Try.func57, Try.ntmps57
  go_wp2_with fail
  go_loop [3, 4] (fun vv iv => ∃ k : Nat, k ≤ n ∧ iv = .int .i64 ((k : Int) - 1) ∧ vv = .int .u64 (Sst.num (l.drop k) : Nat)) (fun _ iv => (intOf iv + 1).toNat)
  case atStart => exact ⟨n, Nat.le_refl _, rfl, by rw [List.drop_of_length_le (by rw [HN.out]; exact Nat.le_refl _)]; rfl⟩
  case round =>
    obtain ⟨k, hk, rfl, rfl⟩ := hrel
    have hnl := num_lt (l.drop k)
    rw [List.length_drop, HN.out] at hnl
    by_cases h0 : k = 0
    · subst h0
      have t1 : decide ((0 : Int) ≤ ((0 : Nat) : Int) - 1) = false := decide_eq_false (by omega)
      generalize hv : Sst.num (l.drop 0) = v at *
      have HV : Hid (Sst.num l = v) := Lib.hid hv
      clear hv
      go_wp2
      go_ret
      exact ⟨by rw [HV.out]; rfl, rfl⟩
    · obtain ⟨i, rfl⟩ : ∃ i, k = i + 1 := ⟨k - 1, by omega⟩
      obtain ⟨b, off, rfl, hb⟩ := HL.out.2.2.2.byte (i := i) (by rw [HN.out]; omega)
      have HD : Hid (Sst.num (l.drop i) = (nth l i).toNat + 256 * Sst.num (l.drop (i + 1))) := Lib.hid (by
        rw [nth_eq l (by rw [HN.out]; omega), List.drop_eq_getElem_cons (by rw [HN.out]; omega), Sst.num])
      have hpw : 256 ^ (n - (i + 1)) ≤ 256 ^ 7 := Nat.pow_le_pow_right (by decide) (by omega)
      have hby := (nth l i).toNat_lt
      generalize Sst.num (l.drop (i + 1)) = v at *
      have hvb : v < 72057594037927936 := by omega
      generalize nth l i = x at *
      clear hnl hpw h0
      have t1 : decide ((0 : Int) ≤ ((i + 1 : Nat) : Int) - 1) = true := decide_eq_true (by omega)
      go_wp2
      refine ⟨⟨i, by omega, rfl, by rw [or8_64 hvb, HD.out]⟩, ?_⟩
      simp [intOf] <;> omega
theorem cell_oth {w w' : World} {bk b o : Nat} {v : Value} (k : Oth (some ⟨bk, 0, none⟩) w w') (hc : w.cell? ⟨b, o, none⟩ = some v) (hne : b ≠ bk) : w'.cell? ⟨b, o, none⟩ = some v :=
  (World.cell?_of_block (k.block b (World.block_lt_of_cell? _ _ hc) (fun x hx => by cases hx; exact Ne.symm hne))).trans hc
theorem Bs.notin {w w' : World} {a : Option Addr} {n c g : Nat} {l : List UInt8} {t : TypeId} {cs : Array Value} (h : Bs w a n c l) (ko : Oth (some ⟨g, 0, none⟩) w w') (hb : w.heap[g]? = some (.cells cs t (0, 0))) (hno : ∀ v ∈ cs.toList, ∀ z, v ≠ .int .u8 z) : Bs w' a n c l := by
  refine ⟨h.1, h.2.1, h.2.2.1, fun j v hj => ?_⟩
  obtain ⟨b, off, rfl, hc⟩ := h.2.2.2 j v hj
  have := List.mem_of_getElem? hj
  unfold vs at this
  obtain ⟨x, _, hx⟩ := List.mem_map.1 this
  subst hx
  refine ⟨b, off, rfl, cell_oth ko hc (fun e => ?_)⟩
  subst e
  rw [cell_of_row _ _ _ _ _ _ hb] at hc
  exact hno _ (by simpa using Array.mem_of_getElem? hc) _ rfl
/-- What Look has in memory: the result, the reader, the head. -/
theorem slice_lhm (a : Option Addr) (n c : Nat) {lo hi mx : Int} {lo' hi' mx' : Nat} (hlo : lo = lo') (hhi : hi = hi') (hmx : mx = mx') (h1 : lo' ≤ hi') (h2 : hi' ≤ mx') (h3 : mx' ≤ c) (w : World) :
    (Instr.slice 55 (.slice a n c) (some (.int .i64 lo)) (some (.int .i64 hi)) (some (.int .i64 mx))).run Try.prog w = .ok (.slice (subA a mx' lo') (hi' - lo') (mx' - lo')) w := by
  obtain ⟨i, hi0, _, g1, _⟩ := info_parts info8
  subst hlo hhi hmx
  have e1 : lo' ≤ mx' := Nat.le_trans h1 h2
  simp [Instr.slice, run_underlying Try.underlying55, sizeOf, typeInfo, hi0, g1, Instr.sliceBounds, run_sliceBound, h1, h2, h3, e1]
  unfold subA
  by_cases e : mx' = lo'
  · subst e; simp
  · cases a <;> simp [e]
/-- A reader: what is left of its bytes. -/
def RS (w : World) (bk : Nat) (l : List UInt8) : Prop := ∃ a n c, w.heap[bk]? = some (.cells #[.slice a n c, .bool false] 147 (0, 0)) ∧ Bs w a n c l
theorem RS.below {w w' : World} {bk : Nat} {l : List UInt8} (h : RS w bk l) (k : Below w.heap.size w w') : RS w' bk l := by
  obtain ⟨a, n, c, h1, h2⟩ := h
  exact ⟨a, n, c, (k.block bk (Array.getElem?_eq_some_iff.1 h1).1).trans h1, h2.below k⟩
theorem no_rd {a : Option Addr} {n c : Nat} {b : Bool} : ∀ v ∈ [Value.slice a n c, .bool b], ∀ z, v ≠ .int .u8 z := by
  intro v hv z e
  simp only [List.mem_cons, List.not_mem_nil, or_false] at hv
  rcases hv with rfl | rfl <;> cases e
/-- Bytes that are read beside a reader. -/
theorem RS.keep {w w' : World} {bk : Nat} {l x : List UInt8} {a : Option Addr} {n c : Nat} (h : RS w bk l) (k : Oth (some ⟨bk, 0, none⟩) w w') (hx : Bs w a n c x) : Bs w' a n c x := by
  obtain ⟨a', n', c', h1, _⟩ := h
  exact hx.notin k h1 no_rd
theorem Bs.dropm {w : World} {a : Option Addr} {n c : Nat} {l : List UInt8} (h : Bs w a n c l) {k : Nat} (hk : k ≤ n) : Bs w (subA a n k) (n - k) (n - k) (l.drop k) := by
  refine ⟨by rw [List.length_drop, h.1], Nat.le_refl _, by have := h.2.1; have := h.2.2.1; omega, ?_⟩
  rw [vs_drop]
  exact h.2.2.2.subA k n (by rw [vs_len, h.1]; exact Nat.le_refl _)
theorem cells2 {w : World} {b : Nat} {t : TypeId} {v0 v1 : Value} (h : w.heap[b]? = some (.cells #[v0, v1] t (0, 0))) :
    w.cell? ⟨b, 0, none⟩ = some v0 ∧ w.cell? ⟨b, 1, none⟩ = some v1 ∧ ∀ j, w.frozen? ⟨b, j, none⟩ = false :=
  ⟨(cell_of_row _ _ 0 _ _ _ h).trans rfl, (cell_of_row _ _ 1 _ _ _ h).trans rfl, fun j => by simp [World.frozen?, h]⟩
set_option maxHeartbeats 2000000 in
theorem take_ok (bk k : Nat) (l : List UInt8) (w : World) (h : RS w bk l) (hk : k ≤ l.length) :
    Calls Try.prog 98 #[.pointer (some ⟨bk, 0, none⟩), .int .i64 k, .int .i64 0] w fun e w' => e = .returned (.tuple #[]) ∧ RS w' bk (l.drop k) ∧ Oth (some ⟨bk, 0, none⟩) w w' := by
  obtain ⟨a, n, c, h1, h2⟩ := h
  have hn := h2.1
  have hle := h2.le.1
  have hnc : n ≤ c := h2.2.1
  have HH := Lib.hid h1
  have HB := Lib.hid h2
  obtain ⟨c0, c1, cf⟩ := cells2 h1
  rw [hn] at hk
  have hsl : ∀ W, (Instr.slice 55 (.slice a n c) (some (.int .i64 k)) (some (.int .i64 n)) (some (.int .i64 n))).run Try.prog W = .ok (.slice (subA a n k) (n - k) (n - k)) W := fun W => slice_lhm a n c rfl rfl rfl hk (Nat.le_refl _) hnc W
  have HD := Lib.hid (h2.dropm hk)
  have HS1 : Hid ((w.setCell ⟨bk, 1, none⟩ (.bool false)).heap[bk]? = some (.cells #[.slice a n c, .bool false] 147 (0, 0))) := Lib.hid (heap_set h1)
  have HO1 : Hid (Oth (some ⟨bk, 0, none⟩) w (w.setCell ⟨bk, 1, none⟩ (.bool false))) := Lib.hid ((Oth.refl _ w).set (p := ⟨bk, 1, none⟩) (x := ⟨bk, 0, none⟩) rfl rfl _)
  generalize subA a n k = ab at *
  generalize hm : n - k = m at *
  clear h1 h2 hn hm
  go_enter Try.func98, Try.ntmps98
  go_upto_region 1 with fail
  have hw1 : ∃ w1, w.setCell ⟨bk, 1, none⟩ (.bool false) = w1 := ⟨_, rfl⟩
  obtain ⟨w1, hw1⟩ := hw1
  rw [hw1] at HS1 HO1
  have HW1 := Lib.hid hw1
  try rw [HW1.out]
  clear hw1 c0 c1 cf
  obtain ⟨c0, c1, cf⟩ := cells2 HS1.out
  go_upto_region 2 with fail
  refine wp_region_still_tail 17 (by kernel_rfl) (by kernel_rfl) ?_
  simp only [List.take_succ_cons, List.take_zero, List.drop_succ_cons, List.drop_zero]
  repeat still_step
  refine wpStill_nil ?_
  have hb2 : Below w1.heap.size w1 w1.drew := (Below.refl _ _).drew
  have hs2 := (hb2.block bk (Array.getElem?_eq_some_iff.1 HS1.out).1).trans HS1.out
  have HP : Hid (RS (w1.drew.setCell ⟨bk, 0, none⟩ (.slice ab m m)) bk (l.drop k) ∧ Oth (some ⟨bk, 0, none⟩) w (w1.drew.setCell ⟨bk, 0, none⟩ (.slice ab m m))) := Lib.hid (by
    have ho : Oth (some ⟨bk, 0, none⟩) w1 (w1.drew.setCell ⟨bk, 0, none⟩ (.slice ab m m)) := (Oth.of_below hb2).set (p := ⟨bk, 0, none⟩) (x := ⟨bk, 0, none⟩) rfl rfl _
    exact ⟨⟨ab, m, m, heap_set hs2, (HD.out.notin HO1.out HH.out no_rd).notin ho HS1.out no_rd⟩, HO1.out.trans ho⟩)
  clear hb2 hs2
  go_wp2
  go_end0
  exact ⟨rfl, HP.out⟩
end Go.Proofs.Ytchdmjnhjonddaa
