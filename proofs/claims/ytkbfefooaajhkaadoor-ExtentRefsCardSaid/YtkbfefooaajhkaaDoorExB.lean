/- Heads: their bytes, chunks. -/
import Derived.Test.YtkbfefooaajhkaaDoorExN
import Derived.Test.YtkbfefooaajhkaaDoorXdC
import Derived.Test.YtkbfefooaajhkaaDoorReads2
import Derived.Deep.DeepCutAuto
set_option maxRecDepth 100000
set_option linter.unusedVariables false
set_option linter.unusedSimpArgs false
namespace Go.Proofs.YtkbfefooaajhkaaDoor
open Go.RowKit

structure Hd where
  size : Nat
  chunk : Nat
  refs : Nat
  sum : UInt32
instance : Inhabited Hd := ⟨⟨0, 0, 0, 0⟩⟩
structure Hd.Ok (h : Hd) : Prop where
  size : h.size ≤ 1073741824
  chunk : h.chunk ≤ 16777216
  pos : 1 ≤ h.chunk
  refs : h.refs ≤ 1073741824
def hval (h : Hd) : Value := .agg #[.int .i64 h.size, .int .i64 h.chunk, .int .i64 h.refs, .int .u32 (n32 h.sum)]
def Hd.bytes (h : Hd) : List UInt8 := Codec.enc h.size ++ Codec.enc h.chunk ++ Codec.enc h.refs ++ Codec.four h.sum
theorem pfour_any (B : Nat) (a : Option Addr) (n c : Nat) (l : List UInt8) (x : UInt32) (w : World) (hB : B ≤ w.heap.size) (h : Own w B a n c l) (hn : n + 4 ≤ 140737488355328) :
    Calls Tryd.prog 37 #[.slice a n c, .int .u32 (n32 x)] w (RetE w B a (l ++ Codec.four x)) := by
  go_enter Tryd.func37, Tryd.ntmps37
  go_wp2_with (at_builtin; refine app_own rfl _ _ rfl B rfl (h.alloc _) rfl (Bs.lit w (Codec.four x) (by simp [Codec.four, maxLen])) hn (le_alloc hB) ?_; intro a'' c'' w' h1 h2 h3)
  go_ret
  exact ⟨_, _, _, rfl, h1, ((Below.refl _ _).alloc hB _).trans h2, (Evol.alloc _ _ _).trans h3⟩
theorem enc_le10 {n : Nat} (h : n ≤ 1073741824) : (Codec.enc n).length ≤ 10 := Codec.enc_len10 (by omega)
theorem hd_cells (w : World) (h : Hd) (t : TypeId) : let w' := w.alloc (.cells #[.int .i64 h.size, .int .i64 h.chunk, .int .i64 h.refs, .int .u32 (n32 h.sum)] t)
    w'.cell? ⟨w.heap.size, 0, none⟩ = some (.int .i64 h.size) ∧ w'.cell? ⟨w.heap.size, 1, none⟩ = some (.int .i64 h.chunk) ∧ w'.cell? ⟨w.heap.size, 2, none⟩ = some (.int .i64 h.refs) ∧ w'.cell? ⟨w.heap.size, 3, none⟩ = some (.int .u32 (n32 h.sum)) := by
  have hn := heap_alloc_new w (.cells #[.int .i64 h.size, .int .i64 h.chunk, .int .i64 h.refs, .int .u32 (n32 h.sum)] t)
  exact ⟨(cell_of_row _ _ 0 _ _ _ hn).trans rfl, (cell_of_row _ _ 1 _ _ _ hn).trans rfl, (cell_of_row _ _ 2 _ _ _ hn).trans rfl, (cell_of_row _ _ 3 _ _ _ hn).trans rfl⟩
set_option maxHeartbeats 4000000 in
theorem hbytes_any (h : Hd) (w : World) (ok : h.Ok) :
    Calls Tryd.prog 34 #[hval h] w (RetB w w.heap.size h.bytes) := by
  obtain ⟨hs, hc, hp, hr⟩ := ok
  obtain ⟨c0, c1, c2, c3⟩ := hd_cells w h 52
  have hb1 := below_alloc1 w (.cells #[.int .i64 h.size, .int .i64 h.chunk, .int .i64 h.refs, .int .u32 (n32 h.sum)] 52)
  obtain ⟨w1, hw0⟩ : ∃ w1, w.alloc (.cells #[.int .i64 h.size, .int .i64 h.chunk, .int .i64 h.refs, .int .u32 (n32 h.sum)] 52) = w1 := ⟨_, rfl⟩
  rw [hw0] at c0 c1 c2 c3 hb1
  have HB1 := Lib.hid hb1
  have hl1 := enc_le10 hs
  have hl2 := enc_le10 (Nat.le_trans hc (by decide : 16777216 ≤ 1073741824))
  have hl3 := enc_le10 hr
  have HBY : Hid (h.bytes = Codec.enc h.size ++ Codec.enc h.chunk ++ Codec.enc h.refs ++ Codec.four h.sum) := Lib.hid rfl
  have hu1 : U64 h.size := ⟨by omega⟩
  have hu2 : U64 h.chunk := ⟨by omega⟩
  have hu3 : U64 h.refs := ⟨by omega⟩
  have hw1 : IntKind.u64.wrap (h.size : Int) = (h.size : Int) := by rw [IntKind.wrap_u64]; omega
  have hw2 : IntKind.u64.wrap (h.chunk : Int) = (h.chunk : Int) := by rw [IntKind.wrap_u64]; omega
  have hw3 : IntKind.u64.wrap (h.refs : Int) = (h.refs : Int) := by rw [IntKind.wrap_u64]; omega
  clear hb1
  unfold hval
  go_enter Tryd.func34, Tryd.ntmps34
  go_upto_region 1 with fail
  clear hw0
  refine wp_region_order [] [0, 1, 2, 4, 5, 6, 8, 9, 10, 12, 13] [3, 7, 11, 14] [15] 15 (by intro c a d v w h; cases d <;> exact h) (by kernel_rfl) (by kernel_rfl) (fun W' => ∃ V : BW w1, W' = V.w) ⟨⟨w1.drew, (Below.refl _ _).drew⟩, rfl⟩ ?_
  simp only [opsAt, List.filterMap_cons, List.filterMap_nil, List.getElem?_cons_zero, List.getElem?_cons_succ]
  refine held_nil ?_
  iterate 11
    apply held_step
    · rfl
    · rintro _ ⟨V, rfl⟩
      have m0 := BW.cell c0 V
      have m1 := BW.cell c1 V
      have m2 := BW.cell c2 V
      have m3 := BW.cell c3 V
      go_simp
      rfl
  refine held_nil ?_
  have HBC : Below w1.heap.size w1 w1.drew := (Below.refl _ _).drew
  refine walkS_step rfl (fun K hK => ?_)
  go_simp
  refine (number_any none 0 0 [] h.size _ (Bs.nil _) hu1 ⟨by omega⟩).mono ?_
  rintro e w2 ⟨a2, n2, k2, rfl, ho2, hb2⟩
  have HB2 := HBC.trans hb2
  refine hK _ _ ⟨⟨w2, HB2⟩, rfl⟩ ?_
  clear hK
  have hn2 : n2 ≤ 10 := by have := ho2.bs.1; simp at this; omega
  refine walkS_step rfl (fun K hK => ?_)
  go_simp
  refine (number_any a2 n2 k2 _ h.chunk _ ho2.bs hu2 ⟨by omega⟩).mono ?_
  rintro e w3 ⟨a3, n3, k3, rfl, ho3, hb3⟩
  have HB3 := HB2.trans (hb3.mono HB2.size)
  refine hK _ _ ⟨⟨w3, HB3⟩, rfl⟩ ?_
  clear hK
  have hn3 : n3 ≤ 20 := by have := ho3.bs.1; simp at this; omega
  refine walkS_step rfl (fun K hK => ?_)
  go_simp
  refine (number_any a3 n3 k3 _ h.refs _ ho3.bs hu3 ⟨by omega⟩).mono ?_
  rintro e w4 ⟨a4, n4, k4, rfl, ho4, hb4⟩
  have HB4 := HB3.trans (hb4.mono HB3.size)
  refine hK _ _ ⟨⟨w4, HB4⟩, rfl⟩ ?_
  clear hK
  have hn4 : n4 ≤ 30 := by have := ho4.bs.1; simp at this; omega
  refine walkS_step rfl (fun K hK => ?_)
  go_simp
  refine (pfour_any w3.heap.size a4 n4 k4 _ h.sum _ hb4.size ho4 (by omega)).mono ?_
  rintro e w5 ⟨a5, n5, k5, rfl, ho5, hb5, hev5⟩
  have HB5 := HB4.trans (hb5.mono (HB3.size))
  refine hK _ _ ⟨⟨w5, HB5⟩, rfl⟩ ?_
  clear hK
  refine walkS_nil ?_
  have HP : Hid (RetB w w.heap.size h.bytes (.returned (.slice a5 n5 k5)) w5) := Lib.hid ⟨a5, n5, k5, rfl, by rw [HBY.out]; exact (by simpa using ho5 : Own w5 w3.heap.size a5 n5 k5 _).mono (Nat.le_trans HB1.out.size HB3.size), HB1.out.trans (HB5.mono HB1.out.size)⟩
  clear ho2 ho3 ho4 ho5 hb2 hb3 hb4 hb5 HB2 HB3 HB4 HB5 HBC c0 c1 c2 c3
  go_wp2
  go_ret
  exact HP.out
set_option maxHeartbeats 4000000 in
theorem headed_any (h : Hd) (w : World) (ok : h.Ok) :
    Calls Tryd.prog 39 #[hval h] w (RetB w w.heap.size h.bytes) := by
  obtain ⟨hs, hc, hp, hr⟩ := ok
  obtain ⟨c0, c1, c2, c3⟩ := hd_cells w h 55
  have hb1 := below_alloc1 w (.cells #[.int .i64 h.size, .int .i64 h.chunk, .int .i64 h.refs, .int .u32 (n32 h.sum)] 55)
  obtain ⟨w1, hw0⟩ : ∃ w1, w.alloc (.cells #[.int .i64 h.size, .int .i64 h.chunk, .int .i64 h.refs, .int .u32 (n32 h.sum)] 55) = w1 := ⟨_, rfl⟩
  rw [hw0] at c0 c1 c2 c3 hb1
  have HB1 := Lib.hid hb1
  have VS := Lib.hid (fun (W : World) (k : Below w1.heap.size w1 W) => And.intro (cell_later k c0) (And.intro (cell_later k c1) (And.intro (cell_later k c2) (cell_later k c3))))
  have hl1 := enc_le10 hs
  have hl2 := enc_le10 (Nat.le_trans hc (by decide : 16777216 ≤ 1073741824))
  have hl3 := enc_le10 hr
  have HBY : Hid (h.bytes = Codec.enc h.size ++ Codec.enc h.chunk ++ Codec.enc h.refs ++ Codec.four h.sum) := Lib.hid rfl
  have hu1 : U64 h.size := ⟨by omega⟩
  have hu2 : U64 h.chunk := ⟨by omega⟩
  have hu3 : U64 h.refs := ⟨by omega⟩
  clear hb1 c0 c1 c2 c3
  unfold hval
  go_enter Tryd.func39, Tryd.ntmps39
  go_upto_region 1 with fail
  obtain ⟨c0, c1, c2, c3⟩ := VS.out w1 (Below.refl _ _)
  go_wp2_with fail
  refine (refnumber_any w1.heap.size none 0 0 [] h.size _ (Nat.le_refl _) (.inl (Own.nil _ _)) hu1 ⟨by omega⟩).mono ?_
  rintro e w2 ⟨a2, n2, k2, rfl, ho2, hb2, hev2⟩
  have HB2 := Lib.hid hb2
  have hn2 : n2 ≤ 10 := by have := ho2.bs.1; simp at this; omega
  have HO2 := Lib.hid ho2
  clear ho2 hb2 hev2 c0 c1 c2 c3
  obtain ⟨c0, c1, c2, c3⟩ := VS.out w2 HB2.out
  go_wp2_with fail
  refine (refnumber_any w1.heap.size a2 n2 k2 _ h.chunk _ HB2.out.size HO2.out.app hu2 ⟨by omega⟩).mono ?_
  rintro e w3 ⟨a3, n3, k3, rfl, ho3, hb3, hev3⟩
  have HB3 := Lib.hid (HB2.out.trans hb3)
  have hn3 : n3 ≤ 20 := by have := ho3.bs.1; simp at this; omega
  have HO3 := Lib.hid ho3
  clear ho3 hb3 hev3 c0 c1 c2 c3
  obtain ⟨c0, c1, c2, c3⟩ := VS.out w3 HB3.out
  go_wp2_with fail
  refine (refnumber_any w1.heap.size a3 n3 k3 _ h.refs _ HB3.out.size HO3.out.app hu3 ⟨by omega⟩).mono ?_
  rintro e w4 ⟨a4, n4, k4, rfl, ho4, hb4, hev4⟩
  have HB4 := Lib.hid (HB3.out.trans hb4)
  have hn4 : n4 ≤ 30 := by have := ho4.bs.1; simp at this; omega
  have HO4 := Lib.hid ho4
  clear ho4 hb4 hev4 c0 c1 c2 c3
  obtain ⟨c0, c1, c2, c3⟩ := VS.out w4 HB4.out
  go_wp2_with fail
  refine (four_any w1.heap.size a4 n4 k4 _ h.sum _ HB4.out.size HO4.out (by omega)).mono ?_
  rintro e w5 ⟨a5, n5, k5, rfl, ho5, hb5, hev5⟩
  have HP : Hid (RetB w w.heap.size h.bytes (.returned (.slice a5 n5 k5)) w5) := Lib.hid ⟨a5, n5, k5, rfl, by rw [HBY.out]; exact (by simpa using ho5 : Own w5 w1.heap.size a5 n5 k5 _).mono HB1.out.size, HB1.out.trans ((HB4.out.trans hb5).mono HB1.out.size)⟩
  clear ho5 hb5 hev5 c0 c1 c2 c3
  go_wp2
  go_ret
  exact HP.out
/-- How many chunks there are, how long one is. -/
def Hd.n (h : Hd) : Nat := (h.size + h.chunk - 1) / h.chunk
def Hd.len (h : Hd) (k : Nat) : Nat := min h.chunk (h.size - k * h.chunk)
set_option maxHeartbeats 1000000 in
theorem chunks_any (h : Hd) (w : World) (ok : h.Ok) : Calls Tryd.prog 35 #[hval h] w fun e w' => e = .returned (.int .i64 (h.n : Nat)) ∧ Below w.heap.size w w' := by
  obtain ⟨hs, hc, hp, hr⟩ := ok
  have HQ : Hid (((h.size : Int) + (h.chunk : Int) - 1) / (h.chunk : Int) = ((h.n : Nat) : Int)) := Lib.hid (by
    unfold Hd.n
    rw [Int.natCast_ediv]
    congr 1
    omega)
  have hq1 : ((h.chunk : Int) == 0) = false := by simp; omega
  unfold hval
  generalize h.n = N at *
  generalize h.size = S at *
  generalize h.chunk = C at *
  go_enter Tryd.func35, Tryd.ntmps35
  go_wp2
  go_ret
  exact ⟨by rw [← HQ.out]; rfl, below_alloc1 _ _⟩
set_option maxHeartbeats 1000000 in
theorem rchunks_any (h : Hd) (w : World) (ok : h.Ok) : Calls Tryd.prog 44 #[hval h] w fun e w' => e = .returned (.int .i64 (h.n : Nat)) ∧ Below w.heap.size w w' := by
  obtain ⟨hs, hc, hp, hr⟩ := ok
  obtain ⟨q, hq⟩ : ∃ q, q = h.size / h.chunk := ⟨_, rfl⟩
  have hq0 := Nat.div_mul_le_self h.size h.chunk
  have hq2 := Nat.lt_div_mul_add (a := h.size) (b := h.chunk) (by omega)
  rw [← hq] at hq0 hq2
  have e1 : (h.size : Int) / (h.chunk : Int) = (q : Int) := by rw [hq, Int.natCast_ediv]
  have hqb : q ≤ 1073741824 := Nat.le_trans (by rw [hq]; exact Nat.div_le_self _ _) hs
  obtain ⟨m, hm⟩ : ∃ m, m = q * h.chunk := ⟨_, rfl⟩
  have e2 : (q : Int) * (h.chunk : Int) = (m : Int) := by rw [hm, Int.natCast_mul]
  rw [← hm] at hq0 hq2
  by_cases hlt : m < h.size
  · have HQ : Hid (h.n = q + 1) := Lib.hid (by
      unfold Hd.n
      rw [Nat.div_eq_iff (by omega)]
      have : (q + 1) * h.chunk = m + h.chunk := by rw [hm, Nat.succ_mul]
      omega)
    rw [HQ.out]
    have t1 : decide (m < h.size) = true := decide_eq_true hlt
    have hq1 : ((h.chunk : Int) == 0) = false := by simp; omega
    unfold hval
    clear hq hm HQ
    generalize h.size = S at *
    generalize h.chunk = C at *
    go_enter Tryd.func44, Tryd.ntmps44
    go_wp2
    go_ret
    exact ⟨rfl, below_alloc1 _ _⟩
  · have HQ : Hid (h.n = q) := Lib.hid (by
      unfold Hd.n
      rw [Nat.div_eq_iff (by omega)]
      omega)
    rw [HQ.out]
    have t1 : decide (m < h.size) = false := decide_eq_false hlt
    have hq1 : ((h.chunk : Int) == 0) = false := by simp; omega
    unfold hval
    clear hq hm HQ
    generalize h.size = S at *
    generalize h.chunk = C at *
    go_enter Tryd.func44, Tryd.ntmps44
    go_wp2
    go_ret
    exact ⟨rfl, below_alloc1 _ _⟩
set_option maxHeartbeats 1000000 in
theorem length_any (h : Hd) (k : Nat) (w : World) (ok : h.Ok) (hk : k * h.chunk < h.size) : Calls Tryd.prog 36 #[hval h, .int .i64 k] w fun e w' => e = .returned (.int .i64 (h.len k : Nat)) ∧ Below w.heap.size w w' := by
  obtain ⟨hs, hc, hp, hr⟩ := ok
  obtain ⟨m, hm⟩ : ∃ m, m = k * h.chunk := ⟨_, rfl⟩
  have e2 : (k : Int) * (h.chunk : Int) = (m : Int) := by rw [hm, Int.natCast_mul]
  have hkb : k ≤ 1073741824 := by
    have h2 : k * 1 ≤ k * h.chunk := Nat.mul_le_mul_left k hp
    omega
  have HL : Hid (h.len k = min h.chunk (h.size - m)) := Lib.hid (by unfold Hd.len; rw [hm])
  rw [← hm] at hk
  have HA : Hid ((h.size : Int) - (m : Int) < (h.chunk : Int) → (h.size : Int) - (m : Int) = ((h.len k : Nat) : Int)) := Lib.hid (by rw [HL.out]; omega)
  have HB : Hid ((h.chunk : Int) ≤ (h.size : Int) - (m : Int) → (h.chunk : Int) = ((h.len k : Nat) : Int)) := Lib.hid (by rw [HL.out]; omega)
  unfold hval
  clear hm HL
  generalize h.len k = L at *
  generalize h.size = S at *
  generalize h.chunk = C at *
  go_enter Tryd.func36, Tryd.ntmps36
  go_wp2
  all_goals
    go_ret
    first
      | exact ⟨congrArg (fun z => Ending.returned (Value.int .i64 z)) (HA.out (by assumption)), below_alloc1 _ _⟩
      | exact ⟨congrArg (fun z => Ending.returned (Value.int .i64 z)) (HB.out (by assumption)), below_alloc1 _ _⟩
end Go.Proofs.YtkbfefooaajhkaaDoor
