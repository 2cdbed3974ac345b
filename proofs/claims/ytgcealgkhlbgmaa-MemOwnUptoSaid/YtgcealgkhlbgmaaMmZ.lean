/- The sequence that mem.From tells. -/
import Derived.Test.YtgcealgkhlbgmaaMmY
namespace Go.Proofs.Ytgcealgkhlbgmaa
open Go.RowKit
set_option linter.unusedVariables false
attribute [local go_sem] Oper.semAt_some

/-- What is handed out: the place; where its bytes lie. -/
abbrev Ot := Nat × Option Addr × Nat
def otv (l : List Ent) (x : Ot) : Array Value := #[ev (nth l x.1) x.2.1 x.2.2]
/-- Its bytes are its own. -/
def OtX (n₀ : Nat) (l : List Ent) (x : Ot) (W : World) : Prop := x.1 < l.length ∧ Own W n₀ x.2.1 (nth l x.1).val.length x.2.2 (nth l x.1).val
theorem OtX.own {n₀ B : Nat} {l : List Ent} : OwnFrom B (OtX n₀ l) := fun x W W' row hs hg hr => ⟨hs.1, own_turned (hs.2 : World.ownsRow _ _ _ _ _ _ _) hg (fun r e => (hr r e).2)⟩
set_option maxRecDepth 100000 in
set_option maxHeartbeats 4000000 in
theorem from2_in (m l Bx : Nat) (a : Option Addr) (n c : Nat) (es : List Ent) (n₀ : Nat) (hle : n ≤ 9223372036854775807 ∧ c ≤ 9223372036854775807) (hlen0 : es.length = n) (Kp : World → World → Prop) (hvl : ∀ i, i < n → (nth es i).val.length ≤ 1000000000) (J Jx : List Ot → World → Prop) (W : World) (hn₀ : n₀ ≤ W.heap.size)
    (hE : ∀ V, Kp W V → Es V a n c es) (hKr : Kp W W) (hKt : ∀ {A B C : World}, Kp A B → Kp B C → Kp A C) (hKw : ∀ A B, W.heap.size ≤ A.heap.size → Below A.heap.size A B → Kp A B) (hKs : ∀ A B, Kp A B → A.heap.size ≤ B.heap.size) (hJ : AbidesFrom W.heap.size J)
    (hY : ∀ pre x W1, J pre W1 → OtX n₀ es x W1 → pre.length < n → YieldAt Fence.wide m Try.prog l (otv es x) W1 fun e W' =>
      (e = .returned (.bool true) ∧ J (pre ++ [x]) W' ∧ Kp W1 W') ∨ (e = .returned (.bool false) ∧ Jx (pre ++ [x]) W'))
    (hBx : W.cell? ⟨Bx, 0, none⟩ = some (.slice a n c)) (h0 : J [] W) :
    CallsIn Fence.wide (m + 1) Try.prog 46 #[.func (.yield l) #[] #[], .pointer (some ⟨Bx, 0, none⟩)] W fun e W' => (∃ v, e = .returned v) ∧
      ((∃ xs : List Ot, xs.map Prod.fst = List.range n ∧ J xs W') ∨ (∃ pre : List Ot, pre.map Prod.fst = List.range pre.length ∧ Jx pre W')) := by
  have HN := Lib.hid hlen0
  have HE : Hid (∀ V, Kp W V → Es V a n c es) := Lib.hid hE
  have HVL := Lib.hid hvl
  have HKR := Lib.hid hKr
  have HKT : Hid (∀ A B C : World, Kp A B → Kp B C → Kp A C) := Lib.hid fun A B C => hKt
  have HKW := Lib.hid hKw
  have HKS := Lib.hid hKs
  have HJ := Lib.hid hJ
  have HY := Lib.hid hY
  have h1 : 1 ≤ m + 1 := by omega
  clear hE hvl hKr hKw hKs hJ hY hlen0
  refine callsIn_of_wp Try.func46 rfl trivial ?_ rfl
  simp only [Try.ntmps46, List.size_toArray, List.length_cons, List.length_nil, Nat.reduceAdd, Nat.reduceSub, Array.replicate_succ, Array.replicate_zero, List.push_toArray, List.append_toArray, List.nil_append, List.cons_append]
  gi_wp2_with fail
  clear hBx
  gi_loopw [7] (fun i wr => ∃ (f : Nat) (pre : List Ot), f ≤ n ∧ i = .int .i64 f ∧ Hid (pre.map Prod.fst = List.range f) ∧ Hid (J pre wr) ∧ Hid (Kp W wr)) (fun i _ => n - (intOf i).toNat)
  case atStart => exact ⟨0, [], Nat.zero_le _, rfl, Lib.hid rfl, Lib.hid h0, HKR⟩
  case round =>
    obtain ⟨f, pre, hf, rfl, hpre, hJp, hbw⟩ := hrel
    by_cases hlt : f < n
    · obtain ⟨b1, o1, a1, d1, rfl, he1, hv1⟩ := (HE.out _ hbw.out).vals hlt
      have p1 := he1.key
      have p2 := he1.seq
      have p3 := he1.gone
      have p4 := he1.val
      have hvf := HVL.out f hlt
      have hb2 := below_alloc1 wr (.cells #[.string (bstr (nth es f).key), .int .u64 (nth es f).seq, .bool (nth es f).gone, .slice a1 (nth es f).val.length d1] 30)
      have HV2 := Lib.hid (hv1.below hb2)
      have HX2 := Lib.hid (load_box wr (nth es f) a1 d1)
      have HB2 := Lib.hid hb2
      clear he1 hv1 hb2
      gi_wp2_with fail
      refine ⟨trivial, ?_⟩
      have hap := apart_any (nth es f) a1 d1 _ HV2.out hvf
      unfold ev at hap
      refine (callsIn_wide.2 hap).mono ?_
      clear hap
      rintro e w3 ⟨a3, c3, rfl, ho3, hb3⟩
      have hwb : Below wr.heap.size wr w3 := HB2.out.trans (hb3.mono HB2.out.size)
      have hJ3 : J pre w3 := HJ.out pre wr w3 none hJp.out (grown_of_below hwb) (fun r e => by cases e)
      have hWs := HKS.out _ _ hbw.out
      have hb3S : Kp W w3 := HKT.out _ _ _ hbw.out (HKW.out _ _ hWs hwb)
      have hlen : pre.length < n := by have := congrArg List.length hpre.out; simp at this; omega
      have hox : OtX n₀ es (f, a3, c3) w3 := ⟨by rw [HN.out]; exact hlt, own_mono (ho3 : World.ownsRow _ _ _ _ _ _ _) (Nat.le_trans (Nat.le_trans hn₀ hWs) HB2.out.size)⟩
      obtain ⟨fn, tmps, assign, body, hy, hR⟩ := HY.out pre (f, a3, c3) w3 hJ3 hox hlen
      have HPR : Hid ((pre ++ [((f, a3, c3) : Ot)]).map Prod.fst = List.range (f + 1)) := Lib.hid (by rw [List.map_append, hpre.out, List.range_succ]; rfl)
      have HB3 := Lib.hid hb3S
      have HWB := Lib.hid hwb
      dsimp only [otv] at hy
      clear hJ3 hox ho3 hb3 hwb hb3S p1 p2 p3 p4
      gi_wp2
      refine hR.mono ?_
      rintro e W3 (⟨rfl, hJ4, hk4⟩ | ⟨rfl, hJx4⟩)
      · have HJ4 := Lib.hid hJ4
        have HB4 : Hid (Kp W W3) := Lib.hid (HKT.out _ _ _ HB3.out hk4)
        clear hJ4 hk4
        gi_wp2
        go_roundw
        case rel => exact ⟨f + 1, pre ++ [(f, a3, c3)], by omega, by go_num, HPR, HJ4, HB4⟩
        case measure => simp [intOf]; omega
      · gi_wp2
        refine bodyPost_ret (results_none rfl _ _ _) rfl ?_
        exact ⟨⟨_, rfl⟩, .inr ⟨pre ++ [(f, a3, c3)], by rw [HPR.out, List.length_append]; have h9 := congrArg List.length hpre.out; simp at h9; rw [h9]; simp, hJx4⟩⟩
    · obtain rfl : f = n := by omega
      gi_wp2
      go_end0
      exact ⟨⟨_, rfl⟩, .inl ⟨pre, hpre.out, hJp.out⟩⟩
/-- All below n₀ stays, but for one block. -/
structure KeepB (n₀ Bo : Nat) (A B : World) : Prop where
  os : B.os = A.os
  tape : B.tape = A.tape
  output : B.output = A.output
  size : A.heap.size ≤ B.heap.size
  block : ∀ g, g < n₀ → g ≠ Bo → B.heap[g]? = A.heap[g]?
theorem KeepB.trans {n₀ Bo : Nat} {A B C : World} (h : KeepB n₀ Bo A B) (k : KeepB n₀ Bo B C) : KeepB n₀ Bo A C := ⟨k.os.trans h.os, k.tape.trans h.tape, k.output.trans h.output, Nat.le_trans h.size k.size, fun g hg hn => (k.block g hg hn).trans (h.block g hg hn)⟩
theorem KeepB.of_below {n₀ Bo n : Nat} {A B : World} (h : Below n A B) (hn : n₀ ≤ n) : KeepB n₀ Bo A B := ⟨h.os, h.tape, h.output, h.size, fun g hg _ => h.block g (by omega)⟩
theorem KeepB.set {n₀ Bo : Nat} {A B : World} (h : KeepB n₀ Bo A B) (j : Nat) (v : Value) : KeepB n₀ Bo A (B.setCell ⟨Bo, j, none⟩ v) := ⟨h.os, h.tape, h.output, by rw [World.size_setCell]; exact h.size, fun g hg hn => (Below.heap_setCell _ _ _ _ hn).trans (h.block g hg hn)⟩
theorem KeepB.es {n₀ Bo n c : Nat} {A B : World} {a : Option Addr} {l : List Ent} {t : TypeId} {p : Option Addr} {m k : Nat} (h : Es A a n c l) (hk : KeepB n₀ Bo A B) (hn : A.heap.size ≤ n₀) (hb : Boxed A Bo t (.slice p m k)) (ha : ∀ x, a = some x → x.block ≠ Bo) : Es B a n c l := by
  have hcell : ∀ (q : Addr) (v : Value), q.block ≠ Bo → A.cell? q = some v → B.cell? q = some v := fun q v h1 h2 => (World.cell?_of_block (hk.block q.block (Nat.lt_of_lt_of_le (World.block_lt_of_cell? _ _ h2) hn) h1)).trans h2
  refine ⟨h.1, h.2.1, h.2.2.1, fun i hi => ?_⟩
  obtain ⟨b, off, ai, ci, rfl, h2, h3⟩ := h.2.2.2 i hi
  have hne := ha _ rfl
  refine ⟨b, off, ai, ci, rfl, ⟨hcell _ _ hne h2.key, hcell _ _ hne h2.seq, hcell _ _ hne h2.gone, hcell _ _ hne h2.val⟩, h3.1, h3.2.1, h3.2.2.1, fun j v hj => ?_⟩
  obtain ⟨b', off', e, hc⟩ := h3.2.2.2 j v hj
  refine ⟨b', off', e, hcell _ _ (fun e2 => ?_) hc⟩
  have e3 : b' = Bo := e2
  have h1 : A.heap[b']? = some (.cells #[.slice p m k] t (0, 0)) := by rw [e3]; exact hb
  have hv := List.mem_of_getElem? hj
  unfold vs at hv
  obtain ⟨x, _, rfl⟩ := List.mem_map.1 hv
  simp only [World.cell?, h1] at hc
  have h0 : off' + j = 0 := by
    rcases Nat.eq_zero_or_pos (off' + j) with h0 | h0
    · exact h0
    · simp [Array.getElem?_eq_none (show (#[Value.slice p m k] : Array Value).size ≤ off' + j by simp; omega)] at hc
  rw [h0] at hc
  simp at hc
theorem from2_seq (m Bx Bo : Nat) (a : Option Addr) (n c : Nat) (es : List Ent) (w : World) (hE : Es w a n c es) (hvl : ∀ i, i < n → (nth es i).val.length ≤ 1000000000) (hBx : w.cell? ⟨Bx, 0, none⟩ = some (.slice a n c)) {t : TypeId} {p : Option Addr} {q k : Nat} (hb : Boxed w Bo t (.slice p q k)) (ha : ∀ x, a = some x → x.block ≠ Bo) :
    SeqX m Try.prog 46 #[.pointer (some ⟨Bx, 0, none⟩)] (otv es) (OtX w.heap.size es) (KeepB w.heap.size Bo) (fun xs => xs.map Prod.fst = List.range n) (fun pre => pre.map Prod.fst = List.range pre.length) n w :=
  fun l J Jx W hbW hJ hY h0 => from2_in m l Bx a n c es w.heap.size hE.le hE.1 (KeepB w.heap.size Bo) hvl J Jx W hbW.size (fun V hV => KeepB.es hE ((KeepB.of_below hbW (Nat.le_refl _)).trans hV) (Nat.le_refl _) hb ha) (KeepB.of_below (Below.refl _ _) (Nat.le_refl _)) (fun h k => h.trans k) (fun A B h1 h2 => KeepB.of_below h2 (Nat.le_trans hbW.size h1)) (fun A B h => h.size) hJ hY (cell_later hbW hBx) h0
end Go.Proofs.Ytgcealgkhlbgmaa
