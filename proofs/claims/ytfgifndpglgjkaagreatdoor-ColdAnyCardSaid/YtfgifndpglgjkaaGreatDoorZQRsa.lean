/- rs: all products of an element. -/
import Derived.Test.YtfgifndpglgjkaaGreatDoorZQRgRi
import Derived.Laws.Rows
import Derived.Laws.Tables
import Derived.Laws.ResultCell
import Derived.Deep.WholeRow
set_option linter.unusedVariables false
set_option linter.unusedSimpArgs false
set_option linter.unusedVariables false
set_option linter.unusedSimpArgs false
set_option maxRecDepth 100000
set_option linter.unusedVariables false
namespace Go.Proofs.YtfgifndpglgjkaaGreatDoor
open Go.RowKit Go.Deep

def Rs.prodC (a : UInt8) : Array Value := ((List.range 256).map fun i => .int .u8 (n8 (Gf.mul a (UInt8.ofNat i)))).toArray
theorem prodC_size (a : UInt8) : (Rs.prodC a).size = 256 := by simp [Rs.prodC]
theorem prodC_one (a : UInt8) : (Rs.prodC a).all (·.oneCell') = true := by
  rw [Array.all_eq_true_iff_forall_mem]
  intro v hv
  simp [Rs.prodC] at hv
  obtain ⟨i, _, rfl⟩ := hv
  rfl
theorem prodC_at (a : UInt8) {i : Nat} (hi : i < 256) : (Rs.prodC a)[i]? = some (.int .u8 (n8 (Gf.mul a (UInt8.ofNat i)))) := by
  simp [Rs.prodC, hi]
theorem prodC_of {w : World} {b : Nat} {t : TypeId} {a : UInt8} (h : w.rowIs b t 256 (fun i => .int .u8 (n8 (Gf.mul a (UInt8.ofNat i))))) : w.heap[b]? = some (.cells (Rs.prodC a) t (0, 0)) := by
  obtain ⟨c, h1, h2, h3⟩ := h
  have : c = Rs.prodC a := by
    apply Array.ext (by rw [h2, prodC_size])
    intro i hi hj
    have := h3 i (by omega)
    rw [Array.getElem?_eq_getElem hi] at this
    have k := prodC_at a (i := i) (by omega)
    rw [Array.getElem?_eq_getElem hj] at k
    have e := this.trans k.symm
    simpa using e
  rw [h1, this]
theorem infoArr : (Tryz.prog.info? 168).map (fun i => (i.zero, i.size)) = some (some (.agg (Array.replicate 256 (.int .u8 0))), 256) := by kernel_rfl

section
variable {P : Program} {ops : Array Oper} {rest : List Oper} {o : Oper} {a : Act} {w : World} {Q : Exit → Act → World → Prop}
theorem wpList_store_row' (hgd : o.guard = none) (ty : TypeId) (x y : Operand) (ho : o.op = .store ty x y)
    (g : Nat) (cells : Array Value) (hx : a.eval x = .pointer (some ⟨g, 0, none⟩)) (hy : a.eval y = .agg cells)
    (t : TypeId) (old : Array Value) (hg : w.heap[g]? = some (.cells old t (0, 0))) (hi : (P.info? ty).map (·.size) = some cells.size)
    (hold : old.size = cells.size) (h1 : cells.all (·.oneCell') = true)
    (h : wpList P ops Q rest (a.put o.dst undef) (w.setRow g cells)) : wpList P ops Q (o :: rest) a w :=
  wpList_plain hgd fun _ hK => wp_store_row ty x y ho g cells hx hy t old hg hi hold h1 (hK _ _ h)
end
theorem below_setRow {w0 w : World} {B g : Nat} {c : Array Value} (h : Below B w0 w) (hg : B ≤ g) : Below B w0 (w.setRow g c) :=
  ⟨h.os, h.tape, h.output, by simpa [World.setRow] using h.size, fun k hk => (setRow_other w g k c (by omega)).trans (h.block k hk)⟩

set_option maxHeartbeats 4000000 in
theorem products_any (a : UInt8) (w : World) :
    Calls Tryz.prog 125 #[.int .u8 (n8 a)] w fun e w' => e = .returned (.agg (Rs.prodC a)) ∧ Below w.heap.size w w' := by
  obtain ⟨hz, hi⟩ := zero_of_info infoArr
  go_enter Tryz.func125, Tryz.ntmps125
  go_wp2
  go_loopw [4] (fun i wr => ∃ k : Nat, k ≤ 256 ∧ i = .int .i64 k ∧ Below w.heap.size w wr ∧ wr.rowIs w.heap.size 168 256 (fun j => .int .u8 (if j < k then n8 (Gf.mul a (UInt8.ofNat j)) else 0))) (fun i _ => 256 - (intOf i).toNat)
  case atStart =>
    refine ⟨0, by omega, rfl, below_alloc w _, ?_⟩
    have := World.rowIs_alloc w (Array.replicate 256 (.int .u8 0)) 168 (fun _ => .int .u8 0) (fun i hi => by simp at hi; simp [hi])
    simpa using this
  case round =>
    obtain ⟨k, hk, rfl, hb, hr⟩ := hrel
    by_cases hlt : k < 256
    · have t0 : decide ((k : Int) < 256) = true := decide_eq_true (by omega)
      have c1 := hr.cell hlt
      have c2 := hr.frozen k
      have E8 : Hid (Value.int .u8 (k : Int) = .int .u8 (n8 (UInt8.ofNat k))) := Lib.hid (by rw [← to8 k]; congr 1; omega)
      have HR := Lib.hid hr
      have HB := Lib.hid hb
      have hsz : w.heap.size < wr.heap.size := hr.lt
      have hst := Lib.hid (hr.set k (.int .u8 (n8 (Gf.mul a (UInt8.ofNat k)))))
      have hb2 : Hid (Below w.heap.size w (wr.setCell ⟨w.heap.size, k, none⟩ (.int .u8 (n8 (Gf.mul a (UInt8.ofNat k)))))) := Lib.hid (hb.setCell (Nat.le_refl _) _)
      clear hr hb
      go_wp2_with (go_at_call 115; rw [E8.out]; refine (mul_any _ _ _).mono ?_; rintro e w' ⟨rfl, rfl⟩)
      go_roundw
      case rel =>
        refine ⟨k + 1, by omega, by go_num, hb2.out, hst.out.congr (fun j hj => ?_)⟩
        by_cases e : j = k
        · subst e; simp
        · simp only [if_neg e]
          congr 1
          by_cases e2 : j < k
          · rw [if_pos e2, if_pos (by omega)]
          · rw [if_neg e2, if_neg (by omega)]
      case measure => simp [intOf]; omega
    · obtain rfl : k = 256 := by omega
      have hc := Lib.hid (prodC_of (a := a) (hr.congr (fun j hj => by rw [if_pos hj])))
      have HB := Lib.hid hb
      clear hr hb
      have hs : (Tryz.prog.info? 168).map (·.size) = some (Rs.prodC a).size := by rw [prodC_size]; exact hi
      have ho := Lib.hid (prodC_one a)
      go_wp2_with (first | (refine wpList_load_row rfl 168 _ rfl w.heap.size rfl 168 _ (0, 0) _ hc.out Tryz.underlying168 rfl hs ?_) | (refine wpList_store_row' rfl 168 _ _ rfl w.heap.size (Rs.prodC a) rfl rfl 168 _ hc.out hs rfl ho.out ?_))
      refine bodyPost_ret (v := .agg (Rs.prodC a)) ?_ rfl ⟨rfl, below_setRow HB.out (Nat.le_refl _)⟩
      exact results_cell_row rfl _ _ w.heap.size 168 (Rs.prodC a) (0, 0) _ rfl (setRow_heap _ _ _ _ _ _ hc.out) Tryz.underlying168 rfl hs
end Go.Proofs.YtfgifndpglgjkaaGreatDoor

/- rs: a matrix times shards. -/
set_option maxRecDepth 100000
set_option linter.unusedVariables false
namespace Go.Proofs.YtfgifndpglgjkaaGreatDoor
open Go.RowKit Go.Deep

/-- The term of shard i at row r, byte c. -/
def Rs.term (lm ls : List (List UInt8)) (r c i : Nat) : UInt8 := Gf.mul (at2 lm r i) (at2 ls i c)
def Rs.tm (lm ls : List (List UInt8)) (n : Nat) (r c : Nat) : UInt8 := Gf.sm n (Rs.term lm ls r c)
/-- Row j after i shards; those ahead of it are done. -/
def Rs.tmp (lm ls : List (List UInt8)) (n j i r c : Nat) : UInt8 := Gf.sm (if r = j then i else n) (Rs.term lm ls r c)
/-- Row j: the bytes below x have shard i too. -/
def Rs.tmq (lm ls : List (List UInt8)) (n j i x r c : Nat) : UInt8 := if r = j ∧ c < x then Gf.sm (i + 1) (Rs.term lm ls r c) else Rs.tmp lm ls n j i r c
theorem tmq_zero (lm ls : List (List UInt8)) (n j i r c : Nat) : Rs.tmq lm ls n j i 0 r c = Rs.tmp lm ls n j i r c := by simp [Rs.tmq]
theorem tmq_all {lm ls : List (List UInt8)} {n j i L r c : Nat} (hc : c < L) : Rs.tmq lm ls n j i L r c = Rs.tmp lm ls n j (i + 1) r c := by
  unfold Rs.tmq Rs.tmp
  by_cases e : r = j <;> simp [e, hc]
theorem tmq_step (lm ls : List (List UInt8)) (n j i x r c : Nat) : (if r = j ∧ c = x then Rs.tmq lm ls n j i x j x ^^^ Gf.mul (at2 lm j i) (at2 ls i x) else Rs.tmq lm ls n j i x r c) = Rs.tmq lm ls n j i (x + 1) r c := by
  unfold Rs.tmq Rs.tmp
  by_cases e : r = j
  · subst e
    by_cases e2 : c = x
    · subst e2
      simp [Gf.sm, Rs.term]
    · by_cases e3 : c < x
      · simp [e2, e3, show c < x + 1 by omega]
      · simp [e2, e3, show ¬ c < x + 1 by omega]
  · simp [e]
theorem tmp_full {lm ls : List (List UInt8)} {n j r c : Nat} (h : r < j + 1) : Rs.tmp lm ls n j n r c = Rs.tm lm ls n r c := by simp [Rs.tmp, Rs.tm]
theorem tmp_row {lm ls : List (List UInt8)} {n j r c : Nat} (h : r < j) : Rs.tmp lm ls n j 0 r c = Rs.tm lm ls n r c := by simp [Rs.tmp, Rs.tm, show r ≠ j by omega]
theorem tmp_zero (lm ls : List (List UInt8)) (n j c : Nat) : Rs.tmp lm ls n j 0 j c = 0 := by simp [Rs.tmp, Gf.sm]

structure Tm (w wr : World) (R C j : Nat) (bl : Nat → Nat) (Z : Nat → Nat → UInt8) : Prop where
  out : Below w.heap.size w wr
  top : rowTo wr w.heap.size 25 R (fun i => if i < j then .slice (some ⟨bl i, 0, none⟩) C C else .slice none 0 0)
  row : ∀ i, i < j → w.heap.size < bl i ∧ rowTo wr (bl i) 5 C (fun c => .int .u8 (n8 (Z i c)))
  apart : ∀ i k, i < j → k < j → bl i = bl k → i = k
namespace Tm
variable {w wr w2 : World} {R C j : Nat} {bl : Nat → Nat} {Z Y : Nat → Nat → UInt8}
theorem start (w : World) (R C : Nat) (Z : Nat → Nat → UInt8) : Tm w (w.alloc (.cells (madeCells #[.slice none 0 0] R) 25)) R C 0 id Z :=
  ⟨below_alloc w _, (rowTo.of_is (World.rowIs_made w _ R _)).congr (fun i _ => by simp), fun i hi => by omega, fun i k hi => by omega⟩
theorem later (h : Tm w wr R C j bl Z) (k : Below wr.heap.size wr w2) : Tm w w2 R C j bl Z :=
  ⟨h.out.trans (k.mono h.out.size), h.top.below k, fun i hi => ⟨(h.row i hi).1, (h.row i hi).2.below k⟩, h.apart⟩
theorem congr (h : Tm w wr R C j bl Z) (e : ∀ r c, r < j → c < C → Z r c = Y r c) : Tm w wr R C j bl Y :=
  ⟨h.out, h.top, fun i hi => ⟨(h.row i hi).1, (h.row i hi).2.congr fun c hc => by rw [e i c hi hc]⟩, h.apart⟩
theorem set (h : Tm w wr R C j bl Z) {i : Nat} (hi : i < j) (c : Nat) (v : UInt8) : Tm w (wr.setCell ⟨bl i, c, none⟩ (.int .u8 (n8 v))) R C j bl (fun r x => if r = i ∧ x = c then v else Z r x) := by
  refine ⟨h.out.setCell (Nat.le_of_lt (h.row i hi).1) _, h.top.setOther (by have := (h.row i hi).1; show w.heap.size ≠ bl i; omega) _, fun r hr => ⟨(h.row r hr).1, ?_⟩, h.apart⟩
  by_cases e : r = i
  · subst e
    refine ((h.row r hr).2.set c _).congr fun x hx => ?_
    by_cases ec : x = c <;> simp [ec]
  · refine ((h.row r hr).2.setOther (fun e' => e (h.apart r i hr hi e')) _).congr fun x hx => ?_
    simp [e]
theorem add (h : Tm w wr R C j bl Z) (hj : j < R) (hz : ∀ c, c < C → Z j c = 0) :
    Tm w ((wr.setCell ⟨w.heap.size, j, none⟩ (.slice (some ⟨wr.heap.size, 0, none⟩) C C)).alloc (.cells (madeCells #[.int .u8 0] C) 5)) R C (j + 1) (fun i => if i = j then wr.heap.size else bl i) Z := by
  have hlt := h.top.lt
  have hsz : (wr.setCell ⟨w.heap.size, j, none⟩ (.slice (some ⟨wr.heap.size, 0, none⟩) C C)).heap.size = wr.heap.size := by simp
  have hnew := rowTo.of_is (World.rowIs_made (wr.setCell ⟨w.heap.size, j, none⟩ (.slice (some ⟨wr.heap.size, 0, none⟩) C C)) (.int .u8 0) C 5)
  rw [hsz] at hnew
  refine ⟨(h.out.setCell (Nat.le_refl _) _).alloc (by rw [hsz]; exact h.out.size) _, ((h.top.set j _).alloc _).congr fun i hi => ?_, fun i hi => ?_, fun i k hi hk e => ?_⟩
  · by_cases e : i = j
    · subst e; simp
    · by_cases e2 : i < j
      · simp [e, e2, show i < j + 1 by omega]
      · simp [e, e2, show ¬ i < j + 1 by omega]
  · by_cases e : i = j
    · subst e
      simp only [if_true]
      refine ⟨hlt, hnew.congr fun c hc => by rw [hz c hc]; rfl⟩
    · simp only [if_neg e]
      have := h.row i (by omega)
      exact ⟨this.1, (this.2.setOther (by show bl i ≠ w.heap.size; omega) _).alloc _⟩
  · by_cases e1 : i = j <;> by_cases e2 : k = j <;> simp only [e1, e2, if_true, if_false] at e
    · omega
    · have := (h.row k (by omega)).2.lt; omega
    · have := (h.row i (by omega)).2.lt; omega
    · exact h.apart i k (by omega) (by omega) e
theorem mx (h : Tm w wr R C R bl Z) : Mx wr w.heap.size w.heap.size R C bl Z :=
  ⟨Nat.le_refl _, h.top.congr (fun i hi => by rw [if_pos hi]), fun i hi => ⟨Nat.le_of_lt (h.row i hi).1, by have := (h.row i hi).1; omega, (h.row i hi).2⟩, h.apart⟩
end Tm
/-- A product's cell in the variable that holds all products. -/
theorem prodC_cell {w : World} {b : Nat} {t : TypeId} {a : UInt8} (h : w.heap[b]? = some (.cells (Rs.prodC a) t (0, 0))) (x : UInt8) : w.cell? ⟨b, x.toNat, none⟩ = some (.int .u8 (n8 (Gf.mul a x))) := by
  have := prodC_at a (i := x.toNat) x.toNat_lt
  simp [World.cell?, h, this]

set_option maxHeartbeats 8000000 in
theorem times_any' (am : Option Addr) (nm cm : Nat) (lm : List (List UInt8)) (aq : Option Addr) (ns cs : Nat) (ls : List (List UInt8)) (L : Nat) (w : World) (hm : Bss w am nm cm lm) (hs : Bss w aq ns cs ls)
    (hn : 0 < ns) (hL : ∀ i, i < ns → (nth ls i).length = L) (hw : ∀ j, j < nm → ns ≤ (nth lm j).length) (hb1 : nm ≤ 256) (hb2 : L ≤ 100000000) (hb3 : ns ≤ 256) :
    Calls Tryz.prog 106 #[.slice am nm cm, .slice aq ns cs] w fun e w' => (∃ g bl, e = .returned (.slice (some ⟨g, 0, none⟩) nm nm) ∧ Mx w' w.heap.size g nm L bl (Rs.tm lm ls ns)) ∧ Below w.heap.size w w' := by
  have hmk := run_make_row' (P := Tryz.prog) 53 25 (.slice none 0 0) 24 Tryz.underlying53 infoBs rfl .i64 .i64 nm (by omega) (by omega)
  have hmk2 := run_make_row' (P := Tryz.prog) 25 5 (.int .u8 0) 1 Tryz.underlying25 info8 rfl .i64 .i64 L (by omega) (by omega)
  have HMK2 := Lib.hid hmk2
  have HM : Hid (∀ W, Below w.heap.size w W → Bss W am nm cm lm) := Lib.hid fun W h => hm.below h
  have HS : Hid (∀ W, Below w.heap.size w W → Bss W aq ns cs ls) := Lib.hid fun W h => hs.below h
  have HL := Lib.hid hL
  have HW := Lib.hid hw
  clear hm hs hL hw hmk2
  go_enter Tryz.func106, Tryz.ntmps106
  go_wp2
  clear hmk
  have H0 := Lib.hid (Tm.start w nm L (Rs.tm lm ls ns))
  go_loopw [18] (fun i wr => ∃ (j : Nat) (bl : Nat → Nat), j ≤ nm ∧ i = .int .i64 j ∧ Tm w wr nm L j bl (Rs.tm lm ls ns)) (fun i _ => nm - (intOf i).toNat)
  case atStart => exact ⟨0, _, Nat.zero_le _, rfl, H0.out⟩
  case round =>
    clear H0
    obtain ⟨j, bl, hj, rfl, ht⟩ := hrel
    by_cases hlt : j < nm
    · obtain ⟨bm, om, aj, nj, cj, rfl, dj, hmj⟩ := (HM.out w (Below.refl _ _)).get hlt
      replace dj := cell_later ht.out dj
      obtain ⟨bs, os0, a0, n0, c0, rfl, d0, hs0⟩ := (HS.out wr ht.out).get hn
      obtain rfl : n0 = L := by rw [← hs0.1]; exact HL.out 0 hn
      have hnj : ns ≤ nj := by rw [← hmj.1]; exact HW.out j hlt
      rw [Nat.add_zero] at d0
      have d0' : ∀ o, (wr.alloc o).cell? ⟨bs, os0, none⟩ = some (.slice a0 n0 c0) := fun o => cell_later (below_alloc wr o) d0
      have hsz := ht.top.lt
      have g1 : ∀ o, (wr.alloc o).cell? ⟨w.heap.size, j, none⟩ = some (.slice none 0 0) := fun o => by have := (ht.top.alloc o).cell hlt; simpa using this
      have g2 : ∀ o, (wr.alloc o).frozen? ⟨w.heap.size, j, none⟩ = false := fun o => (ht.top.alloc o).frozen j
      have hadd := Lib.hid (ht.congr (Y := Rs.tmp lm ls ns j 0) (fun r c hr _ => (tmp_row hr).symm) |>.add hlt (fun c _ => tmp_zero _ _ _ _ _))
      have HMJ : Hid (∀ W, Below w.heap.size w W → Bs W aj nj cj (nth lm j)) := Lib.hid fun W h => hmj.below h
      have hmk2 := HMK2.out
      have HT := Lib.hid ht
      clear hmj hs0 ht
      go_wp2
      clear g1 g2 d0 d0' dj hmk2
      go_loopw [33] (fun i wi => ∃ (q : Nat) (bl : Nat → Nat), q ≤ ns ∧ i = .int .i64 q ∧ Tm w wi nm n0 (j + 1) bl (Rs.tmp lm ls ns j q)) (fun i _ => ns - (intOf i).toNat)
      case atStart => exact ⟨0, _, Nat.zero_le _, rfl, hadd.out⟩
      case round =>
        clear hadd HT
        obtain ⟨q, bl, hq, rfl, ht⟩ := hrel
        by_cases hlq : q < ns
        · obtain ⟨bs', os', aq, nq, cq, hbs, dq, hsq⟩ := (HS.out w (Below.refl _ _)).get hlq
          cases hbs
          replace dq := cell_later ht.out dq
          have HAP : Hid (∀ i, i < j + 1 → bl i < wr.heap.size) := Lib.hid fun i hi => (ht.row i hi).2.lt
          obtain rfl : nq = n0 := by rw [← hsq.1]; exact HL.out q hlq
          have hqj : q < nj := by omega
          obtain ⟨ba, oa, rfl, da⟩ := (HMJ.out wr ht.out).byte hqj
          have HT := Lib.hid ht
          have HSQ : Hid (∀ W, Below w.heap.size w W → Bs W aq nq cq (nth ls q)) := Lib.hid fun W h => hsq.below h
          clear ht hsq
          generalize hel : nth (nth lm j) q = x at *
          have HEL := Lib.hid hel
          clear hel
          obtain ⟨hz, hi⟩ := zero_of_info infoArr
          have hs' : (Tryz.prog.info? 168).map (·.size) = some (Rs.prodC x).size := by rw [prodC_size]; exact hi
          have hsc : Hid (∀ w3 : World, _) := Lib.hid (fun w3 => run_storeCells_new (P := Tryz.prog) w3 168 Tryz.zeroCells168 (Rs.prodC x) hs' (by rw [prodC_size]; kernel_rfl) (prodC_one x))
          clear hs' hz hi
          go_wp2_with (go_at_call 125; refine (products_any _ _).mono ?_; rintro e w3 ⟨rfl, hb3⟩)
          simp only [hsc.out, Result.andThen]
          rw [Oper.upon_skip]
          have hT4 := Lib.hid ((HT.out.later hb3).later (below_alloc w3 (.cells (Rs.prodC x) 168)))
          have hP4 := Lib.hid (heap_alloc_last w3 (.cells (Rs.prodC x) 168))
          have HAP4 : Hid (∀ i, i < j + 1 → bl i < w3.heap.size) := Lib.hid fun i hi => Nat.lt_of_lt_of_le (HAP.out i hi) hb3.size
          have hsz3 : w.heap.size < w3.heap.size := Nat.lt_of_lt_of_le HT.out.top.lt hb3.size
          clear hb3 hsc HT dq da HAP
          generalize w3.alloc (.cells (Rs.prodC x) 168) = w4 at *
          generalize w3.heap.size = b3 at *
          go_wp2
          have hxat : Hid (at2 lm j q = x) := Lib.hid HEL.out
          go_loopw [45] (fun i wi => ∃ c : Nat, c ≤ nq ∧ i = .int .i64 c ∧ wi.heap[b3]? = some (.cells (Rs.prodC x) 168 (0, 0)) ∧ Tm w wi nm nq (j + 1) bl (Rs.tmq lm ls ns j q c)) (fun i _ => nq - (intOf i).toNat)
          case atStart => exact ⟨0, Nat.zero_le _, rfl, hP4.out, hT4.out.congr (fun r c _ _ => (tmq_zero _ _ _ _ _ _ _).symm)⟩
          case round =>
            clear hT4 hP4
            obtain ⟨c, hc, rfl, hp, ht⟩ := hrel
            by_cases hlc : c < nq
            · obtain ⟨bq, oq, rfl, dc⟩ := (HSQ.out wr ht.out).byte hlc
              have hjj : j < j + 1 := by omega
              have c1 := ht.top.cell hlt
              rw [if_pos hjj] at c1
              have c2 := (ht.row j hjj).2.cell hlc
              have c3 := (ht.row j hjj).2.frozen c
              have hyat : Hid (at2 ls q c = nth (nth ls q) c) := Lib.hid rfl
              generalize nth (nth ls q) c = y at *
              have c4 := prodC_cell hp y
              have hy256 := y.toNat_lt
              have HST := Lib.hid (ht.set hjj c (Rs.tmq lm ls ns j q c j c ^^^ Gf.mul x y))
              have HP2 : Hid ((wr.setCell ⟨bl j, c, none⟩ (.int .u8 (n8 (Rs.tmq lm ls ns j q c j c ^^^ Gf.mul x y)))).heap[b3]? = some (.cells (Rs.prodC x) 168 (0, 0))) :=
                Lib.hid ((Below.heap_setCell _ _ _ _ (by have := HAP4.out j hjj; show b3 ≠ bl j; omega)).trans hp)
              have HQ : Hid (∀ r e, (if r = j ∧ e = c then Rs.tmq lm ls ns j q c j c ^^^ Gf.mul x y else Rs.tmq lm ls ns j q c r e) = Rs.tmq lm ls ns j q (c + 1) r e) :=
                Lib.hid fun r e => by rw [← tmq_step, hxat.out, hyat.out]
              generalize Rs.tmq lm ls ns j q c j c = z at *
              have e5 : (n8 y).toNat = y.toNat := by simp [n8]
              have hn1 : 0 ≤ n8 y := (n8_bd y).1
              have hn2 : n8 y < 256 := (n8_bd y).2
              rw [← e5] at c4
              clear hp ht e5
              go_wp2_with fail
              go_still_tail 12, (by kernel_rfl)
              go_wp2
              go_roundw
              case rel => exact ⟨c + 1, by omega, by go_num, HP2.out, (HST.out.congr (fun r e _ _ => HQ.out r e)).later (Below.refl _ _).drew⟩
              case measure => simp [intOf]; omega
            · obtain rfl : c = nq := by omega
              have HT := Lib.hid ht
              clear ht hp
              go_wp2
              go_roundw
              case rel => exact ⟨q + 1, bl, by omega, by go_num, HT.out.congr (fun r c _ hc => tmq_all hc)⟩
              case measure => simp [intOf]; omega
        · obtain rfl : q = ns := by omega
          have HT := Lib.hid ht
          clear ht
          go_wp2
          go_roundw
          case rel => exact ⟨j + 1, bl, by omega, by go_num, HT.out.congr (fun r c hr _ => tmp_full hr)⟩
          case measure => simp [intOf]; omega
    · obtain rfl : j = nm := by omega
      have HX := Lib.hid ht.mx
      have HB := Lib.hid ht.out
      clear ht
      go_wp2
      go_ret
      exact ⟨⟨_, _, rfl, HX.out⟩, HB.out⟩
end Go.Proofs.YtfgifndpglgjkaaGreatDoor
