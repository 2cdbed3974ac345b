/- rs: all products of an element. -/
import Derived.Test.YtppgbapfmijboaaRgIn
import Derived.Laws.Rows
import Derived.Laws.Tables
import Derived.Laws.ResultCell
import Derived.Deep.WholeRow
set_option maxRecDepth 100000
set_option linter.unusedVariables false
namespace Go.Proofs.Ytppgbapfmijboaa
open Go.RowKit Go.Deep

def Rs.prodC (a : UInt8) : Array Value := ((List.range 256).map fun i => .int .u8 (n8 (Gf.mul a (UInt8.ofNat i)))).toArray
theorem prodC_size (a : UInt8) : (Rs.prodC a).size = 256 := by simp [Rs.prodC]
theorem prodC_one (a : UInt8) : (Rs.prodC a).all (·.oneCell') = true := by
  rw [Array.all_eq_true_iff_forall_mem]
  intro v hv
  simp [Rs.prodC] at hv
  obtain ⟨i, _, rfl⟩ := hv
  rfl
theorem prodC_at (a : UInt8) {i : Nat} (hi : i < 256) : (Rs.prodC a)[i]? = some (.int .u8 (n8 (Gf.mul a (UInt8.ofNat i)))) := by
  simp [Rs.prodC, hi]
theorem prodC_of {w : World} {b : Nat} {t : TypeId} {a : UInt8} (h : w.rowIs b t 256 (fun i => .int .u8 (n8 (Gf.mul a (UInt8.ofNat i))))) : w.heap[b]? = some (.cells (Rs.prodC a) t (0, 0)) := by
  obtain ⟨c, h1, h2, h3⟩ := h
  have : c = Rs.prodC a := by
    apply Array.ext (by rw [h2, prodC_size])
    intro i hi hj
    have := h3 i (by omega)
    rw [Array.getElem?_eq_getElem hi] at this
    have k := prodC_at a (i := i) (by omega)
    rw [Array.getElem?_eq_getElem hj] at k
    have e := this.trans k.symm
    simpa using e
  rw [h1, this]
theorem infoArr : (Try.prog.info? 88).map (fun i => (i.zero, i.size)) = some (some (.agg (Array.replicate 256 (.int .u8 0))), 256) := by kernel_rfl

section
variable {P : Program} {ops : Array Oper} {rest : List Oper} {o : Oper} {a : Act} {w : World} {Q : Exit → Act → World → Prop}
theorem wpList_store_row' (hgd : o.guard = none) (ty : TypeId) (x y : Operand) (ho : o.op = .store ty x y)
    (g : Nat) (cells : Array Value) (hx : a.eval x = .pointer (some ⟨g, 0, none⟩)) (hy : a.eval y = .agg cells)
    (t : TypeId) (old : Array Value) (hg : w.heap[g]? = some (.cells old t (0, 0))) (hi : (P.info? ty).map (·.size) = some cells.size)
    (hold : old.size = cells.size) (h1 : cells.all (·.oneCell') = true)
    (h : wpList P ops Q rest (a.put o.dst undef) (w.setRow g cells)) : wpList P ops Q (o :: rest) a w :=
  wpList_plain hgd fun _ hK => wp_store_row ty x y ho g cells hx hy t old hg hi hold h1 (hK _ _ h)
end
theorem below_setRow {w0 w : World} {B g : Nat} {c : Array Value} (h : Below B w0 w) (hg : B ≤ g) : Below B w0 (w.setRow g c) :=
  ⟨h.os, h.tape, h.output, by simpa [World.setRow] using h.size, fun k hk => (setRow_other w g k c (by omega)).trans (h.block k hk)⟩

set_option maxHeartbeats 4000000 in
theorem products_any (a : UInt8) (w : World) :
    Calls Try.prog 57 #[.int .u8 (n8 a)] w fun e w' => e = .returned (.agg (Rs.prodC a)) ∧ Below w.heap.size w w' := by
  obtain ⟨hz, hi⟩ := zero_of_info infoArr
  go_enter Try.func57, Try.ntmps57
  go_wp2
  go_loopw [4] (fun i wr => ∃ k : Nat, k ≤ 256 ∧ i = .int .i64 k ∧ Below w.heap.size w wr ∧ wr.rowIs w.heap.size 88 256 (fun j => .int .u8 (if j < k then n8 (Gf.mul a (UInt8.ofNat j)) else 0))) (fun i _ => 256 - (intOf i).toNat)
  case atStart =>
    refine ⟨0, by omega, rfl, below_alloc w _, ?_⟩
    have := World.rowIs_alloc w (Array.replicate 256 (.int .u8 0)) 88 (fun _ => .int .u8 0) (fun i hi => by simp at hi; simp [hi])
    simpa using this
  case round =>
    obtain ⟨k, hk, rfl, hb, hr⟩ := hrel
    by_cases hlt : k < 256
    · have t0 : decide ((k : Int) < 256) = true := decide_eq_true (by omega)
      have c1 := hr.cell hlt
      have c2 := hr.frozen k
      have E8 : Hid (Value.int .u8 (k : Int) = .int .u8 (n8 (UInt8.ofNat k))) := Lib.hid (by rw [← to8 k]; congr 1; omega)
      have HR := Lib.hid hr
      have HB := Lib.hid hb
      have hsz : w.heap.size < wr.heap.size := hr.lt
      have hst := Lib.hid (hr.set k (.int .u8 (n8 (Gf.mul a (UInt8.ofNat k)))))
      have hb2 : Hid (Below w.heap.size w (wr.setCell ⟨w.heap.size, k, none⟩ (.int .u8 (n8 (Gf.mul a (UInt8.ofNat k)))))) := Lib.hid (hb.setCell (Nat.le_refl _) _)
      clear hr hb
      go_wp2_with (go_at_call 61; rw [E8.out]; refine (mul_any _ _ _).mono ?_; rintro e w' ⟨rfl, rfl⟩)
      go_roundw
      case rel =>
        refine ⟨k + 1, by omega, by go_num, hb2.out, hst.out.congr (fun j hj => ?_)⟩
        by_cases e : j = k
        · subst e; simp
        · simp only [if_neg e]
          congr 1
          by_cases e2 : j < k
          · rw [if_pos e2, if_pos (by omega)]
          · rw [if_neg e2, if_neg (by omega)]
      case measure => simp [intOf]; omega
    · obtain rfl : k = 256 := by omega
      have hc := Lib.hid (prodC_of (a := a) (hr.congr (fun j hj => by rw [if_pos hj])))
      have HB := Lib.hid hb
      clear hr hb
      have hs : (Try.prog.info? 88).map (·.size) = some (Rs.prodC a).size := by rw [prodC_size]; exact hi
      have ho := Lib.hid (prodC_one a)
      go_wp2_with (first | (refine wpList_load_row rfl 88 _ rfl w.heap.size rfl 88 _ (0, 0) _ hc.out Try.underlying88 rfl hs ?_) | (refine wpList_store_row' rfl 88 _ _ rfl w.heap.size (Rs.prodC a) rfl rfl 88 _ hc.out hs rfl ho.out ?_))
      refine bodyPost_ret (v := .agg (Rs.prodC a)) ?_ rfl ⟨rfl, below_setRow HB.out (Nat.le_refl _)⟩
      exact results_cell_row rfl _ _ w.heap.size 88 (Rs.prodC a) (0, 0) _ rfl (setRow_heap _ _ _ _ _ _ hc.out) Try.underlying88 rfl hs
end Go.Proofs.Ytppgbapfmijboaa
