/- gf.made: a matrix, element by element, by whatever function. -/
import Derived.Test.YtppgbapfmijboaaRgB
import Derived.Test.YtppgbapfmijboaaMx
import Derived.Shelf.Abstract
import Derived.Lib.LazyBuf
import Derived.BigQuiet
import Derived.Deep.QuietTactic
import Derived.Deep.RegionWith
namespace Go.Proofs.Ytppgbapfmijboaa
open Go.RowKit Go.Deep

/-- The outer row when k rows are made. -/
def topK (N C k : Nat) : Nat → Value := fun i => if i < k then .slice (some ⟨N + 1 + i, 0, none⟩) C C else .slice none 0 0
structure MadeO (w wr : World) (R C k : Nat) (Z : Nat → Nat → UInt8) : Prop where
  below : Below w.heap.size w wr
  size : wr.heap.size = w.heap.size + 1 + k
  top : wr.rowIs w.heap.size 22 R (topK w.heap.size C k)
  done : ∀ i, i < k → wr.rowIs (w.heap.size + 1 + i) 5 C (fun j => .int .u8 (n8 (Z i j)))
structure MadeI (w wi : World) (R C k c : Nat) (Z : Nat → Nat → UInt8) : Prop where
  below : Below w.heap.size w wi
  size : wi.heap.size = w.heap.size + 1 + k + 1
  top : wi.rowIs w.heap.size 22 R (topK w.heap.size C (k + 1))
  done : ∀ i, i < k → wi.rowIs (w.heap.size + 1 + i) 5 C (fun j => .int .u8 (n8 (Z i j)))
  cur : wi.rowIs (w.heap.size + 1 + k) 5 C (fun j => if j < c then .int .u8 (n8 (Z k j)) else .int .u8 0)
theorem madeO_start (w : World) (R C : Nat) (Z : Nat → Nat → UInt8) : MadeO w (w.alloc (.cells (madeCells #[.slice none 0 0] R) 22)) R C 0 Z :=
  ⟨(Below.refl _ _).alloc (Nat.le_refl _) _, by simp, (World.rowIs_made w _ R _).congr (fun j _ => by simp [topK]), fun j hj => absurd hj (Nat.not_lt_zero _)⟩
theorem madeI_start {w wr : World} {R C k : Nat} {Z : Nat → Nat → UInt8} (h : MadeO w wr R C k Z) :
    MadeI w ((wr.alloc (.cells (madeCells #[.int .u8 0] C) 5)).setCell ⟨w.heap.size, k, none⟩ (.slice (some ⟨w.heap.size + 1 + k, 0, none⟩) C C)) R C k 0 Z := by
  have hnew := World.rowIs_made wr (.int .u8 0) C 5
  rw [h.size] at hnew
  refine ⟨(h.below.alloc (by rw [h.size]; omega) _).setCell (Nat.le_refl _) _, by simp [h.size], ((h.top.alloc _).set k _).congr (fun j _ => ?_), fun j hj => ((h.done j hj).alloc _).setOther (by show w.heap.size + 1 + j ≠ w.heap.size; omega) _,
    (hnew.setOther (by show w.heap.size + 1 + k ≠ w.heap.size; omega) _).congr (fun i _ => by simp)⟩
  simp only [topK]
  by_cases e : j = k
  · subst e; simp
  · rw [if_neg e]
    by_cases hlt : j < k
    · rw [if_pos hlt, if_pos (by omega)]
    · rw [if_neg hlt, if_neg (by omega)]
theorem MadeI.drewN {w wi : World} {R C k c : Nat} {Z : Nat → Nat → UInt8} (h : MadeI w wi R C k c Z) (q : Nat) : MadeI w (wi.drewN q) R C k c Z :=
  ⟨below_drewN h.below q, h.size, h.top, h.done, h.cur⟩
theorem MadeI.drew {w wi : World} {R C k c : Nat} {Z : Nat → Nat → UInt8} (h : MadeI w wi R C k c Z) : MadeI w wi.drew R C k c Z :=
  ⟨h.below.drew, h.size, h.top, h.done, h.cur⟩
theorem madeI_step {w wi : World} {R C k c : Nat} {Z : Nat → Nat → UInt8} (h : MadeI w wi R C k c Z) :
    MadeI w (wi.setCell ⟨w.heap.size + 1 + k, c, none⟩ (.int .u8 (n8 (Z k c)))) R C k (c + 1) Z := by
  refine ⟨h.below.setCell (by show w.heap.size ≤ w.heap.size + 1 + k; omega) _, by simp [h.size], h.top.setOther (by show w.heap.size ≠ w.heap.size + 1 + k; omega) _,
    fun j hj => (h.done j hj).setOther (by show w.heap.size + 1 + j ≠ w.heap.size + 1 + k; omega) _, (h.cur.set c _).congr (fun i _ => ?_)⟩
  by_cases e : i = c
  · subst e; simp
  · rw [if_neg e]
    by_cases hlt : i < c
    · rw [if_pos hlt, if_pos (by omega)]
    · rw [if_neg hlt, if_neg (by omega)]
theorem madeI_done {w wi : World} {R C k : Nat} {Z : Nat → Nat → UInt8} (h : MadeI w wi R C k C Z) : MadeO w wi R C (k + 1) Z :=
  ⟨h.below, by rw [h.size]; omega, h.top, fun j hj => by
    by_cases e : j = k
    · subst e
      exact h.cur.congr (fun i hi => by rw [if_pos hi])
    · exact h.done j (by omega)⟩
theorem madeO_mx {w wr : World} {R C : Nat} {Z : Nat → Nat → UInt8} (h : MadeO w wr R C R Z) : Mx wr w.heap.size w.heap.size R C (fun i => w.heap.size + 1 + i) Z :=
  ⟨Nat.le_refl _, (rowTo.of_is h.top).congr (fun i hi => by simp [topK, hi]), fun i hi => ⟨by omega, by omega, rowTo.of_is (h.done i hi)⟩, fun i j _ _ e => by omega⟩

/-- What is asked of the function that tells the elements. -/
def Elem (w : World) (f : Nat) (cap : Array Value) (R C : Nat) (Z : Nat → Nat → UInt8) : Prop :=
  ∀ (W : World) (i j : Nat), Below w.heap.size w W → i < R → j < C → Calls Try.prog f (#[.int .i64 i, .int .i64 j] ++ cap) W fun e w' => e = .returned (.int .u8 (n8 (Z i j))) ∧ ∃ q, w' = W.drewN q

set_option maxHeartbeats 4000000 in
theorem made_any (f : Nat) (cap : Array Value) (R C : Nat) (Z : Nat → Nat → UInt8) (w : World) (eg : Enters Try.prog f) (hR : R ≤ 256) (hC : C ≤ 256) (hel : Elem w f cap R C Z) :
    Calls Try.prog 46 #[.int .i64 R, .int .i64 C, .func (.func f) #[] cap] w fun e w' =>
      e = .returned (.slice (some ⟨w.heap.size, 0, none⟩) R R) ∧ Mx w' w.heap.size w.heap.size R C (fun i => w.heap.size + 1 + i) Z ∧ Below w.heap.size w w' := by
  have hmk1 := run_make_row' (P := Try.prog) 55 22 (.slice none 0 0) 24 Try.underlying55 infoBs rfl .i64 .i64 R (by omega) (by omega)
  have eg' : ∀ (args : Array Value) (w : World), (callFunc f args).run Try.prog w = .ok (.enter f args) w := eg
  have HR := Lib.hid hR
  have HC := Lib.hid hC
  clear hR hC
  go_enter Try.func46, Try.ntmps46
  go_wp2
  clear hmk1
  go_loopw [14] (fun i wr => ∃ k : Nat, k ≤ R ∧ i = .int .i64 k ∧ MadeO w wr R C k Z) (fun i _ => R - (intOf i).toNat)
  case atStart => exact ⟨0, Nat.zero_le _, rfl, madeO_start w R C Z⟩
  case round =>
    obtain ⟨k, hk, rfl, hO⟩ := hrel
    by_cases hlt : k < R
    · have hsize := hO.size
      have hmk2 := run_make_row' (P := Try.prog) 22 5 (.int .u8 0) 1 Try.underlying22 info8 rfl .i64 .i64 C (by have := HC.out; omega) (by have := HC.out; omega)
      have hst1 : ∀ o, (wr.alloc o).cell? ⟨w.heap.size, k, none⟩ = some (topK w.heap.size C k k) := fun o => (hO.top.alloc o).cell hlt
      have hst2 : ∀ o, (wr.alloc o).frozen? ⟨w.heap.size, k, none⟩ = false := fun o => (hO.top.alloc o).frozen k
      go_wp2
      have hI0 := madeI_start hO
      clear hst1 hst2 hmk2 hsize hO
      generalize (wr.alloc (Obj.cells (madeCells #[Value.int IntKind.u8 0] C) 5)).setCell ⟨w.heap.size, k, none⟩ (Value.slice (some ⟨w.heap.size + 1 + k, 0, none⟩) C C) = wi0 at *
      go_loopw [27] (fun i wi => ∃ c : Nat, c ≤ C ∧ i = .int .i64 c ∧ MadeI w wi R C k c Z) (fun i _ => C - (intOf i).toNat)
      case atStart => exact ⟨0, Nat.zero_le _, rfl, hI0⟩
      case round =>
        obtain ⟨c, hc, rfl, hI⟩ := hrel
        clear hI0
        have hkb : k ≤ 1000 := by have := HR.out; omega
        have hcb : c ≤ 1000 := by have := HC.out; omega
        by_cases hlc : c < C
        · have g1 : wr.cell? ⟨w.heap.size, k, none⟩ = some (.slice (some ⟨w.heap.size + 1 + k, 0, none⟩) C C) := by simpa [topK] using hI.top.cell hlt
          have g4 : wr.cell? ⟨w.heap.size + 1 + k, c, none⟩ = some (.int .u8 0) := by simpa using hI.cur.cell hlc
          have g5 : wr.frozen? ⟨w.heap.size + 1 + k, c, none⟩ = false := hI.cur.frozen c
          have HI := Lib.hid hI
          clear hI
          have hcall : ∀ q, Calls Try.prog f (#[.int .i64 k, .int .i64 c] ++ cap) (wr.drewN q) fun e w' => e = .returned (.int .u8 (n8 (Z k c))) ∧ ∃ q, w' = wr.drewN q :=
            fun q => (hel (wr.drewN q) k c (below_drewN HI.out.below q) hlt hlc).mono fun e w' ⟨h1, q', h2⟩ => ⟨h1, q + q', by rw [h2, World.drewN_drewN]⟩
          go_wp2_with fail
          go_region_with (go_at_fn f; refine (hcall 1).mono ?_; rintro e w' ⟨rfl, q, rfl⟩)
          all_goals go_wp2
          all_goals go_roundw
          all_goals first | (simp [intOf]; omega) | (refine ⟨c + 1, by omega, by go_num, ?_⟩; first | exact ((madeI_step HI.out).drewN _) | exact (madeI_step (HI.out.drewN _)))
        · have hcc : c = C := by omega
          subst hcc
          go_wp2
          go_roundw
          case rel => exact ⟨k + 1, by omega, by go_num, madeI_done hI⟩
          case measure => simp [intOf]; omega
    · have hkk : k = R := by omega
      subst hkk
      go_wp2
      go_ret
      exact ⟨rfl, madeO_mx hO, hO.below⟩
theorem made_ex (f : Nat) (cap : Array Value) (R C : Nat) (Z : Nat → Nat → UInt8) (w : World) (eg : Enters Try.prog f) (hR : R ≤ 256) (hC : C ≤ 256) (hel : Elem w f cap R C Z) :
    Calls Try.prog 46 #[.int .i64 R, .int .i64 C, .func (.func f) #[] cap] w fun e w' => ∃ g bl,
      e = .returned (.slice (some ⟨g, 0, none⟩) R R) ∧ Mx w' w.heap.size g R C bl Z ∧ Below w.heap.size w w' :=
  (made_any f cap R C Z w eg hR hC hel).mono fun _ _ ⟨h1, h2, h3⟩ => ⟨_, _, h1, h2, h3⟩
end Go.Proofs.Ytppgbapfmijboaa
