/- The walks of MergeCompares, MergeSees. -/
import Derived.Test.YtfcfipoldkjloaaCgM
set_option maxRecDepth 100000
set_option linter.unusedSimpArgs false
namespace Go.Proofs.Ytfcfipoldkjloaa
open Go.RowKit
set_option linter.unusedVariables false

theorem tot_mem {l : List Ent} {e : Ent} (h : e ∈ l) : e.key.length + e.val.length ≤ Ent.tot l := by
  induction l with
  | nil => cases h
  | cons x l ih =>
    unfold Ent.tot at *
    simp only [List.map_cons, List.sum_cons]
    rcases List.mem_cons.1 h with h | h
    · subst h; omega
    · have := ih h; omega
theorem few_yes {l : List Ent} {n most : Nat} (h : decide (n ≤ most ∧ Ent.tot l ≤ 131072) = true) : n ≤ most ∧ ∀ e ∈ l, e.val.length ≤ 1000000000 := by
  have h1 := of_decide_eq_true h
  exact ⟨h1.1, fun e he => by have := tot_mem he; omega⟩
theorem srows_same (a a' : Option Addr) (n c n' c' : Nat) (l : List Ent) (w : World) (h : Es w a n c l) (h' : Es w a' n' c' l) :
    Calls Try.prog 12 #[.slice a n c, .slice a' n' c'] w fun e w' => e = .returned (.bool true) ∧ Below w.heap.size w w' :=
  (srows_any a a' n c n' c' l l w h h').mono fun e w' ⟨h1, h2⟩ => ⟨by rw [h1]; simp, h2⟩
def Ent.erE (l : List Ent) : Int := if Ent.rightB l = true then 0 else 15
def Ent.seenE (l : List Ent) (up : Nat) : List Ent := if Ent.rightB l = true then Ent.seen l up else []
def Ent.pruneE (l : List Ent) (keep : Nat) (bottom : Bool) : List Ent := if Ent.rightB l = true then Ent.prune l keep bottom else []
theorem prune_e (a : Option Addr) (n c : Nat) (es : List Ent) (keep : Nat) (bottom : Bool) (w : World) (h : Es w a n c es) (hn : n ≤ 30000) (hv : ∀ e ∈ es, e.val.length ≤ 1000000000) :
    Calls Try.prog 23 #[.slice a n c, .int .u64 keep, .bool bottom] w (RetEs (Ent.pruneE es keep bottom) (Ent.erE es) w) := prune_any a n c es keep bottom w h hn hv
theorem refseen_e (a : Option Addr) (n c : Nat) (es : List Ent) (up : Nat) (w : World) (h : Es w a n c es) (hn : n ≤ 1000000) :
    Calls Try.prog 11 #[.slice a n c, .int .u64 up] w (RetEs (Ent.seenE es up) (Ent.erE es) w) := refseen_any a n c es up w h hn
theorem nums_same (k : Int) : (k != k) = false ∧ (k == k) = true := ⟨by simp, by simp⟩
theorem two_es (w : World) (x y : Ent) (ax ay : Option Addr) (cx cy : Nat) (hx : Bs w ax x.val.length cx x.val) (hy : Bs w ay y.val.length cy y.val) :
    Es (w.alloc (.cells #[.string (bstr x.key), .int .u64 x.seq, .bool x.gone, .slice ax x.val.length cx, .string (bstr y.key), .int .u64 y.seq, .bool y.gone, .slice ay y.val.length cy] 33)) (some ⟨w.heap.size, 0, none⟩) 2 2 [x, y] := by
  have hn := heap_alloc_new w (.cells #[.string (bstr x.key), .int .u64 x.seq, .bool x.gone, .slice ax x.val.length cx, .string (bstr y.key), .int .u64 y.seq, .bool y.gone, .slice ay y.val.length cy] 33)
  have e3 := below_alloc1 w (.cells #[.string (bstr x.key), .int .u64 x.seq, .bool x.gone, .slice ax x.val.length cx, .string (bstr y.key), .int .u64 y.seq, .bool y.gone, .slice ay y.val.length cy] 33)
  refine ⟨rfl, Nat.le_refl _, by simp [maxLen], fun i hi => ?_⟩
  have hc := fun j => cell_of_row _ _ j _ _ _ hn
  match i, hi with
  | 0, _ => exact ⟨w.heap.size, 0, _, _, rfl, ⟨hc 0, hc 1, hc 2, hc 3⟩, hx.below e3⟩
  | 1, _ => exact ⟨w.heap.size, 0, _, _, rfl, ⟨hc 4, hc 5, hc 6, hc 7⟩, hy.below e3⟩
  | i + 2, hi => omega
end Go.Proofs.Ytfcfipoldkjloaa
