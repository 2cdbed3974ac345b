/- merge.Seen. -/
import Derived.Test.YtfcfipoldkjloaaCgI
import Derived.Test.YtfcfipoldkjloaaReads
import Derived.Test.YtfcfipoldkjloaaRange
set_option maxRecDepth 100000
set_option linter.unusedSimpArgs false
namespace Go.Proofs.Ytfcfipoldkjloaa
open Go.RowKit
set_option linter.unusedVariables false
attribute [local go_sem] Oper.semAt_some

theorem groups_any (a : Option Addr) (n c : Nat) (w : World) :
    Calls Try.prog 48 #[.slice a n c] w fun e w' => e = .returned (.func (.func 79) #[] #[.pointer (some ⟨w.heap.size, 0, none⟩)]) ∧ w' = w.alloc (.cells #[.slice a n c] 26) := by
  go_enter Try.func48, Try.ntmps48
  go_wp2
  go_ret
  exact ⟨rfl, rfl⟩
/-- The sequence of groups. -/
theorem groups_stops (m Bl : Nat) (a : Option Addr) (n c : Nat) (es : List Ent) (wS w : World) (hE : Es wS a n c es) (hSW : Below wS.heap.size wS w) (hBl : Boxed w Bl 26 (.slice a n c)) :
    SeqStopsK Fence.wide (m + 1) Try.prog 79 #[.pointer (some ⟨Bl, 0, none⟩)] (gpv a) (Kb wS.heap.size Bl 26 (.slice a n c)) (fun xs : List (Gp n) => Ent.Segs es 0 (xs.map Subtype.val) n) (fun _ => True) n w :=
  fun l J Jx W hb hJ _ hY h0 => groups1_in m l Bl a n c es wS hE J Jx W (hSW.trans (hb.mono hSW.size)) hJ hY (Boxed.below hBl hb) h0
/-- Entries of the call's own and a number are told. -/
def RetEs (l : List Ent) (er : Int) (w : World) (e : Ending) (w' : World) : Prop := ∃ a n c, e = .returned (.tuple #[.slice a n c, .int .i64 er]) ∧ AccE w' w.heap.size a n c l ∧ Below w.heap.size w w'
theorem ret_es_nil {w w' : World} {er : Int} (hb : Below w.heap.size w w') : RetEs [] er w (.returned (.tuple #[.slice none 0 0, .int .i64 er])) w' := ⟨_, _, _, rfl, AccE.nil _ _, hb⟩
def Ent.seenOf {n : Nat} (up : Nat) (es : List Ent) (xs : List (Gp n)) : List Ent := xs.flatMap fun x => Ent.seenSeg up (Ent.seg es x.1)
theorem seenOf_snoc {n : Nat} (up : Nat) (es : List Ent) (xs : List (Gp n)) (x : Gp n) : Ent.seenOf up es (xs ++ [x]) = Ent.seenOf up es xs ++ Ent.seenSeg up (Ent.seg es x.1) := by simp [Ent.seenOf]
theorem seenSeg_len (up : Nat) (g : List Ent) : (Ent.seenSeg up g).length ≤ 1 := by unfold Ent.seenSeg; split <;> simp
theorem seenOf_len {n : Nat} (up : Nat) (es : List Ent) : ∀ xs : List (Gp n), (Ent.seenOf up es xs).length ≤ xs.length
  | [] => Nat.le_refl _
  | x :: xs => by
    have := seenOf_len up es xs
    have := seenSeg_len up (Ent.seg es x.1)
    unfold Ent.seenOf at *
    simp only [List.flatMap_cons, List.length_append, List.length_cons]
    omega
/-- What a loop that gathers entries holds between two rounds. -/
def Gath (w : World) (Bo Bl : Nat) (lv : Value) (ls : List Ent) (W : World) : Prop :=
  (∃ a k c, Boxed W Bo 26 (.slice a k c) ∧ AccE W w.heap.size a k c ls) ∧ Boxed W Bl 26 lv ∧ Below w.heap.size w W
theorem Gath.own {β : Type} {w : World} {Bo Bl B : Nat} {lv : Value} {f : β → List Ent} (hB : w.heap.size ≤ B) : OwnFrom B (fun s W => Gath w Bo Bl lv (f s) W) := by
  intro s W W' row hs hg hr
  obtain ⟨⟨a, k, c, h1, h2⟩, h3, h4⟩ := hs
  have hr' : ∀ r, row = some r → ∃ o : Obj, W.heap[r]? = some o ∧ o.isCells = false := fun r e => (hr r e).2
  exact ⟨⟨a, k, c, Boxed.turned h1 hg hr', h2.turned hg hr'⟩, Boxed.turned h3 hg hr', h4.grown hg h4.size (fun k e => Nat.le_trans hB (hr k e).1)⟩
theorem adj_lt {l : List Ent} (h : Ent.adj l l.length) : ∀ (d i : Nat), i + d + 1 < l.length → Ent.lt (nth l i) (nth l (i + d + 1))
  | 0, i, hi => by
    have := h (i + 1) (by omega) hi
    rw [Nat.add_sub_cancel] at this
    exact Ent.cmp_lt.1 this
  | d + 1, i, hi => by
    have h1 := adj_lt h d i (by omega)
    have h2 := h (i + (d + 1) + 1) (by omega) hi
    rw [Nat.add_sub_cancel] at h2
    exact Ent.lt_trans h1 (Ent.cmp_lt.1 h2)
theorem right_pairwise {l : List Ent} (h : Ent.rightB l = true) : l.Pairwise Ent.lt := by
  rw [List.pairwise_iff_getElem]
  intro i j hi hj hij
  have := adj_lt (rightB_spec.1 h).2 (j - i - 1) i (by omega)
  rw [show i + (j - i - 1) + 1 = j by omega, nth_eq _ hi, nth_eq _ hj] at this
  exact this
end Go.Proofs.Ytfcfipoldkjloaa
