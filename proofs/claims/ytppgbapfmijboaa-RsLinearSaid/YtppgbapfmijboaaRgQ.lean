/- Apply: gf's and the reference's. -/
import Derived.Test.YtppgbapfmijboaaRgP
import Derived.Test.YtppgbapfmijboaaConcat
namespace Go.Proofs.Ytppgbapfmijboaa
open Go.RowKit Go.Deep

def Gf.applyOk (m : List (List UInt8)) (v : List UInt8) : Bool := Gf.right m && decide (v.length = (nth m 0).length)
def Gf.applyL (m : List (List UInt8)) (v : List UInt8) : List UInt8 := if Gf.applyOk m v = true then (List.range m.length).map (fun i => Gf.sm v.length (fun k => Gf.mul (at2 m i k) (nth v k))) else []
def Gf.applyE (m : List (List UInt8)) (v : List UInt8) : Int := if Gf.applyOk m v = true then 0 else 1
theorem apply_bad {m : List (List UInt8)} {v : List UInt8} (h : Gf.applyOk m v = false) : Gf.applyL m v = [] ∧ Gf.applyE m v = 1 := by
  unfold Gf.applyL Gf.applyE; rw [h]; exact ⟨rfl, rfl⟩
theorem apply_good {m : List (List UInt8)} {v : List UInt8} (h : Gf.applyOk m v = true) : Gf.applyL m v = (List.range m.length).map (fun i => Gf.sm v.length (fun k => Gf.mul (at2 m i k) (nth v k))) ∧ Gf.applyE m v = 0 := by
  unfold Gf.applyL Gf.applyE; rw [if_pos h, if_pos h]; exact ⟨rfl, rfl⟩
/-- Bytes and an error are told. -/
def VRes (l : List UInt8) (er : Int) (w : World) (e : Ending) (w' : World) : Prop :=
  (∃ a n c, e = .returned (.tuple #[.slice a n c, .int .i64 er]) ∧ Bs w' a n c l) ∧ Below w.heap.size w w'
theorem nil_vres {w w' : World} {er : Int} (hb : Below w.heap.size w w') : VRes [] er w (.returned (.tuple #[.slice none 0 0, .int .i64 er])) w' := ⟨⟨_, _, _, rfl, Bs.nil w'⟩, hb⟩

theorem at2_mat {n C : Nat} {Z : Nat → Nat → UInt8} {i j : Nat} (hi : i < n) (hj : j < C) : at2 (mat n C Z) i j = Z i j := by
  unfold at2
  rw [mat_row hi, nth_eq _ (by simpa using hj)]
  simp
theorem right_mat {n C : Nat} {Z : Nat → Nat → UInt8} (h1 : 1 ≤ n) (h2 : n ≤ 255) (h3 : 1 ≤ C) (h4 : C ≤ 255) : Gf.right (mat n C Z) = true :=
  right_eq (mat_len _ _ _) (n0 := C) (by rw [mat_row (by omega)]; simp) h1 h2 h3 h4 (fun k hk => by rw [mat_row hk]; simp)
theorem flatten_ones {α β : Type} (f : α → β) : ∀ l : List α, (l.map fun i => [f i]).flatten = l.map f
  | [] => rfl
  | a :: l => by simp only [List.map_cons, List.flatten_cons, flatten_ones f l]; rfl
theorem apply_times {m : List (List UInt8)} {v : List UInt8} (h : Gf.applyOk m v = true) (hv : v.length ≤ 255) :
    (Gf.timesL m (mat v.length 1 (fun i _ => nth v i))).flatten = Gf.applyL m v ∧ tot (Gf.timesL m (mat v.length 1 (fun i _ => nth v i))) ≤ 255 := by
  have h' := h
  unfold Gf.applyOk at h'
  rw [Bool.and_eq_true, decide_eq_true_eq] at h'
  obtain ⟨r1, r2, r3, r4, r5⟩ := right_spec h'.1
  have ht : Gf.timesOk m (mat v.length 1 (fun i _ => nth v i)) = true := by
    unfold Gf.timesOk
    rw [h'.1, right_mat (by omega) (by omega) (by omega) (by omega), mat_len, ← h'.2]
    simp
  have e : Gf.timesL m (mat v.length 1 (fun i _ => nth v i)) = (List.range m.length).map (fun i => [Gf.sm v.length (fun k => Gf.mul (at2 m i k) (nth v k))]) := by
    rw [(times_good ht).1, mat_len, mat_row (by omega)]
    simp only [List.length_map, List.length_range, mat]
    apply List.map_congr_left
    intro i hi
    show [_] = [_]
    congr 1
    apply Gf.sm_congr
    intro k hk
    rw [show at2 _ k 0 = nth v k from at2_mat hk (by omega)]
  have e2 : ((List.range m.length).map (fun i => [Gf.sm v.length (fun k => Gf.mul (at2 m i k) (nth v k))])).flatten = (List.range m.length).map (fun i => Gf.sm v.length (fun k => Gf.mul (at2 m i k) (nth v k))) := by
    exact flatten_ones _ _
  unfold tot
  rw [e, e2, (apply_good h).1]
  exact ⟨rfl, by simp; omega⟩

end Go.Proofs.Ytppgbapfmijboaa
