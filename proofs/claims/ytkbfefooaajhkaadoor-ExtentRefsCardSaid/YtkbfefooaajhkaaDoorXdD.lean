/- Bytes and frames as they are written; sums of lengths; joined. -/
import Derived.Test.YtkbfefooaajhkaaDoorXdC
namespace Go.Proofs.YtkbfefooaajhkaaDoor
open Go.RowKit

theorem u64_of_fits {n : Nat} (h : Fits n) : U64 n := ⟨by have := h.le; omega⟩
theorem fits_room {n m : Nat} (h : Fits (n + m)) : n + m ≤ 140737488355328 := by have := h.le; omega

theorem frames_snoc (ls : List (List UInt8)) {i : Nat} (hi : i < ls.length) : Codec.frames (ls.take (i + 1)) = Codec.frames (ls.take i) ++ Codec.frame (nth ls i) := by
  unfold Codec.frames
  rw [take_snoc ls hi]; simp
theorem frame_len {x : List UInt8} (h : U64 x.length) : (Codec.frame x).length ≤ x.length + 14 := by
  have := Codec.enc_len10 h.lt
  have h4 : (Codec.four (Codec.sum x)).length = 4 := rfl
  unfold Codec.frame
  simp only [List.length_append]
  omega
theorem frames_len : ∀ (ls : List (List UInt8)), (∀ x ∈ ls, U64 x.length) → (Codec.frames ls).length ≤ tot ls + 14 * ls.length := by
  intro ls
  induction ls with
  | nil => intro _; simp [Codec.frames, tot]
  | cons x ls ih =>
    intro h
    have h1 := frame_len (h x (by simp))
    have h2 := ih (fun y hy => h y (by simp [hy]))
    simp only [Codec.frames, tot, List.map_cons, List.flatten_cons, List.length_append, List.length_cons] at *
    omega
theorem frames_room {ls : List (List UInt8)} {i : Nat} (hi : i < ls.length) (hf : Fits (tot ls + 20 * ls.length)) : (Codec.frames (ls.take i)).length + (Codec.frame (nth ls i)).length ≤ 140737488355328 ∧ Fits ((nth ls i).length + 20) := by
  have hf' := hf.le
  have hu : ∀ x ∈ ls.take (i + 1), U64 x.length := by
    intro x hx
    obtain ⟨l1, l2, e⟩ := List.append_of_mem hx
    have h1 := tot_le ls (i + 1)
    rw [e] at h1
    simp only [tot, List.flatten_append, List.flatten_cons, List.length_append] at h1 hf'
    exact ⟨by omega⟩
  have h1 := frames_len _ hu
  have h2 := tot_le ls (i + 1)
  rw [frames_snoc ls hi, List.length_append] at h1
  have h3 : (ls.take (i + 1)).length ≤ ls.length := by simp; omega
  have h4 := tot_snoc ls hi
  exact ⟨by omega, ⟨by omega⟩⟩

end Go.Proofs.YtkbfefooaajhkaaDoor
