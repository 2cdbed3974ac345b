/- Fronts of frames: no program in sight. -/
import Derived.Test.YtfjgapfkobpkhaaCodecSpec
namespace Go.Proofs.Ytfjgapfkobpkhaa.Codec

theorem decF_short : ∀ (n u i v m : Nat), u < n → (i < 9 → u * 128 ^ i < 18446744073709551616) → i ≤ 9 → (i = 9 → u ≤ 1) → m < (enc u).length → decF i v ((enc u).take m) = (0, 0, 11) := by
  intro n
  induction n with
  | zero => intro u i v m h; omega
  | succ n ih =>
    intro u i v m hn hb hi h9 hm
    cases m with
    | zero => rfl
    | succ m =>
      by_cases hu : u < 128
      · rw [enc_small hu] at hm
        simp at hm
      · have hi9 : i < 9 := by omega
        rw [enc_big (by omega)] at hm ⊢
        simp only [List.take_succ_cons, decF, hi_toNat]
        rw [if_neg (by omega), if_neg (by omega)]
        have hdiv : u / 128 * 128 ^ (i + 1) ≤ u * 128 ^ i := by
          rw [Nat.pow_succ, Nat.mul_comm (128 ^ i) 128, ← Nat.mul_assoc]
          exact Nat.mul_le_mul_right _ (by omega)
        have hsmall : u / 128 * 128 ^ (i + 1) < 18446744073709551616 := Nat.lt_of_le_of_lt hdiv (hb hi9)
        have h9' : i + 1 = 9 → u / 128 ≤ 1 := by
          intro e
          rw [e] at hsmall
          have : (128 : Nat) ^ 9 = 9223372036854775808 := by decide
          rw [this] at hsmall
          omega
        exact ih (u / 128) (i + 1) _ m (by omega) (fun _ => hsmall) (by omega) h9' (by simpa using hm)
theorem dec_short {u m : Nat} (h : u < 18446744073709551616) (hm : m < (enc u).length) : dec ((enc u).take m) = (0, 0, 11) :=
  decF_short (u + 1) u 0 0 m (by omega) (by intro _; simpa using h) (by omega) (by omega) hm
theorem frame_length (x : List UInt8) : (frame x).length = (enc x.length).length + 4 + x.length := by unfold frame; simp [four]; omega
theorem frame_short {x : List UInt8} (hx : x.length ≤ 67108864) {m : Nat} (hm : m < (frame x).length) : (decFrame ((frame x).take m)).2.2 = 11 := by
  rw [frame_length] at hm
  by_cases h : m < (enc x.length).length
  · have e : (frame x).take m = (enc x.length).take m := by
      unfold frame
      rw [List.append_assoc, List.take_append_of_le_length (by omega)]
    unfold decFrame
    rw [e, dec_short (by omega) h, if_pos (by decide)]
  · obtain ⟨j, rfl⟩ : ∃ j, m = (enc x.length).length + j := ⟨m - (enc x.length).length, by omega⟩
    have e : (frame x).take ((enc x.length).length + j) = enc x.length ++ (four (sum x) ++ x).take j := by
      unfold frame
      rw [List.append_assoc, List.take_length_add_append]
    unfold decFrame
    rw [e, dec_enc (by omega)]
    dsimp only
    rw [if_neg (by simp), if_neg (by omega), if_pos]
    simp only [List.length_append, List.length_take]
    simp [four]
    omega

/-- How many frames are whole, and how long these are. -/
def whole : List (List UInt8) → Nat → Nat × Nat
  | [], _ => (0, 0)
  | x :: ls, cut => if (frame x).length ≤ cut then ((whole ls (cut - (frame x).length)).1 + 1, (whole ls (cut - (frame x).length)).2 + (frame x).length) else (0, 0)
theorem whole_le : ∀ (ls : List (List UInt8)) (cut : Nat), (whole ls cut).1 ≤ ls.length ∧ (whole ls cut).2 ≤ cut
  | [], cut => by simp [whole]
  | x :: ls, cut => by
    unfold whole
    split
    · have := whole_le ls (cut - (frame x).length)
      simp only [List.length_cons]
      omega
    · simp
theorem rd_front : ∀ (ls : List (List UInt8)) (cut f : Nat), (∀ x ∈ ls, x.length ≤ 67108864) → cut ≤ (frames ls).length → cut < f →
    rdFramesF f ((frames ls).take cut) = (ls.take (whole ls cut).1, (whole ls cut).2, if (whole ls cut).2 = cut then 0 else 11)
  | [], cut, f, _, hc, hf => by
    simp [frames] at hc
    subst hc
    cases f with
    | zero => omega
    | succ f => simp [frames, rdFramesF, whole]
  | x :: ls, cut, f, hx, hc, hf => by
    have e0 : frames (x :: ls) = frame x ++ frames ls := by simp [frames]
    have hx0 : x.length ≤ 67108864 := hx x (by simp)
    have hpos := frame_length x
    rw [e0] at hc ⊢
    rw [List.length_append] at hc
    cases f with
    | zero => omega
    | succ f =>
      by_cases h : (frame x).length ≤ cut
      · obtain ⟨j, rfl⟩ : ∃ j, cut = (frame x).length + j := ⟨cut - (frame x).length, by omega⟩
        have e1 : (frame x ++ frames ls).take ((frame x).length + j) = frame x ++ (frames ls).take j := List.take_length_add_append j
        obtain ⟨d1, d2⟩ := decFrame_frame hx0 ((frames ls).take j)
        have ih := rd_front ls j f (fun y hy => hx y (by simp [hy])) (by omega) (by omega)
        rw [e1]
        unfold rdFramesF
        rw [if_neg (by intro e; have := congrArg List.length e; rw [List.length_append, List.length_nil] at this; omega), d1, d2]
        dsimp only
        rw [if_neg (by simp), List.drop_left, ih]
        have ew : whole (x :: ls) ((frame x).length + j) = ((whole ls j).1 + 1, (whole ls j).2 + (frame x).length) := by
          show (if (frame x).length ≤ (frame x).length + j then _ else _) = _
          rw [if_pos h, Nat.add_sub_cancel_left]
        rw [ew]
        refine Prod.ext (by simp) (Prod.ext (by simp only; omega) ?_)
        simp only
        by_cases hh : (whole ls j).2 = j
        · rw [if_pos hh, if_pos (by omega)]
        · rw [if_neg hh, if_neg (by omega)]
      · have e1 : (frame x ++ frames ls).take cut = (frame x).take cut := List.take_append_of_le_length (by omega)
        have ew : whole (x :: ls) cut = (0, 0) := by unfold whole; rw [if_neg h]
        rw [e1, ew]
        by_cases h0 : cut = 0
        · subst h0
          simp [rdFramesF]
        · have hs := frame_short hx0 (m := cut) (by omega)
          unfold rdFramesF
          rw [if_neg (by intro e; have := congrArg List.length e; rw [List.length_take, List.length_nil] at this; omega), if_pos (by omega), hs]
          simp
          omega
theorem rdFrames_front {ls : List (List UInt8)} {cut : Nat} (hx : ∀ x ∈ ls, x.length ≤ 67108864) (hc : cut ≤ (frames ls).length) :
    rdFrames ((frames ls).take cut) = (ls.take (whole ls cut).1, (whole ls cut).2, if (whole ls cut).2 = cut then 0 else 11) :=
  rd_front ls cut _ hx hc (by rw [List.length_take]; omega)
end Go.Proofs.Ytfjgapfkobpkhaa.Codec
