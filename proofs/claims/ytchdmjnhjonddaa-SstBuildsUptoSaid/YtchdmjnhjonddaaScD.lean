/- Bytes and frames as they are written; sums of lengths; joined. -/
import Derived.Test.YtchdmjnhjonddaaScC
namespace Go.Proofs.Ytchdmjnhjonddaa
open Go.RowKit

theorem u64_of_fits {n : Nat} (h : Fits n) : U64 n := ⟨by have := h.le; omega⟩
theorem fits_room {n m : Nat} (h : Fits (n + m)) : n + m ≤ 140737488355328 := by have := h.le; omega

set_option maxHeartbeats 400000 in
theorem refbytes_any (B : Nat) (a ax : Option Addr) (n c m cx : Nat) (l x : List UInt8) (w : World) (hB : B ≤ w.heap.size) (h : AppB w B a n c l) (hx : Bs w ax m cx x) (hne : 0 < m → ∀ y z, ax = some y → a = some z → y.block ≠ z.block) (hn : Fits (n + m + 10)) :
    Calls Try.prog 71 #[.slice a n c, .slice ax m cx] w (RetB w B (l ++ (Codec.enc m ++ x))) := by
  have hle := hx.le.1
  have hu : U64 m := ⟨by have := hn.le; omega⟩
  have hf : Fits n := ⟨by have := hn.le; omega⟩
  go_enter Try.func71, Try.ntmps71
  go_wp2_with fail
  refine (refnumber_any B _ _ _ l _ _ hB h hu hf).mono ?_
  rintro e w1 ⟨a1, n1, c1, rfl, ho, hb, hev⟩
  have hx1 := hx.evol hev hne
  have hroom : n1 + m ≤ 140737488355328 := by
    have := ho.bs.1; have := hn.le; have := h.bs.1; have := Codec.enc_len10 hu.lt; simp only [List.length_append] at *; omega
  go_wp2_with (at_builtin; refine app_own rfl _ _ rfl B rfl ho rfl hx1 hroom (Nat.le_trans hB hb.size) ?_; intro a'' c'' w' h1 h2 _)
  go_ret
  exact ⟨_, _, _, rfl, by rw [← List.append_assoc]; exact h1, hb.trans h2⟩


set_option maxHeartbeats 400000 in
theorem size_any (a : Option Addr) (n c : Nat) (ls : List (List UInt8)) (w : World) (h : Bss w a n c ls) (hf : Fits (tot ls)) :
    Calls Try.prog 90 #[.slice a n c] w fun e w' => e = .returned (.int .i64 (tot ls)) ∧ w = w' := by
  have hle := h.le.1
  have HN := Lib.hid h.1
  go_enter Try.func90, Try.ntmps90
  go_wp2
  go_loop [3, 8] (fun s i => ∃ k : Nat, k ≤ n ∧ i = .int .i64 k ∧ s = .int .i64 (tot (ls.take k))) (fun _ i => n - (intOf i).toNat)
  case atStart => exact ⟨0, by omega, rfl, rfl⟩
  case round =>
    obtain ⟨k, hk, rfl, rfl⟩ := hrel
    by_cases hlt : k < n
    · obtain ⟨b, off, ai, ni, ci, rfl, hc, hr⟩ := h.get hlt
      have hs := tot_snoc ls (i := k) (by rw [HN.out]; exact hlt)
      have hl := tot_le ls (k + 1)
      have hf' := hf.le
      rw [hr.1] at hs
      have hb : tot (ls.take k) + ni ≤ 140737488355300 := by omega
      have HS := Lib.hid hs
      clear hs hl hf'
      generalize tot (ls.take k) = t at *
      go_wp2
      go_round
      case rel => exact ⟨k + 1, by omega, by go_num, by rw [HS.out]; go_num⟩
      case measure => simp [intOf]; omega
    · obtain rfl : k = n := by omega
      go_wp2
      go_ret
      exact ⟨by rw [← HN.out, List.take_length]; rfl, rfl⟩

set_option maxHeartbeats 400000 in
theorem bytes_any (a ax : Option Addr) (n c m cx : Nat) (l : List UInt8) (ls : List (List UInt8)) (w : World) (h : Bs w a n c l) (hx : Bss w ax m cx ls) (hn : Fits (n + tot ls + 10)) :
    Calls Try.prog 68 #[.slice a n c, .slice ax m cx] w (RetB w w.heap.size (l ++ Codec.bytes ls)) := by
  have hle := hx.le.1
  have HN := Lib.hid hx.1
  have hu : U64 (tot ls) := ⟨by have := hn.le; omega⟩
  have hf : Fits n := ⟨by have := hn.le; omega⟩
  have hft : Fits (tot ls) := ⟨by have := hn.le; omega⟩
  have hbd : tot ls ≤ 140737488355328 := by have := hn.le; omega
  go_enter Try.func68, Try.ntmps68
  go_wp2_with fail
  refine (size_any _ _ _ ls _ hx hft).mono ?_
  rintro e w' ⟨rfl, rfl⟩
  go_wp2_with fail
  refine (number_any _ _ _ l _ _ h hu hf).mono ?_
  rintro e w1 ⟨a1, n1, c1, rfl, ho, hb⟩
  have HN1 := Lib.hid ho.bs.1
  have HL := Lib.hid h.1
  go_wp2_with fail
  go_loopw [0, 14] (fun s i wr => ∃ (k : Nat) (a' : Option Addr) (n' c' : Nat), k ≤ m ∧ i = .int .i64 k ∧ s = .slice a' n' c' ∧ Own wr w.heap.size a' n' c' (l ++ Codec.enc (tot ls) ++ (ls.take k).flatten) ∧ Below w.heap.size w wr) (fun _ i _ => m - (intOf i).toNat)
  case atStart => exact ⟨0, _, _, _, by omega, rfl, rfl, by simpa using ho, hb⟩
  case round =>
    obtain ⟨k, a', n', c', hk, rfl, rfl, hown, hb⟩ := hrel
    have hbz := hb.size
    by_cases hlt : k < m
    · obtain ⟨b, off, ai, ni, ci, rfl, hc, hr⟩ := (hx.below hb).get hlt
      have hs := tot_snoc ls (i := k) (by rw [HN.out]; exact hlt)
      have hl := tot_le ls (k + 1)
      have hm := hown.bs.1
      have he := Codec.enc_len10 hu.lt
      have hHL := HL.out
      have hnl := hn.le
      rw [hr.1] at hs
      have hroom := Lib.hid (show n' + ni ≤ 140737488355328 by simp only [List.length_append] at hm; unfold tot at *; omega)
      have HF := Lib.hid (flat_snoc ls (i := k) (by rw [HN.out]; exact hlt))
      clear hs hl hm he hHL hnl
      go_wp2_with (at_builtin; refine app_own rfl _ _ rfl w.heap.size rfl hown rfl hr hroom.out hbz ?_; intro a'' c'' w' h1 h2 _)
      have HG : Own w' w.heap.size a'' (n' + ni) c'' (l ++ Codec.enc (tot ls) ++ (ls.take (k + 1)).flatten) ∧ Below w.heap.size w w' := ⟨by rw [HF.out, ← List.append_assoc]; exact h1, hb.trans h2⟩
      clear h1 h2 hown
      go_roundw
      case rel => exact ⟨k + 1, _, _, _, by omega, by go_num, rfl, HG⟩
      case measure => simp [intOf]; omega
    · obtain rfl : k = m := by omega
      go_wp2
      go_ret
      refine ⟨_, _, _, rfl, ?_, hb⟩
      rw [← HN.out, List.take_length, List.append_assoc] at hown
      exact hown

set_option maxHeartbeats 400000 in
theorem refframe_any (B : Nat) (a ax : Option Addr) (n c m cx : Nat) (l x : List UInt8) (w : World) (hB : B ≤ w.heap.size) (h : AppB w B a n c l) (hx : Bs w ax m cx x) (hne : 0 < m → ∀ y z, ax = some y → a = some z → y.block ≠ z.block) (hn : Fits (n + m + 20)) :
    Calls Try.prog 42 #[.slice a n c, .slice ax m cx] w (RetB w B (l ++ Codec.frame x)) := by
  have hle := hx.le.1
  have hu : U64 m := ⟨by have := hn.le; omega⟩
  have hf : Fits n := ⟨by have := hn.le; omega⟩
  have HX := Lib.hid hx.1
  go_enter Try.func42, Try.ntmps42
  go_wp2_with fail
  refine (refnumber_any B _ _ _ l _ _ hB h hu hf).mono ?_
  rintro e w1 ⟨a1, n1, c1, rfl, ho, hb, hev⟩
  have hx1 := hx.evol hev hne
  have hl1 : n1 + m + 4 ≤ 140737488355328 := by
    have := ho.bs.1; have := hn.le; have := h.bs.1; have := Codec.enc_len10 hu.lt; simp only [List.length_append] at *; omega
  go_wp2_with fail
  refine (refsum_any _ _ _ x _ hx1).mono ?_
  rintro e w2 ⟨rfl, rfl⟩
  go_wp2_with fail
  refine (four_any B _ _ _ _ _ _ (Nat.le_trans hB hb.size) ho (by omega)).mono ?_
  rintro e w2 ⟨a2, n2, c2, rfl, ho2, hb2, hev2⟩
  have hx2 := hx.evol (hev.trans hev2) hne
  have hl2 : n2 + m ≤ 140737488355328 := by
    have h1 := ho2.bs.1; have h2 := ho.bs.1
    rw [List.length_append, h2] at h1
    have : (Codec.four (Codec.sum x)).length = 4 := rfl
    omega
  go_wp2_with (at_builtin; refine app_own rfl _ _ rfl B rfl ho2 rfl hx2 hl2 (Nat.le_trans hB (Nat.le_trans hb.size hb2.size)) ?_; intro a'' c'' w' h1 h2 _)
  go_ret
  refine ⟨_, _, _, rfl, ?_, (hb.trans hb2).trans h2⟩
  unfold Codec.frame
  rw [HX.out]
  simpa [List.append_assoc] using h1

set_option maxHeartbeats 400000 in
theorem frame_any (ax : Option Addr) (m cx : Nat) (x : List UInt8) (w : World) (hx : Bs w ax m cx x) (hn : Fits (m + 20)) :
    Calls Try.prog 36 #[.slice ax m cx] w (RetB w w.heap.size (Codec.frame x)) := by
  have hle := hx.le.1
  have hu : U64 m := ⟨by have := hn.le; omega⟩
  have hf : Fits 0 := ⟨by omega⟩
  have HX := Lib.hid hx.1
  go_enter Try.func36, Try.ntmps36
  go_wp2_with fail
  refine (number_any _ _ _ [] _ _ (Bs.nil w) hu hf).mono ?_
  rintro e w1 ⟨a1, n1, c1, rfl, ho, hb⟩
  have hx1 := hx.below hb
  have hl1 : n1 + m + 4 ≤ 140737488355328 := by
    have := ho.bs.1; have := hn.le; have := Codec.enc_len10 hu.lt; simp only [List.nil_append] at *; omega
  go_wp2_with fail
  refine (sum_any _ _ _ [x] _ (Bss.one hx1)).mono ?_
  rintro e w2 ⟨rfl, hb2⟩
  have hb12 : Below w1.heap.size w1 w2 := ((Below.refl _ _).alloc (Nat.le_refl _) _).trans (hb2.mono (by simp))
  have ho2 := ho.below hb12
  go_wp2_with fail
  refine (low_any w.heap.size _ _ _ _ (Codec.sum x).toNat 4 _ (Nat.le_trans hb.size hb12.size) ho2 (by omega)).mono ?_
  rintro e w3 ⟨a3, n3, c3, rfl, ho3, hb3, hev3⟩
  have hb13 : Below w.heap.size w w3 := (hb.trans (hb12.mono hb.size)).trans hb3
  have hx3 := hx.below hb13
  have hl2 : n3 + m ≤ 140737488355328 := by
    have h1 := ho3.bs.1; have h2 := ho.bs.1
    rw [List.length_append, h2, Codec.low_len] at h1
    omega
  go_wp2_with (at_builtin; refine app_own rfl _ _ rfl w.heap.size rfl ho3 rfl hx3 hl2 hb13.size ?_; intro a'' c'' w' h1 h2 _)
  go_ret
  refine ⟨_, _, _, rfl, ?_, hb13.trans h2⟩
  unfold Codec.frame
  rw [HX.out]
  rw [Codec.four_eq] at h1
  simpa [List.append_assoc] using h1

theorem frames_snoc (ls : List (List UInt8)) {i : Nat} (hi : i < ls.length) : Codec.frames (ls.take (i + 1)) = Codec.frames (ls.take i) ++ Codec.frame (nth ls i) := by
  unfold Codec.frames
  rw [take_snoc ls hi]; simp
theorem frame_len {x : List UInt8} (h : U64 x.length) : (Codec.frame x).length ≤ x.length + 14 := by
  have := Codec.enc_len10 h.lt
  have h4 : (Codec.four (Codec.sum x)).length = 4 := rfl
  unfold Codec.frame
  simp only [List.length_append]
  omega
theorem frames_len : ∀ (ls : List (List UInt8)), (∀ x ∈ ls, U64 x.length) → (Codec.frames ls).length ≤ tot ls + 14 * ls.length := by
  intro ls
  induction ls with
  | nil => intro _; simp [Codec.frames, tot]
  | cons x ls ih =>
    intro h
    have h1 := frame_len (h x (by simp))
    have h2 := ih (fun y hy => h y (by simp [hy]))
    simp only [Codec.frames, tot, List.map_cons, List.flatten_cons, List.length_append, List.length_cons] at *
    omega
theorem frames_room {ls : List (List UInt8)} {i : Nat} (hi : i < ls.length) (hf : Fits (tot ls + 20 * ls.length)) : (Codec.frames (ls.take i)).length + (Codec.frame (nth ls i)).length ≤ 140737488355328 ∧ Fits ((nth ls i).length + 20) := by
  have hf' := hf.le
  have hu : ∀ x ∈ ls.take (i + 1), U64 x.length := by
    intro x hx
    obtain ⟨l1, l2, e⟩ := List.append_of_mem hx
    have h1 := tot_le ls (i + 1)
    rw [e] at h1
    simp only [tot, List.flatten_append, List.flatten_cons, List.length_append] at h1 hf'
    exact ⟨by omega⟩
  have h1 := frames_len _ hu
  have h2 := tot_le ls (i + 1)
  rw [frames_snoc ls hi, List.length_append] at h1
  have h3 : (ls.take (i + 1)).length ≤ ls.length := by simp; omega
  have h4 := tot_snoc ls hi
  exact ⟨by omega, ⟨by omega⟩⟩

end Go.Proofs.Ytchdmjnhjonddaa
