/- Numbers: Clip, codec.Number, the reference's Number. -/
import Derived.Test.YtchdmjnhjonddaaProg
import Derived.Test.YtchdmjnhjonddaaBytes
import Derived.Test.YtchdmjnhjonddaaCodecSpec
namespace Go.Proofs.Ytchdmjnhjonddaa
open Go.RowKit

set_option maxHeartbeats 400000 in
theorem clip_any (a : Option Addr) (n c : Nat) (w : World) (h : n ≤ c) :
    Calls Try.prog 89 #[.slice a n c] w fun e w' => e = .returned (.slice a n n) ∧ w = w' := by
  go_enter Try.func89, Try.ntmps89
  go_wp2
  go_ret
  exact ⟨rfl, rfl⟩

theorem num_step {w0 wr w' : World} {n n' v v' : Nat} {l p : List UInt8} {a'' : Option Addr} {c'' : Nat} (hv : 128 ≤ v') (he : Codec.enc v = p ++ Codec.enc v') (hn : n' = n + p.length)
    (hb : Below w0.heap.size w0 wr) (h1 : AppB w' w0.heap.size a'' (n' + 1) c'' ((l ++ p) ++ [UInt8.ofNat v' ||| 128])) (h2 : Below w0.heap.size wr w') (h3 : U64 v') :
    AppB w' w0.heap.size a'' (n' + 1) c'' (l ++ (p ++ [UInt8.ofNat v' ||| 128])) ∧ Codec.enc v = (p ++ [UInt8.ofNat v' ||| 128]) ++ Codec.enc (v' / 128) ∧ n' + 1 = n + (p ++ [UInt8.ofNat v' ||| 128]).length ∧
      U64 (v' / 128) ∧ Below w0.heap.size w0 w' := by
  refine ⟨by rw [← List.append_assoc]; exact h1, by rw [he, Codec.enc_big hv]; simp, by simp; omega, ⟨by have := h3.lt; omega⟩, hb.trans h2⟩
theorem num_room {n n' v v' : Nat} {p : List UInt8} (he : Codec.enc v = p ++ Codec.enc v') (hn' : n' = n + p.length) (hv : U64 v) (hn : Fits n) : n' + 1 ≤ 140737488355328 := by
  have h1 := Codec.enc_len10 hv.lt
  have h0 := hn.le
  have h2 := Codec.enc_pos v'
  rw [he, List.length_append] at h1
  omega

set_option maxHeartbeats 400000 in
theorem number_any (a : Option Addr) (n c : Nat) (l : List UInt8) (v : Nat) (w : World) (h : Bs w a n c l) (hv : U64 v) (hn : Fits n) :
    Calls Try.prog 67 #[.slice a n c, .int .u64 v] w (RetB w w.heap.size (l ++ Codec.enc v)) := by
  have hle := h.2.1
  have h' := AppB.full (B := w.heap.size) (show Bs w a n n l from ⟨h.1, Nat.le_refl _, by have := h.2.1; have := h.2.2.1; omega, h.2.2.2⟩)
  clear h
  go_enter Try.func67, Try.ntmps67
  go_wp2_with (go_at_call 89; refine (clip_any _ _ _ _ hle).mono ?_; rintro e w' ⟨rfl, rfl⟩)
  go_loopw [0, 1] (fun s x wr => ∃ (a' : Option Addr) (n' c' v' : Nat) (p : List UInt8), s = .slice a' n' c' ∧ x = .int .u64 v' ∧ AppB wr w.heap.size a' n' c' (l ++ p) ∧ Codec.enc v = p ++ Codec.enc v' ∧ n' = n + p.length ∧ U64 v' ∧ Below w.heap.size w wr) (fun _ x _ => (intOf x).toNat)
  case atStart => exact ⟨a, n, n, v, [], rfl, rfl, by simpa using h', rfl, rfl, hv, Below.refl _ _⟩
  case round =>
    obtain ⟨a', n', c', v', p, rfl, rfl, happ, he, hn', hv', hb⟩ := hrel
    have HE := Lib.hid he; have HN := Lib.hid hn'
    have hbz := hb.size
    clear he hn'
    by_cases hlt : 128 ≤ v'
    · have hd : decide ((128 : Int) ≤ (v' : Int)) = true := by simp; omega
      go_wp2_with (at_builtin; refine app_any rfl _ _ rfl w.heap.size rfl (happ.alloc _) rfl (Bs.one _ _) (num_room HE.out HN.out hv hn) (le_alloc hbz) ?_; intro a'' c'' w' h1 h1' h2 h3)
      have HG := num_step hlt HE.out HN.out hb h1 (((Below.refl _ _).alloc hbz _).trans h2) hv'
      clear h1 h1' h2 h3 happ
      go_roundw
      case rel => exact ⟨_, _, _, _, _, rfl, by go_num, HG⟩
      case measure => simp [intOf]; omega
    · have hd : decide ((128 : Int) ≤ (v' : Int)) = false := by simp; omega
      have hle' : v' < 256 := by omega
      go_wp2_with (at_builtin; refine app_any rfl _ _ rfl w.heap.size rfl (happ.alloc _) rfl (Bs.oneN _ _ hle') (num_room HE.out HN.out hv hn) (le_alloc hbz) ?_; intro a'' c'' w' h1 h1' h2 h3)
      go_ret
      refine ⟨_, _, _, rfl, ?_, hb.trans (((Below.refl _ _).alloc hbz _).trans h2)⟩
      rw [HE.out, Codec.enc_small (by omega), ← List.append_assoc]
      exact h1' (by omega)
end Go.Proofs.Ytchdmjnhjonddaa
