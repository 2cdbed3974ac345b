/- What is laid behind bytes: the reference's Number, low, Four, Bytes, Frame, Frames. -/
import Derived.Test.YtchdmjnhjonddaaScA
import Derived.Test.YtchdmjnhjonddaaScB
namespace Go.Proofs.Ytchdmjnhjonddaa
open Go.RowKit

theorem RetB.len {w w' : World} {B : Nat} {l : List UInt8} {e : Ending} (h : RetB w B l e w') : ∃ a n c, e = .returned (.slice a n c) ∧ Own w' B a n c l ∧ Below B w w' ∧ l.length = n := by
  obtain ⟨a, n, c, h1, h2, h3⟩ := h
  exact ⟨a, n, c, h1, h2, h3, h2.bs.1⟩

theorem numr_step {wr w' : World} {B : Nat} {w0 : World} {n n' v v' : Nat} {l p : List UInt8} {a'' : Option Addr} {c'' : Nat} (hv : 128 ≤ v') (he : Codec.enc v = p ++ Codec.enc v') (hn : n' = n + p.length)
    (hb : Below B w0 wr) (h1 : AppB w' B a'' (n' + 1) c'' ((l ++ p) ++ [UInt8.ofNat v' ||| 128])) (h2 : Below B wr w') (h3 : U64 v') {a : Option Addr} (h4 : Evol w0 a w' a'') :
    AppB w' B a'' (n' + 1) c'' (l ++ (p ++ [UInt8.ofNat v' ||| 128])) ∧ Codec.enc v = (p ++ [UInt8.ofNat v' ||| 128]) ++ Codec.enc (v' / 128) ∧ n' + 1 = n + (p ++ [UInt8.ofNat v' ||| 128]).length ∧
      U64 (v' / 128) ∧ Below B w0 w' ∧ Evol w0 a w' a'' := by
  refine ⟨by rw [← List.append_assoc]; exact h1, by rw [he, Codec.enc_big hv]; simp, by simp; omega, ⟨by have := h3.lt; omega⟩, hb.trans h2, h4⟩

set_option maxHeartbeats 400000 in
theorem refnumber_any (B : Nat) (a : Option Addr) (n c : Nat) (l : List UInt8) (v : Nat) (w : World) (hB : B ≤ w.heap.size) (h : AppB w B a n c l) (hv : U64 v) (hn : Fits n) :
    Calls Try.prog 72 #[.slice a n c, .int .u64 v] w (RetE w B a (l ++ Codec.enc v)) := by
  go_enter Try.func72, Try.ntmps72
  go_wp2
  go_loopw [0, 1] (fun s x wr => ∃ (a' : Option Addr) (n' c' v' : Nat) (p : List UInt8), s = .slice a' n' c' ∧ x = .int .u64 v' ∧ AppB wr B a' n' c' (l ++ p) ∧ Codec.enc v = p ++ Codec.enc v' ∧ n' = n + p.length ∧ U64 v' ∧ Below B w wr ∧ Evol w a wr a') (fun _ x _ => (intOf x).toNat)
  case atStart => exact ⟨a, n, c, v, [], rfl, rfl, by simpa using h, rfl, rfl, hv, Below.refl _ _, Evol.refl _ _⟩
  case round =>
    obtain ⟨a', n', c', v', p, rfl, rfl, happ, he, hn', hv', hb, hev⟩ := hrel
    have HE := Lib.hid he; have HN := Lib.hid hn'
    have hbz := Nat.le_trans hB hb.size
    clear he hn'
    by_cases hlt : 128 ≤ v'
    · have hd : decide ((128 : Int) ≤ (v' : Int)) = true := by simp; omega
      go_wp2_with (at_builtin; refine app_any rfl _ _ rfl B rfl (happ.alloc _) rfl (Bs.one _ _) (num_room HE.out HN.out hv hn) (le_alloc hbz) ?_; intro a'' c'' w' h1 h1' h2 h3)
      have HG := numr_step hlt HE.out HN.out hb h1 (((Below.refl _ _).alloc hbz _).trans h2) hv' (hev.trans ((Evol.alloc _ _ _).trans h3))
      clear h1 h1' h2 h3 happ
      go_roundw
      case rel => exact ⟨_, _, _, _, _, rfl, by go_num, HG⟩
      case measure => simp [intOf]; omega
    · have hd : decide ((128 : Int) ≤ (v' : Int)) = false := by simp; omega
      have hle' : v' < 256 := by omega
      go_wp2_with (at_builtin; refine app_any rfl _ _ rfl B rfl (happ.alloc _) rfl (Bs.oneN _ _ hle') (num_room HE.out HN.out hv hn) (le_alloc hbz) ?_; intro a'' c'' w' h1 h1' h2 h3)
      go_ret
      refine ⟨_, _, _, rfl, ?_, hb.trans (((Below.refl _ _).alloc hbz _).trans h2), hev.trans ((Evol.alloc _ _ _).trans h3)⟩
      rw [HE.out, Codec.enc_small (by omega), ← List.append_assoc]
      exact h1' (by omega)

theorem low_step {w0 wr w' : World} {B k n v m v' : Nat} {l p : List UInt8} {a'' : Option Addr} {c'' : Nat} (hm : m < k) (he : Codec.low k v = p ++ Codec.low (k - m) v') (hp : p.length = m)
    (hb : Below B w0 wr) (h1 : Own w' B a'' (n + m + 1) c'' ((l ++ p) ++ [UInt8.ofNat v'])) (h2 : Below B wr w') {a : Option Addr} (h4 : Evol w0 a w' a'') :
    Own w' B a'' (n + (m + 1)) c'' (l ++ (p ++ [UInt8.ofNat v'])) ∧ Codec.low k v = (p ++ [UInt8.ofNat v']) ++ Codec.low (k - (m + 1)) (v' / 256) ∧ (p ++ [UInt8.ofNat v']).length = m + 1 ∧ Below B w0 w' ∧ Evol w0 a w' a'' := by
  refine ⟨by rw [← List.append_assoc]; exact h1, ?_, by simp; omega, hb.trans h2, h4⟩
  have : k - m = (k - (m + 1)) + 1 := by omega
  rw [he, this]; simp [Codec.low]

set_option maxHeartbeats 400000 in
theorem low_any (B : Nat) (a : Option Addr) (n c : Nat) (l : List UInt8) (v k : Nat) (w : World) (hB : B ≤ w.heap.size) (h : Own w B a n c l) (hn : n + k ≤ 140737488355328) :
    Calls Try.prog 69 #[.slice a n c, .int .u64 v, .int .i64 k] w (RetE w B a (l ++ Codec.low k v)) := by
  have HN := Lib.hid hn
  have hk : k ≤ 9223372036854775806 := by omega
  clear hn
  go_enter Try.func69, Try.ntmps69
  go_wp2
  go_loopw [0, 1, 8] (fun s x i wr => ∃ (a' : Option Addr) (c' v' m : Nat) (p : List UInt8), m ≤ k ∧ i = .int .i64 m ∧ s = .slice a' (n + m) c' ∧ x = .int .u64 v' ∧ Own wr B a' (n + m) c' (l ++ p) ∧ Codec.low k v = p ++ Codec.low (k - m) v' ∧ p.length = m ∧ Below B w wr ∧ Evol w a wr a') (fun _ _ i _ => k - (intOf i).toNat)
  case atStart => exact ⟨a, c, v, 0, [], by omega, rfl, rfl, rfl, by simpa using h, rfl, rfl, Below.refl _ _, Evol.refl _ _⟩
  case round =>
    obtain ⟨a', c', v', m, p, hm, rfl, rfl, rfl, happ, he, hp, hb, hev⟩ := hrel
    have HE := Lib.hid he; have HP := Lib.hid hp
    have hbz := Nat.le_trans hB hb.size
    clear he hp
    by_cases hlt : m < k
    · go_wp2_with (at_builtin; refine app_own rfl _ _ rfl B rfl (happ.alloc _) rfl (Bs.one _ _) (by have := HN.out; omega) (le_alloc hbz) ?_; intro a'' c'' w' h1 h2 h3)
      have HG := low_step hlt HE.out HP.out hb h1 (((Below.refl _ _).alloc hbz _).trans h2) (hev.trans ((Evol.alloc _ _ _).trans h3))
      clear h1 h2 h3 happ
      go_roundw
      case rel => exact ⟨_, _, _, m + 1, _, by omega, by go_num, rfl, by go_num, HG⟩
      case measure => simp [intOf]; omega
    · obtain rfl : m = k := by omega
      go_wp2
      go_ret
      refine ⟨_, _, _, rfl, ?_, hb, hev⟩
      have := HE.out
      simp [Codec.low] at this
      rw [this]; exact happ

set_option maxHeartbeats 400000 in
theorem four_any (B : Nat) (a : Option Addr) (n c : Nat) (l : List UInt8) (x : UInt32) (w : World) (hB : B ≤ w.heap.size) (h : Own w B a n c l) (hn : n + 4 ≤ 140737488355328) :
    Calls Try.prog 73 #[.slice a n c, .int .u32 (n32 x)] w (RetE w B a (l ++ Codec.four x)) := by
  go_enter Try.func73, Try.ntmps73
  go_wp2_with (at_builtin; refine app_own rfl _ _ rfl B rfl (h.alloc _) rfl (Bs.lit w (Codec.four x) (by simp [Codec.four, maxLen])) hn (le_alloc hB) ?_; intro a'' c'' w' h1 h2 h3)
  go_ret
  exact ⟨_, _, _, rfl, h1, ((Below.refl _ _).alloc hB _).trans h2, (Evol.alloc _ _ _).trans h3⟩
end Go.Proofs.Ytchdmjnhjonddaa
