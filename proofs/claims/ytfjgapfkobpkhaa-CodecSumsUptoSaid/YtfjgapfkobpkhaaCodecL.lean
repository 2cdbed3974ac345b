/- The walks of the laws CodecSums, CodecGrows. -/
import Derived.Test.YtfjgapfkobpkhaaCodecK
namespace Go.Proofs.Ytfjgapfkobpkhaa
open Go.RowKit

set_option maxHeartbeats 1000000 in
theorem codecSums_walk (a : Option Addr) (n c : Nat) (ls : List (List UInt8)) (w : World) (h : Bss w a n c ls) (hf : Fits (tot ls)) :
    Calls Try.prog 3 #[.slice a n c] w fun e w' => e = .returned (.bool true) ∧ Below w.heap.size w w' := by
  go_enter Try.func3, Try.ntmps3
  go_wp2_with fail
  refine (known_any _).mono ?_
  rintro e w1 ⟨rfl, hb1⟩
  have h1 := h.below hb1
  go_wp2_with fail
  refine (total_any _ _ _ ls _ h1 hf).mono ?_
  rintro e w2 ⟨rfl, rfl⟩
  by_cases ht : 65536 < tot ls
  · have t1 : decide ((65536 : Int) < (tot ls : Int)) = true := by simp; omega
    go_wp2
    go_ret
    exact ⟨rfl, hb1⟩
  · have t1 : decide ((65536 : Int) < (tot ls : Int)) = false := by simp; omega
    by_cases hn : 1000 < n
    · have t2 : decide ((1000 : Int) < (n : Int)) = true := by simp; omega
      go_wp2
      go_ret
      exact ⟨rfl, hb1⟩
    · have t2 : decide ((1000 : Int) < (n : Int)) = false := by simp; omega
      go_wp2_with fail
      refine (sum_any _ _ _ ls _ h1).mono ?_
      rintro e w2 ⟨rfl, hb2⟩
      have hb2' := hb1.trans (hb2.mono hb1.size)
      go_wp2_with fail
      refine (joined_any _ _ _ ls _ (h.below hb2') hf).mono ?_
      rintro e w3 ⟨a3, n3, c3, rfl, ho, hb3⟩
      have hb3' := hb2'.trans (hb3.mono hb2'.size)
      go_wp2_with fail
      refine (refsum_any _ _ _ ls.flatten _ ho.bs).mono ?_
      rintro e w4 ⟨rfl, rfl⟩
      go_wp2
      go_ret
      exact ⟨rfl, hb3'⟩

theorem grow_same {x y : Nat} (hx : U64 x) (hy : U64 y) (hne : x ≠ y) {m : Nat} (hm : (Codec.enc x).length = m) : decide (Codec.enc x = (Codec.enc y).take m) = false := by
  rw [decide_eq_false_iff_not]
  intro h
  subst hm
  exact hne (Codec.enc_prefix hx.lt hy.lt h)

set_option maxHeartbeats 1000000 in
theorem codecGrows_up (x y : Nat) (w : World) (hx : U64 x) (hy : U64 y) (hlt : x ≤ y) :
    Calls Try.prog 4 #[.int .u64 x, .int .u64 y] w fun e w' => e = .returned (.bool true) ∧ Below w.heap.size w w' := by
  have hsw : decide (y < x) = false := by simp; omega
  go_enter Try.func4, Try.ntmps4
  go_wp2_with fail
  refine (known_any _).mono ?_
  rintro e w1 ⟨rfl, hb1⟩
  go_wp2_with fail
  refine (number_any _ _ _ [] x _ (Bs.nil _) hx ⟨by omega⟩).mono ?_
  rintro e w2 ⟨a2, n2, c2, rfl, ho2, hb2⟩
  have hb2' := hb1.trans (hb2.mono hb1.size)
  go_wp2_with fail
  refine (number_any _ _ _ [] y _ (Bs.nil _) hy ⟨by omega⟩).mono ?_
  rintro e w3 ⟨a3, n3, c3, rfl, ho3, hb3⟩
  have hb3' := hb2'.trans (hb3.mono hb2'.size)
  have ho2' := ho2.below hb3
  have l2 : (Codec.enc x).length = n2 := ho2.bs.1
  have l3 : (Codec.enc y).length = n3 := ho3.bs.1
  have h1 := Codec.enc_mono (y + 1) x y (by omega) hlt
  have h2 := Codec.enc_len10 hy.lt
  have h3 := Codec.enc_pos x
  have t1 : decide (n3 < n2) = false := by simp; omega
  have t2 : decide ((10 : Int) < (n3 : Int)) = false := by simp; omega
  have t3 : decide ((n2 : Int) < 1) = false := by simp; omega
  have L2 := Lib.hid l2
  have hle : n2 ≤ n3 := by omega
  have hc3 := ho3.bs.2.1
  have hc3' := ho3.bs.2.2.1
  have hle3 := ho3.bs.le
  clear l2 l3 h1 h2 h3
  by_cases he : x = y
  · have t4 : ((x : Int) == (y : Int)) = true := by simp; omega
    have HE := Lib.hid he; clear he
    go_wp2_with fail
    go_ret
    exact ⟨rfl, hb3'⟩
  · have t4 : ((x : Int) == (y : Int)) = false := by simp; omega
    go_wp2_with fail
    refine (same_any _ _ _ _ _ _ _ _ _ ho2'.bs (ho3.bs.take hle)).mono ?_
    rintro e w4 ⟨rfl, rfl⟩
    have t5 : decide ([] ++ Codec.enc x = List.take n2 ([] ++ Codec.enc y)) = false := grow_same hx hy he L2.out
    rw [t5]
    go_wp2_with fail
    go_ret
    exact ⟨rfl, hb3'⟩
set_option maxHeartbeats 1000000 in
theorem codecGrows_down (x y : Nat) (w : World) (hx : U64 x) (hy : U64 y) (hlt : x ≤ y) (hsw : decide (x < y) = true) :
    Calls Try.prog 4 #[.int .u64 y, .int .u64 x] w fun e w' => e = .returned (.bool true) ∧ Below w.heap.size w w' := by
  go_enter Try.func4, Try.ntmps4
  go_wp2_with fail
  refine (known_any _).mono ?_
  rintro e w1 ⟨rfl, hb1⟩
  go_wp2_with fail
  refine (number_any _ _ _ [] x _ (Bs.nil _) hx ⟨by omega⟩).mono ?_
  rintro e w2 ⟨a2, n2, c2, rfl, ho2, hb2⟩
  have hb2' := hb1.trans (hb2.mono hb1.size)
  go_wp2_with fail
  refine (number_any _ _ _ [] y _ (Bs.nil _) hy ⟨by omega⟩).mono ?_
  rintro e w3 ⟨a3, n3, c3, rfl, ho3, hb3⟩
  have hb3' := hb2'.trans (hb3.mono hb2'.size)
  have ho2' := ho2.below hb3
  have l2 : (Codec.enc x).length = n2 := ho2.bs.1
  have l3 : (Codec.enc y).length = n3 := ho3.bs.1
  have h1 := Codec.enc_mono (y + 1) x y (by omega) hlt
  have h2 := Codec.enc_len10 hy.lt
  have h3 := Codec.enc_pos x
  have t1 : decide (n3 < n2) = false := by simp; omega
  have t2 : decide ((10 : Int) < (n3 : Int)) = false := by simp; omega
  have t3 : decide ((n2 : Int) < 1) = false := by simp; omega
  have L2 := Lib.hid l2
  have hle : n2 ≤ n3 := by omega
  have hc3 := ho3.bs.2.1
  have hc3' := ho3.bs.2.2.1
  have hle3 := ho3.bs.le
  clear l2 l3 h1 h2 h3
  by_cases he : x = y
  · have t4 : ((x : Int) == (y : Int)) = true := by simp; omega
    have HE := Lib.hid he; clear he
    go_wp2_with fail
    go_ret
    exact ⟨rfl, hb3'⟩
  · have t4 : ((x : Int) == (y : Int)) = false := by simp; omega
    go_wp2_with fail
    refine (same_any _ _ _ _ _ _ _ _ _ ho2'.bs (ho3.bs.take hle)).mono ?_
    rintro e w4 ⟨rfl, rfl⟩
    have t5 : decide ([] ++ Codec.enc x = List.take n2 ([] ++ Codec.enc y)) = false := grow_same hx hy he L2.out
    rw [t5]
    go_wp2_with fail
    go_ret
    exact ⟨rfl, hb3'⟩
theorem codecGrows_walk (x y : Nat) (w : World) (hx : U64 x) (hy : U64 y) :
    Calls Try.prog 4 #[.int .u64 x, .int .u64 y] w fun e w' => e = .returned (.bool true) ∧ Below w.heap.size w w' := by
  by_cases h : x ≤ y
  · exact codecGrows_up x y w hx hy h
  · exact codecGrows_down y x w hy hx (by omega) (by simp; omega)
end Go.Proofs.Ytfjgapfkobpkhaa
