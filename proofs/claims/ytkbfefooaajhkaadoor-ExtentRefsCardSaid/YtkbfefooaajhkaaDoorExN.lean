/- Keys of heads, chunks, marks. -/
import Derived.Test.YtkbfefooaajhkaaDoorExD
set_option maxRecDepth 100000
set_option linter.unusedVariables false
set_option linter.unusedSimpArgs false
namespace Go.Proofs.YtkbfefooaajhkaaDoor
open Go.RowKit

def Ex.key (id : Nat) : List UInt8 := 120 :: hx 16 id
def Ex.mark (id : Nat) : List UInt8 := 102 :: hx 16 id
def Ex.ck (id n : Nat) : List UInt8 := (120 :: hx 16 id) ++ 45 :: hx 8 n
def Ex.low (z : Int) : Nat := (z % 4294967296).toNat
theorem key_app (c : UInt8) (l : List UInt8) : (⟨#[c]⟩ : ByteArray) ++ bstr l = bstr (c :: l) := bstr_app [c] l
theorem pow16 : (16 : Nat) ^ (15 + 1) = 18446744073709551616 := by decide
theorem pow8 : (16 : Nat) ^ (7 + 1) = 4294967296 := by decide
set_option maxHeartbeats 1000000 in
theorem key_any (id : Nat) (hu : U64 id) (w : World) (hL : Laid w) : Calls Tryd.prog 16 #[.int .u64 id] w fun e w' => e = .returned (.string (bstr (Ex.key id))) ∧ Below w.heap.size w w' := by
  have HX := Lib.hid (hex_any id 15 hu (by omega) (by rw [pow16]; exact hu.lt) w hL)
  have e1 := key_app 120 (hx 16 id)
  have e2 := bstr_size (hx 16 id)
  rw [hx_len] at e2
  unfold Ex.key
  clear hL
  generalize hx 16 id = l at *
  go_enter Tryd.func16, Tryd.ntmps16
  go_wp2_with fail
  refine HX.out.mono ?_
  rintro e w' ⟨rfl, hb⟩
  have HB := Lib.hid hb
  clear hb HX
  go_wp2
  go_ret
  exact ⟨rfl, HB.out⟩
set_option maxHeartbeats 1000000 in
theorem mark_any (id : Nat) (hu : U64 id) (w : World) (hL : Laid w) : Calls Tryd.prog 20 #[.int .u64 id] w fun e w' => e = .returned (.string (bstr (Ex.mark id))) ∧ Below w.heap.size w w' := by
  have HX := Lib.hid (hex_any id 15 hu (by omega) (by rw [pow16]; exact hu.lt) w hL)
  have e1 := key_app 102 (hx 16 id)
  have e2 := bstr_size (hx 16 id)
  rw [hx_len] at e2
  unfold Ex.mark
  clear hL
  generalize hx 16 id = l at *
  go_enter Tryd.func20, Tryd.ntmps20
  go_wp2_with fail
  refine HX.out.mono ?_
  rintro e w' ⟨rfl, hb⟩
  have HB := Lib.hid hb
  clear hb HX
  go_wp2
  go_ret
  exact ⟨rfl, HB.out⟩
set_option maxHeartbeats 1000000 in
theorem rkey_any (id : Nat) (hu : U64 id) (w : World) : Calls Tryd.prog 17 #[.int .u64 id] w fun e w' => e = .returned (.string (bstr (Ex.key id))) ∧ Below w.heap.size w w' := by
  have HX := Lib.hid (rhex_any id hu w)
  have e1 := key_app 120 (hx 16 id)
  have e2 := bstr_size (hx 16 id)
  rw [hx_len] at e2
  unfold Ex.key
  generalize hx 16 id = l at *
  go_enter Tryd.func17, Tryd.ntmps17
  go_wp2_with fail
  refine HX.out.mono ?_
  rintro e w' ⟨rfl, hb⟩
  have HB := Lib.hid hb
  clear hb HX
  go_wp2
  go_ret
  exact ⟨rfl, HB.out⟩
set_option maxHeartbeats 1000000 in
theorem rmark_any (id : Nat) (hu : U64 id) (w : World) : Calls Tryd.prog 21 #[.int .u64 id] w fun e w' => e = .returned (.string (bstr (Ex.mark id))) ∧ Below w.heap.size w w' := by
  have HX := Lib.hid (rhex_any id hu w)
  have e1 := key_app 102 (hx 16 id)
  have e2 := bstr_size (hx 16 id)
  rw [hx_len] at e2
  unfold Ex.mark
  generalize hx 16 id = l at *
  go_enter Tryd.func21, Tryd.ntmps21
  go_wp2_with fail
  refine HX.out.mono ?_
  rintro e w' ⟨rfl, hb⟩
  have HB := Lib.hid hb
  clear hb HX
  go_wp2
  go_ret
  exact ⟨rfl, HB.out⟩
set_option maxHeartbeats 1000000 in
theorem ck_any (id : Nat) (z : Int) (hu : U64 id) (w : World) (hL : Laid w) : Calls Tryd.prog 18 #[.int .u64 id, .int .i64 z] w fun e w' => e = .returned (.string (bstr (Ex.ck id (Ex.low z)))) ∧ Below w.heap.size w w' := by
  have HK := Lib.hid (fun W (h : Laid W) => key_any id hu W h)
  have hlo : Ex.low z < 4294967296 := by unfold Ex.low; omega
  have e0 : z % 4294967296 = ((Ex.low z : Nat) : Int) := by unfold Ex.low; omega
  have HX := Lib.hid (fun W (h : Laid W) => hex_any (Ex.low z) 7 ⟨by omega⟩ (by omega) (by rw [pow8]; exact hlo) W h)
  have HLD := Lib.hid hL
  generalize Ex.low z = n at *
  have e1 : bstr (Ex.key id) ++ (⟨#[45]⟩ : ByteArray) = bstr (Ex.key id ++ [45]) := bstr_app _ [45]
  have e2 := bstr_app (Ex.key id ++ [45]) (hx 8 n)
  have e3 := bstr_size (Ex.key id)
  have e4 := bstr_size (Ex.key id ++ [45])
  have e5 := bstr_size (hx 8 n)
  have hkl : (Ex.key id).length = 17 := by unfold Ex.key; rw [List.length_cons, hx_len]
  rw [hkl] at e3
  rw [List.length_append, hkl] at e4
  rw [hx_len] at e5
  have HCK : Hid (Ex.ck id n = Ex.key id ++ 45 :: hx 8 n) := Lib.hid rfl
  rw [HCK.out]
  have e4' : (bstr (Ex.key id ++ [45])).size = 18 := e4
  clear hL e4 hkl HCK
  generalize Ex.key id = kl at *
  generalize hx 8 n = l at *
  go_enter Tryd.func18, Tryd.ntmps18
  go_wp2_with fail
  refine (HK.out _ HLD.out).mono ?_
  rintro e w1 ⟨rfl, hb⟩
  have HB := Lib.hid hb
  have HLD1 := Lib.hid (HLD.out.below hb)
  clear hb HK
  go_wp2_with fail
  refine (HX.out _ HLD1.out).mono ?_
  rintro e w2 ⟨rfl, hb⟩
  have HB2 := Lib.hid (HB.out.trans (hb.mono HB.out.size))
  clear hb HX
  go_wp2
  go_ret
  exact ⟨rfl, HB2.out⟩
theorem hx_mod : ∀ (d n m : Nat), n % 16 ^ d = m % 16 ^ d → hx d n = hx d m
  | 0, _, _, _ => rfl
  | d + 1, n, m, h => by
    rw [Nat.pow_succ, Nat.mul_comm] at h
    have h1 : n % 16 = m % 16 := by
      have := congrArg (· % 16) h
      simpa [Nat.mod_mul_right_mod] using this
    have h2 : n / 16 % 16 ^ d = m / 16 % 16 ^ d := by
      have e := fun k : Nat => Nat.mod_mul (x := k) (a := 16) (b := 16 ^ d)
      rw [e n, e m, h1] at h
      omega
    rw [hx, hx, h1, hx_mod d _ _ h2]
theorem hx_drop : ∀ (a b n : Nat), (hx (a + b) n).drop a = hx b n
  | a, 0, n => by rw [List.drop_eq_nil_of_le (by rw [hx_len]; omega)]; rfl
  | a, b + 1, n => by
    rw [show a + (b + 1) = (a + b) + 1 by omega, hx, List.drop_append_of_le_length (by rw [hx_len]; omega), hx_drop a b]
    rfl
theorem bstr_cut (l : List UInt8) (k n : Nat) (h : l.length = n) : (bstr l).extract k n = bstr (l.drop k) := by
  apply ByteArray.ext
  simp [bstr, ByteArray.data_extract]
  rw [List.take_of_length_le (by simp; omega)]
set_option maxHeartbeats 1000000 in
theorem rck_any (id : Nat) (z : Int) (hu : U64 id) (hz : -9223372036854775808 ≤ z ∧ z ≤ 9223372036854775807) (w : World) : Calls Tryd.prog 19 #[.int .u64 id, .int .i64 z] w fun e w' => e = .returned (.string (bstr (Ex.ck id (Ex.low z)))) ∧ Below w.heap.size w w' := by
  obtain ⟨u, hu0⟩ : ∃ u : Nat, (u : Int) = z % 18446744073709551616 := ⟨(z % 18446744073709551616).toNat, by omega⟩
  have hu2 : u < 18446744073709551616 := by omega
  have HK := Lib.hid (fun W => rkey_any id hu W)
  have HX := Lib.hid (fun W => rhex_any u ⟨hu2⟩ W)
  have e0 : IntKind.u64.wrap z = (u : Int) := by rw [IntKind.wrap_u64]; omega
  have hl8 : (hx 16 u).drop 8 = hx 8 (Ex.low z) := by
    rw [hx_drop 8 8 u]
    refine hx_mod 8 _ _ ?_
    unfold Ex.low
    have : (16 : Nat) ^ 8 = 4294967296 := by decide
    rw [this]
    omega
  have e6 := bstr_cut (hx 16 u) 8 16 (hx_len 16 u)
  rw [hl8] at e6
  have e1 : bstr (Ex.key id) ++ (⟨#[45]⟩ : ByteArray) = bstr (Ex.key id ++ [45]) := bstr_app _ [45]
  have e2 := bstr_app (Ex.key id ++ [45]) (hx 8 (Ex.low z))
  have e3 := bstr_size (Ex.key id)
  have e4 := bstr_size (Ex.key id ++ [45])
  have e5 := bstr_size (hx 8 (Ex.low z))
  have e7 := bstr_size (hx 16 u)
  have hkl : (Ex.key id).length = 17 := by unfold Ex.key; rw [List.length_cons, hx_len]
  rw [hkl] at e3
  rw [List.length_append, hkl] at e4
  rw [hx_len] at e5 e7
  have HCK : Hid (Ex.ck id (Ex.low z) = Ex.key id ++ 45 :: hx 8 (Ex.low z)) := Lib.hid rfl
  rw [HCK.out]
  have e4' : (bstr (Ex.key id ++ [45])).size = 18 := e4
  clear e4 hkl HCK hl8 hu0 hu2 hz
  generalize Ex.key id = kl at *
  generalize hx 8 (Ex.low z) = l at *
  generalize hx 16 u = g at *
  go_enter Tryd.func19, Tryd.ntmps19
  go_wp2_with fail
  refine (HK.out _).mono ?_
  rintro e w1 ⟨rfl, hb⟩
  have HB := Lib.hid hb
  clear hb HK
  go_wp2_with fail
  refine (HX.out _).mono ?_
  rintro e w2 ⟨rfl, hb⟩
  have HB2 := Lib.hid (HB.out.trans (hb.mono HB.out.size))
  clear hb HX
  go_wp2
  go_ret
  exact ⟨rfl, HB2.out⟩
end Go.Proofs.YtkbfefooaajhkaaDoor
