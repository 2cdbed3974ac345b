/- strconv.FormatUint by sixteen. -/
import Derived.Test.YtkbfefooaajhkaaDoorExH
set_option maxRecDepth 100000
set_option linter.unusedVariables false
set_option linter.unusedSimpArgs false
namespace Go.Proofs.YtkbfefooaajhkaaDoor
open Go.RowKit

/-! Digits, plain. -/
def dg (x : Nat) : UInt8 := if x < 10 then UInt8.ofNat (48 + x) else UInt8.ofNat (87 + x)
/-- The last d digits of a number. -/
def hx : Nat → Nat → List UInt8
  | 0, _ => []
  | d + 1, n => hx d (n / 16) ++ [dg (n % 16)]
theorem hx_len : ∀ (d n : Nat), (hx d n).length = d
  | 0, _ => rfl
  | d + 1, n => by simp [hx, hx_len d]
def hxf (n : Nat) : List UInt8 := if h : n < 16 then [dg n] else hxf (n / 16) ++ [dg (n % 16)]
termination_by n
decreasing_by omega
theorem hxf_small {n : Nat} (h : n < 16) : hxf n = [dg n] := by rw [hxf, dif_pos h]
theorem hxf_big {n : Nat} (h : 16 ≤ n) : hxf n = hxf (n / 16) ++ [dg (n % 16)] := by rw [hxf, dif_neg (by omega)]
theorem hx_zero : ∀ d, hx d 0 = List.replicate d 48
  | 0 => rfl
  | d + 1 => by rw [hx, Nat.zero_div, hx_zero d, List.replicate_succ']; rfl
theorem hxf_pos (n : Nat) : 0 < (hxf n).length := by rw [hxf]; split <;> simp
theorem hx_of : ∀ (d n : Nat), n < 16 ^ (d + 1) → (hxf n).length ≤ d + 1 ∧ hx (d + 1) n = List.replicate (d + 1 - (hxf n).length) 48 ++ hxf n
  | 0, n, h => by
    have h' : n < 16 := by simpa using h
    rw [hxf_small h']
    simp [hx, Nat.mod_eq_of_lt h']
  | d + 1, n, h => by
    by_cases h' : n < 16
    · rw [hxf_small h']
      refine ⟨by simp, ?_⟩
      rw [hx, Nat.div_eq_of_lt h', hx_zero, Nat.mod_eq_of_lt h']
      simp
    · obtain ⟨h1, h2⟩ := hx_of d (n / 16) (by rw [Nat.div_lt_iff_lt_mul (by decide)]; rw [Nat.pow_succ] at h; exact h)
      rw [hxf_big (by omega)]
      refine ⟨by simp; omega, ?_⟩
      rw [hx, h2, List.append_assoc]
      congr 2
      simp
theorem dg_at : ∀ x, x < 16 → (([48, 49, 50, 51, 52, 53, 54, 55, 56, 57, 97, 98, 99, 100, 101, 102, 103, 104, 105, 106, 107, 108, 109, 110, 111, 112, 113, 114, 115, 116, 117, 118, 119, 120, 121, 122] : List UInt8))[x]? = some (dg x) := by decide +kernel
theorem digit36 (x : Nat) (hx : x < 16) (h : x < ByteArray.size ⟨#[48, 49, 50, 51, 52, 53, 54, 55, 56, 57, 97, 98, 99, 100, 101, 102, 103, 104, 105, 106, 107, 108, 109, 110, 111, 112, 113, 114, 115, 116, 117, 118, 119, 120, 121, 122]⟩) :
    (((⟨#[48, 49, 50, 51, 52, 53, 54, 55, 56, 57, 97, 98, 99, 100, 101, 102, 103, 104, 105, 106, 107, 108, 109, 110, 111, 112, 113, 114, 115, 116, 117, 118, 119, 120, 121, 122]⟩ : ByteArray)[x]'h).toNat : Int) = n8 (dg x) := by
  obtain rfl | rfl | rfl | rfl | rfl | rfl | rfl | rfl | rfl | rfl | rfl | rfl | rfl | rfl | rfl | rfl : x = 0 ∨ x = 1 ∨ x = 2 ∨ x = 3 ∨ x = 4 ∨ x = 5 ∨ x = 6 ∨ x = 7 ∨ x = 8 ∨ x = 9 ∨ x = 10 ∨ x = 11 ∨ x = 12 ∨ x = 13 ∨ x = 14 ∨ x = 15 := by omega
  all_goals rfl
theorem below_alloc1 (w : World) (o : Obj) : Below w.heap.size w (w.alloc o) := (Below.refl _ _).alloc (Nat.le_refl _) o
/-- The digits that are laid: r fills the array from i on. -/
def Laying (A : Array Value) (i : Nat) (r : List UInt8) : Prop := A.size = 65 ∧ i + r.length = 65 ∧ ∀ j, j < r.length → A[i + j]? = some (.int .u8 (n8 (nth r j)))
theorem Laying.step {A : Array Value} {i : Nat} {r : List UInt8} (h : Laying A (i + 1) r) (d : UInt8) : Laying (A.setIfInBounds i (.int .u8 (n8 d))) i (d :: r) := by
  obtain ⟨h1, h2, h3⟩ := h
  refine ⟨by simpa using h1, by simp; omega, fun j hj => ?_⟩
  rw [Array.getElem?_setIfInBounds]
  cases j with
  | zero => rw [if_pos (by omega), if_pos (by omega)]; rfl
  | succ j =>
    rw [if_neg (by omega)]
    have := h3 j (by simpa using hj)
    rw [show i + (j + 1) = i + 1 + j by omega, this]
    rfl
theorem and_15 (u : Nat) (h : u < 18446744073709551616) : bits .and .u64 (u : Int) 15 = ((u % 16 : Nat) : Int) := by
  have h1 := u64_and_nat u 15 (by omega) (by decide)
  rw [show ((15 : Nat) : Int) = 15 from rfl] at h1
  rw [h1, show (15 : Nat) = 2 ^ 4 - 1 from rfl, Nat.and_two_pow_sub_one_eq_mod]
theorem Laying.bs {A : Array Value} {i : Nat} {r : List UInt8} (h : Laying A i r) (w : World) : Bs (w.alloc (.cells A 124)) (some ⟨w.heap.size, i, none⟩) (65 - i) (65 - i) r := by
  obtain ⟨h1, h2, h3⟩ := h
  refine ⟨by omega, Nat.le_refl _, by simp [maxLen]; omega, fun j v hj => ⟨w.heap.size, i, rfl, ?_⟩⟩
  rw [cell_of_row _ _ _ _ _ _ (heap_alloc_new w _)]
  have hjl : j < r.length := by have := (List.getElem?_eq_some_iff.1 hj).1; rwa [vs_len] at this
  have h4 := h3 j hjl
  rw [h4]
  rw [← hj]
  simp [vs, nth_eq _ hjl, List.getElem?_eq_getElem hjl]
theorem al65 : Tryd.prog.arrayLen 124 = 65 := by kernel_rfl
theorem sl65 (g k : Nat) (hk : k ≤ 65) (h1 : k ≠ 65) (W : World) : (Instr.sliceAt 124 (.pointer (some ⟨g, 0, none⟩)) (some (.int .i64 (k : Int))) none none).run Tryd.prog W = .ok (.slice (some ⟨g, k, none⟩) (65 - k) (65 - k)) W := by
  have h := run_sliceAt_array_l (P := Tryd.prog) W 124 ⟨g, 0, none⟩ (by kernel_rfl) .i64 (k : Int) (by omega) (by rw [al65]; omega)
  obtain ⟨i, hi, hz, g1, g2⟩ := info_parts info8
  have he : Tryd.prog.elem 124 = 5 := by kernel_rfl
  rw [h, he]
  simp [sizeOf, typeInfo, hi, g1, slicedAt, al65]
  rw [if_neg (by omega)]
  simp [Addr.add_lit]
set_option maxHeartbeats 4000000 in
theorem fbits_any (n : Nat) (hn : U64 n) (w : World) (hL : Laid w) :
    Calls Tryd.prog 69 #[.slice none 0 0, .int .u64 n, .int .i64 16, .bool false, .bool false] w fun e w' => e = .returned (.tuple #[.slice none 0 0, .string (bstr (hxf n))]) ∧ Below w.heap.size w w' := by
  go_enter Tryd.func69, Tryd.ntmps69
  go_wp2_with fail
  refine (pow2_16 _).mono ?_
  rintro e w' ⟨rfl, rfl⟩
  go_wp2_with fail
  refine (tz_16 _ (hL.below (below_alloc1 _ _))).mono ?_
  rintro e w' ⟨rfl, rfl⟩
  go_wp2_with fail
  have hn64 := hn.lt
  go_loopw [1, 13] (fun u iv wr => ∃ (us i : Nat) (A : Array Value) (r : List UInt8), u = .int .u64 us ∧ iv = .int .i64 i ∧ Hid (Laying A i r) ∧ 50 ≤ i ∧ i ≤ 65 ∧ us < 16 ^ (i - 49) ∧ Hid (hxf us ++ r = hxf n) ∧ wr = w.alloc (.cells A 124)) (fun _ iv _ => (intOf iv).toNat)
  case atStart => exact ⟨n, 65, _, [], rfl, rfl, Lib.hid ⟨by kernel_rfl, rfl, fun j hj => by simp at hj⟩, by omega, by omega, by simpa using hn64, Lib.hid (by simp), rfl⟩
  case round =>
    obtain ⟨us, i, A, r, rfl, rfl, hA, hi, hi2, hus, hto, rfl⟩ := hrel
    by_cases hlt : 16 ≤ us
    · obtain ⟨k, rfl⟩ : ∃ k, i = k + 1 := ⟨i - 1, by omega⟩
      have hk : 50 ≤ k := by
        rcases Nat.lt_or_ge k 50 with h | h
        · obtain rfl : k = 49 := by omega
          simp at hus; omega
        · exact h
      have hus2 : us / 16 < 16 ^ (k - 49) := by
        rw [show k + 1 - 49 = (k - 49) + 1 by omega, Nat.pow_succ] at hus
        rw [Nat.div_lt_iff_lt_mul (by decide)]; exact hus
      have HX : Hid (hxf (us / 16) ++ (dg (us % 16) :: r) = hxf n) := Lib.hid (by rw [← hto.out, hxf_big hlt]; simp)
      have HS := Lib.hid (hA.out.step (dg (us % 16)))
      have HAS := Lib.hid hA.out.1
      obtain ⟨v, hv⟩ : ∃ v, A[k]? = some v := ⟨_, Array.getElem?_eq_getElem (by rw [hA.out.1]; omega)⟩
      have HD := Lib.hid (fun h => digit36 (us % 16) (Nat.mod_lt _ (by decide)) h)
      have e1 : bits .and .u64 (us : Int) 15 = ((us % 16 : Nat) : Int) := and_15 us (Nat.lt_of_lt_of_le hus (Nat.le_trans (Nat.pow_le_pow_right (by decide) (show k + 1 - 49 ≤ 16 by omega)) (by decide)))
      obtain ⟨q, hq⟩ : ∃ q, q = us / 16 := ⟨_, rfl⟩
      have e2 : (us : Int) / 16 = (q : Int) := by omega
      rw [← hq] at hus2 HX
      have HU2 := Lib.hid hus2
      have t1 : decide ((16 : Int) ≤ (us : Int)) = true := decide_eq_true (by omega)
      have hm16 : us % 16 < 16 := Nat.mod_lt _ (by decide)
      have hm36 : us % 16 < 36 := by omega
      obtain ⟨m, hm⟩ : ∃ m, m = us % 16 := ⟨_, rfl⟩
      rw [← hm] at e1 HX HS HD hm16 hm36
      clear hus hus2 hq hm
      go_wp2
      go_roundw
      case rel => exact ⟨q, k, _, dg m :: r, rfl, rfl, HS, hk, by omega, HU2.out, HX, by rw [HD.out]⟩
      case measure => simp [intOf]
    · obtain ⟨k, rfl⟩ : ∃ k, i = k + 1 := ⟨i - 1, by omega⟩
      have hr : hxf us = [dg us] := hxf_small (by omega)
      have HX : Hid (dg us :: r = hxf n) := Lib.hid (by rw [← hto.out, hr]; rfl)
      have HS := Lib.hid (hA.out.step (dg us))
      obtain ⟨v, hv⟩ : ∃ v, A[k]? = some v := ⟨_, Array.getElem?_eq_getElem (by rw [hA.out.1]; omega)⟩
      have HD := Lib.hid (fun h => digit36 us (by omega) h)
      have hm36 : us < 36 := by omega
      have hm16 : us < 16 := by omega
      have t1 : decide ((16 : Int) ≤ (us : Int)) = false := decide_eq_false (by omega)
      have hsa := fun W => sl65 w.heap.size k (by omega) (by omega) W
      have hcv := conv_bytes (HS.out.bs w)
      rw [HX.out] at hcv
      have hD := HD.out
      clear hus hr
      go_wp2
      go_ret2
      exact ⟨rfl, below_alloc1 _ _⟩
theorem ifmt_any (n : Nat) (hn : U64 n) (w : World) (hL : Laid w) :
    Calls Tryd.prog 58 #[.int .u64 n, .int .i64 16] w fun e w' => e = .returned (.string (bstr (hxf n))) ∧ Below w.heap.size w w' := by
  have HF := Lib.hid (fbits_any n hn w hL)
  clear hL
  go_enter Tryd.func58, Tryd.ntmps58
  go_wp2_with fail
  refine HF.out.mono ?_
  rintro e w' ⟨rfl, hb⟩
  have HB := Lib.hid hb
  clear hb
  go_wp2
  go_ret
  exact ⟨rfl, HB.out⟩
theorem fmt_any (n : Nat) (hn : U64 n) (w : World) (hL : Laid w) :
    Calls Tryd.prog 53 #[.int .u64 n, .int .i64 16] w fun e w' => e = .returned (.string (bstr (hxf n))) ∧ Below w.heap.size w w' := by
  have HF := Lib.hid (ifmt_any n hn w hL)
  clear hL
  go_enter Tryd.func53, Tryd.ntmps53
  go_wp2_with fail
  refine HF.out.mono ?_
  rintro e w' ⟨rfl, hb⟩
  have HB := Lib.hid hb
  clear hb
  go_wp2
  go_ret
  exact ⟨rfl, HB.out⟩
theorem bstr_app (a b : List UInt8) : bstr a ++ bstr b = bstr (a ++ b) := by
  apply ByteArray.ext
  simp [bstr]
theorem bstr_size (a : List UInt8) : (bstr a).size = a.length := by simp [bstr, ByteArray.size]
set_option maxHeartbeats 1000000 in
theorem hex_any (n d : Nat) (hn : U64 n) (hd : d ≤ 15) (h : n < 16 ^ (d + 1)) (w : World) (hL : Laid w) :
    Calls Tryd.prog 42 #[.int .u64 n, .int .i64 ((d + 1 : Nat) : Int)] w fun e w' => e = .returned (.string (bstr (hx (d + 1) n))) ∧ Below w.heap.size w w' := by
  have HF := Lib.hid (fmt_any n hn w hL)
  obtain ⟨h1, h2⟩ := hx_of d n h
  have h3 := hxf_pos n
  obtain ⟨D, hD⟩ : ∃ D, D = d + 1 := ⟨_, rfl⟩
  rw [← hD] at h1 h2 ⊢
  obtain ⟨k, hk⟩ : ∃ k, k = D - (hxf n).length := ⟨_, rfl⟩
  have HX : Hid (hx D n = List.replicate k 48 ++ hxf n) := Lib.hid (by rw [h2, hk])
  have e1 : (D : Int) - ((hxf n).length : Int) = (k : Int) := by omega
  have e2 := bstr_size (hxf n)
  have e3 := bstr_app (List.replicate k 48) (hxf n)
  have e4 : (bstr (List.replicate k 48)).size = k := by rw [bstr_size, List.length_replicate]
  have hkb : k ≤ 16 := by omega
  have hDb : D ≤ 16 := by omega
  have hlb : (hxf n).length ≤ 16 := by omega
  have HK := Lib.hid (fun w => repeat_any k hkb w)
  rw [HX.out]
  clear h1 h2 h3 hD hk h hL
  generalize hxf n = l at *
  generalize l.length = N at *
  go_enter Tryd.func42, Tryd.ntmps42
  go_wp2_with fail
  refine HF.out.mono ?_
  rintro e w1 ⟨rfl, hb1⟩
  have HB := Lib.hid hb1
  clear hb1
  go_wp2_with fail
  refine (HK.out _).mono ?_
  rintro e w2 ⟨rfl, rfl⟩
  go_wp2
  go_ret
  exact ⟨rfl, HB.out⟩
/-! The reference's digits. -/
theorem hx_at : ∀ (d n j : Nat), j < d → (hx d n)[j]? = some (dg (n / 16 ^ (d - 1 - j) % 16))
  | 0, _, _, h => by omega
  | d + 1, n, j, h => by
    rw [hx]
    by_cases e : j = d
    · subst e
      rw [List.getElem?_append_right (by rw [hx_len]; exact Nat.le_refl _), hx_len]
      simp
    · rw [List.getElem?_append_left (by rw [hx_len]; omega), hx_at d (n / 16) j (by omega)]
      rw [Nat.div_div_eq_div_mul, show d + 1 - 1 - j = (d - 1 - j) + 1 by omega, Nat.pow_succ, Nat.mul_comm (16 ^ (d - 1 - j)) 16]
set_option maxHeartbeats 1000000 in
theorem digit_any (x : Nat) (hx : x < 16) (w : World) : Calls Tryd.prog 55 #[.int .u8 x, .int .u8 97] w fun e w' => e = .returned (.int .u8 (n8 (dg x))) ∧ w = w' := by
  obtain rfl | rfl | rfl | rfl | rfl | rfl | rfl | rfl | rfl | rfl | rfl | rfl | rfl | rfl | rfl | rfl : x = 0 ∨ x = 1 ∨ x = 2 ∨ x = 3 ∨ x = 4 ∨ x = 5 ∨ x = 6 ∨ x = 7 ∨ x = 8 ∨ x = 9 ∨ x = 10 ∨ x = 11 ∨ x = 12 ∨ x = 13 ∨ x = 14 ∨ x = 15 := by omega
  all_goals
    go_enter Tryd.func55, Tryd.ntmps55
    go_wp2
    go_ret
    exact ⟨rfl, rfl⟩
set_option maxHeartbeats 1000000 in
theorem rhex_any (u : Nat) (hu : U64 u) (w : World) : Calls Tryd.prog 43 #[.int .u64 u] w fun e w' => e = .returned (.string (bstr (hx 16 u))) ∧ Below w.heap.size w w' := by
  have hu64 := hu.lt
  go_enter Tryd.func43, Tryd.ntmps43
  go_wp2_with fail
  go_loopw [3, 4] (fun b iv wr => ∃ (t m co : Nat) (ao : Option Addr), t ≤ 16 ∧ m = 16 - t ∧ iv = .int .i64 (4 * (t : Int) - 4) ∧ b = .slice ao m co ∧ Hid (Own wr w.heap.size ao m co ((hx 16 u).take (16 - t))) ∧ Hid (Below w.heap.size w wr)) (fun _ iv _ => (intOf iv + 4).toNat)
  case atStart => exact ⟨16, 0, 0, none, Nat.le_refl _, rfl, rfl, rfl, Lib.hid (Own.nil _ _), Lib.hid (Below.refl _ _)⟩
  case round =>
    obtain ⟨t, m, co, ao, ht, hm, rfl, rfl, ho, hb⟩ := hrel
    cases t with
    | zero =>
      have e0 : (hx 16 u).take (16 - 0) = hx 16 u := List.take_of_length_le (by rw [hx_len]; exact Nat.le_refl _)
      rw [e0] at ho
      have hcv := conv_bytes ho.out.bs
      have t0 : decide ((0 : Int) ≤ 4 * ((0 : Nat) : Int) - 4) = false := by decide
      clear e0 hm
      go_wp2
      go_ret
      exact ⟨rfl, hb.out⟩
    | succ s =>
      obtain ⟨z, hz⟩ : ∃ z : Int, z = 4 * ((s + 1 : Nat) : Int) - 4 := ⟨_, rfl⟩
      rw [← hz]
      have hz0 : 0 ≤ z := by omega
      have hz1 : z ≤ 60 := by omega
      have t0 : decide ((0 : Int) ≤ z) = true := decide_eq_true hz0
      obtain ⟨q, hq⟩ : ∃ q, q = u / 16 ^ s := ⟨_, rfl⟩
      have e1 : (u : Int) / 2 ^ z.toNat = (q : Int) := by
        have hzn : z.toNat = 4 * s := by omega
        rw [hzn, hq, show ((2 : Int) ^ (4 * s)) = ((16 ^ s : Nat) : Int) by rw [Int.pow_mul]; simp]
        exact (Int.natCast_ediv _ _).symm
      obtain ⟨x, hx0⟩ : ∃ x, x = q % 16 := ⟨_, rfl⟩
      have e2 : bits .and .u64 (q : Int) 15 = (x : Int) := by rw [hx0]; exact and_15 q (by rw [hq]; exact Nat.lt_of_le_of_lt (Nat.div_le_self _ _) hu64)
      have hxl : x < 16 := by omega
      have HSN : Hid ((hx 16 u).take (16 - s) = (hx 16 u).take (16 - (s + 1)) ++ [dg x]) := Lib.hid (by
        have h1 := hx_at 16 u (16 - (s + 1)) (by omega)
        rw [show 16 - 1 - (16 - (s + 1)) = s by omega, ← hq, ← hx0] at h1
        rw [show 16 - s = (16 - (s + 1)) + 1 by omega, List.take_add_one, h1]
        rfl)
      have HZ : Hid (z - 4 = 4 * (s : Int) - 4) := Lib.hid (by omega)
      have HMS := Lib.hid hm
      have hmb : m ≤ 16 := by omega
      clear hz hq hx0 hm
      go_wp2_with fail
      refine (digit_any x hxl _).mono ?_
      rintro e w1 ⟨rfl, rfl⟩
      go_wp2_with (at_builtin; refine app_own rfl _ _ rfl w.heap.size rfl (ho.out.alloc _) rfl (Bs.one _ (dg x)) (by omega) (le_alloc hb.out.size) ?_; intro a9 c9 w9 h9 hb9 _; have H9 := Lib.hid h9; have HB9 := Lib.hid ((hb.out.alloc hb.out.size _).trans hb9); clear h9 hb9)
      go_roundw
      case rel => exact ⟨s, m + 1, c9, a9, by omega, by have := HMS.out; omega, by rw [HZ.out], rfl, by rw [HSN.out]; exact H9, HB9⟩
      case measure => simp [intOf]; omega
end Go.Proofs.YtkbfefooaajhkaaDoor
