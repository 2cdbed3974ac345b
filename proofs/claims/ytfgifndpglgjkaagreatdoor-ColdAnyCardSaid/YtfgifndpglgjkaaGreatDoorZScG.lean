/- Payloads that are read: ReadFrame, ReadBytes, the reference's. -/
import Derived.Test.YtfgifndpglgjkaaGreatDoorZScF
import Derived.Test.YtfgifndpglgjkaaGreatDoorZGfA
import Derived.Test.YtfgifndpglgjkaaGreatDoorZRows2
set_option linter.unusedVariables false
set_option linter.unusedSimpArgs false
section
namespace Go.Proofs.YtfgifndpglgjkaaGreatDoor
open Go.RowKit

/-- What a reader hands back: bytes, a place, an error. -/
def RetR (w : World) (r : List UInt8 × Nat × Nat) (e : Ending) (w' : World) : Prop := ∃ a n c, e = .returned (.tuple #[.slice a n c, .int .i64 r.2.1, .int .i64 r.2.2]) ∧ Bs w' a n c r.1 ∧ Below w.heap.size w w'

set_option maxHeartbeats 1000000 in
theorem readframe_any (a : Option Addr) (n c : Nat) (l : List UInt8) (w : World) (h : Bs w a n c l) (hf : Fits n) :
    Calls Tryz.prog 46 #[.slice a n c] w (RetR w (Codec.rdFrame l)) := by
  have hle := h.le.1
  have hlc := h.2.1
  have HL := Lib.hid h.1
  by_cases h0 : (Codec.decFrame l).2.2 = 0
  · obtain ⟨v, k, hd, _, hv4, _, hdf, _, hle4⟩ := Codec.decFrame_ok h0
    have hr : Codec.rdFrame l = ((l.drop (k + 4)).take v, k + 4 + v, 0) := by
      unfold Codec.rdFrame; rw [if_pos h0, hdf]; simp
    rw [HL.out] at hv4 hle4
    have hc4 : k + 4 + v ≤ c := by omega
    have HR := Lib.hid hr
    have HD := Lib.hid hdf
    clear hd hdf h0 hr
    have hs := fun w => slice_lh a n c (lo := (k : Int) + 4) (hi := (k : Int) + 4 + (v : Int)) (lo' := k + 4) (hi' := k + 4 + v) (by omega) (by omega) (by omega) hc4 w
    rw [show k + 4 + v - (k + 4) = v by omega] at hs
    have hp := h.sub (lo := k + 4) (hi := k + 4 + v) (by omega) (by omega)
    rw [show k + 4 + v - (k + 4) = v by omega] at hp
    go_enter Tryz.func46, Tryz.ntmps46
    go_wp2_with fail
    refine (frameread_any _ _ _ l _ h).mono ?_
    rintro e w1 ⟨rfl, hb1⟩
    rw [HD.out]
    go_wp2_with fail
    refine (clone_any _ _ _ _ _ (hp.below hb1) ⟨by have := hf.le; omega⟩).mono ?_
    rintro e w2 ⟨a2, n2, c2, rfl, ho2, hb2⟩
    go_wp2
    go_ret3
    exact ⟨_, _, _, by rw [HR.out]; rfl, by rw [HR.out]; exact ho2.bs, hb1.trans (hb2.mono hb1.size)⟩
  · have hr : Codec.rdFrame l = ([], 0, (Codec.decFrame l).2.2) := by unfold Codec.rdFrame; rw [if_neg h0]
    have hz : (Codec.decFrame l).1 = 0 ∧ (Codec.decFrame l).2.1 = 0 := by
      unfold Codec.decFrame at h0 ⊢
      split
      · exact ⟨rfl, rfl⟩
      · split
        · exact ⟨rfl, rfl⟩
        · split
          · exact ⟨rfl, rfl⟩
          · split
            · rename_i g1 g2 g3 g4; rw [if_neg g1, if_neg g2, if_neg g3, if_pos g4] at h0; exact absurd rfl h0
            · exact ⟨rfl, rfl⟩
    obtain ⟨er, hd⟩ : ∃ er, Codec.decFrame l = (0, 0, er) := ⟨(Codec.decFrame l).2.2, Prod.ext hz.1 (Prod.ext hz.2 rfl)⟩
    rw [hd] at hr h0
    have HR := Lib.hid hr
    have HD := Lib.hid hd
    have t1 : ((er : Int) != 0) = true := by simp; simpa using h0
    clear hr hz h0 hd
    go_enter Tryz.func46, Tryz.ntmps46
    go_wp2_with fail
    refine (frameread_any _ _ _ l _ h).mono ?_
    rintro e w1 ⟨rfl, hb1⟩
    rw [HD.out]
    go_wp2
    go_ret3
    exact ⟨_, _, _, by rw [HR.out]; rfl, by rw [HR.out]; exact Bs.nil _, hb1⟩

set_option maxHeartbeats 1000000 in
theorem readbytes_any (a : Option Addr) (n c : Nat) (l : List UInt8) (most : Int) (w : World) (h : Bs w a n c l) (hf : Fits n) (hm1 : -9223372036854775808 ≤ most) (hm2 : most ≤ 9223372036854775807) :
    Calls Tryz.prog 48 #[.slice a n c, .int .i64 most] w (RetR w (Codec.rdBytes l most)) := by
  have hle := h.le.1
  have hlc := h.2.1
  have HL := Lib.hid h.1
  obtain ⟨v, k, er, hd⟩ : ∃ v k er, Codec.dec l = (v, k, er) := ⟨_, _, _, rfl⟩
  have HD := Lib.hid hd
  have hmx : (if most < 0 then (0 : Int) else most) = ((most.toNat : Nat) : Int) := by split <;> omega
  by_cases h1 : er = 0
  · subst h1
    have hb := Codec.dec_back hd
    rw [HL.out] at hb
    obtain ⟨_, hk0, hkn, hk10, hv64⟩ := hb
    have HV := Lib.hid hv64
    clear hv64
    by_cases h2 : most.toNat < v
    · have hr : Codec.rdBytes l most = ([], 0, 3) := by unfold Codec.rdBytes; rw [HD.out]; simp [h2]
      have HR := Lib.hid hr
      have t2 : decide (most.toNat < v) = true := by simp; omega
      clear hd hr
      go_enter Tryz.func48, Tryz.ntmps48
      go_wp2_with fail
      refine (readnum_any _ _ _ l _ h).mono ?_
      rintro e w1 ⟨rfl, rfl⟩
      rw [HD.out]
      go_wp2
      go_ret3
      exact ⟨_, _, _, by rw [HR.out]; rfl, by rw [HR.out]; exact Bs.nil _, Below.refl _ _⟩
    · have t2 : decide (most.toNat < v) = false := by simp; omega
      by_cases h3 : n - k < v
      · have hr : Codec.rdBytes l most = ([], 0, 11) := by unfold Codec.rdBytes; rw [HD.out, HL.out]; simp [h2, h3]
        have HR := Lib.hid hr
        have t3 : decide ((n : Int) - (k : Int) < (v : Int)) = true := by simp; omega
        clear hd hr
        go_enter Tryz.func48, Tryz.ntmps48
        go_wp2_with fail
        refine (readnum_any _ _ _ l _ h).mono ?_
        rintro e w1 ⟨rfl, rfl⟩
        rw [HD.out]
        go_wp2
        go_ret3
        exact ⟨_, _, _, by rw [HR.out]; rfl, by rw [HR.out]; exact Bs.nil _, Below.refl _ _⟩
      · have t3 : decide ((n : Int) - (k : Int) < (v : Int)) = false := by simp; omega
        have hr : Codec.rdBytes l most = ((l.drop k).take v, k + v, 0) := by unfold Codec.rdBytes; rw [HD.out, HL.out]; simp [h2, h3]
        have HR := Lib.hid hr
        have hc4 : k + v ≤ c := by omega
        clear hd hr
        have hs := fun w => slice_lh a n c (lo := (k : Int)) (hi := (k : Int) + (v : Int)) (lo' := k) (hi' := k + v) rfl (by omega) (by omega) hc4 w
        rw [show k + v - k = v by omega] at hs
        have hp := h.sub (lo := k) (hi := k + v) (by omega) (by omega)
        rw [show k + v - k = v by omega] at hp
        go_enter Tryz.func48, Tryz.ntmps48
        go_wp2_with fail
        refine (readnum_any _ _ _ l _ h).mono ?_
        rintro e w1 ⟨rfl, rfl⟩
        rw [HD.out]
        go_wp2_with fail
        refine (clone_any _ _ _ _ _ hp ⟨by have := hf.le; omega⟩).mono ?_
        rintro e w2 ⟨a2, n2, c2, rfl, ho2, hb2⟩
        go_wp2
        go_ret3
        exact ⟨_, _, _, by rw [HR.out]; rfl, by rw [HR.out]; exact ho2.bs, hb2⟩
  · have hr : Codec.rdBytes l most = ([], 0, er) := by unfold Codec.rdBytes; rw [HD.out]; simp [h1]
    have HR := Lib.hid hr
    have t1 : ((er : Int) != 0) = true := by simp; omega
    clear hd hr
    go_enter Tryz.func48, Tryz.ntmps48
    go_wp2_with fail
    refine (readnum_any _ _ _ l _ h).mono ?_
    rintro e w1 ⟨rfl, rfl⟩
    rw [HD.out]
    go_wp2
    go_ret3
    exact ⟨_, _, _, by rw [HR.out]; rfl, by rw [HR.out]; exact Bs.nil _, Below.refl _ _⟩

end Go.Proofs.YtfgifndpglgjkaaGreatDoor
end

section
set_option maxRecDepth 100000
set_option linter.unusedVariables false
set_option linter.unusedSimpArgs false
namespace Go.Proofs.YtfgifndpglgjkaaGreatDoor
open Go.RowKit

/-- The one cell of the table that is read. -/
def Laid (w : World) : Prop := w.cell? ⟨3, 15, none⟩ = some (.int .u8 4)
theorem Laid.below {w w' : World} (h : Laid w) (hb : Below w.heap.size w w') : Laid w' := cell_later hb h
theorem tz64_16 (w : World) (h : Laid w) : Calls Tryz.prog 140 #[.int .u64 16] w fun e w' => e = .returned (.int .i64 4) ∧ w = w' := by
  unfold Laid at h
  have e1 : bits .and .u64 16 (IntKind.u64.wrap (-16)) = 16 := by decide +kernel
  have e2 : IntKind.u64.wrap (16 * 285870213051353865) = 4573923408821661840 := by decide +kernel
  go_enter Tryz.func140, Tryz.ntmps140
  go_wp2
  go_ret
  exact ⟨rfl, rfl⟩
theorem tz_16 (w : World) (h : Laid w) : Calls Tryz.prog 120 #[.int .u64 16] w fun e w' => e = .returned (.int .i64 4) ∧ w = w' := by
  go_enter Tryz.func120, Tryz.ntmps120
  go_wp2_with (go_at_call 140; refine (tz64_16 w h).mono ?_; rintro e w' ⟨rfl, rfl⟩)
  go_ret
  exact ⟨rfl, rfl⟩
theorem pow2_16 (w : World) : Calls Tryz.prog 119 #[.int .i64 16] w fun e w' => e = .returned (.bool true) ∧ w = w' := by
  have e1 : bits .and .i64 16 15 = 0 := by decide +kernel
  go_enter Tryz.func119, Tryz.ntmps119
  go_wp2
  go_ret
  exact ⟨rfl, rfl⟩
theorem mul_1 (k : Nat) (hk : k ≤ 16) (w : World) : Calls Tryz.prog 62 #[.int .u64 1, .int .u64 k] w fun e w' => e = .returned (.tuple #[.int .u64 0, .int .u64 k]) ∧ w = w' := by
  have e1 : bits .and .u64 1 4294967295 = 1 := by decide +kernel
  have e2 : bits .and .u64 (k : Int) 4294967295 = (k : Int) := by
    have h := u64_and_nat k 4294967295 (by omega) (by decide)
    rw [show ((4294967295 : Nat) : Int) = 4294967295 from rfl] at h
    rw [h]
    congr 1
    rw [show (4294967295 : Nat) = 2 ^ 32 - 1 from rfl, Nat.and_two_pow_sub_one_eq_mod]
    omega
  have e3 : (k : Int) / 4294967296 = 0 := by omega
  have e4 : bits .and .u64 0 4294967295 = 0 := by decide +kernel
  have e5 : IntKind.u64.wrap (k : Int) = (k : Int) := by rw [IntKind.wrap_u64]; omega
  clear hk
  go_enter Tryz.func62, Tryz.ntmps62
  go_wp2
  go_ret2
  exact ⟨rfl, rfl⟩
theorem zeros_lit : (⟨#[48, 48, 48, 48, 48, 48, 48, 48, 48, 48, 48, 48, 48, 48, 48, 48, 48, 48, 48, 48, 48, 48, 48, 48, 48, 48, 48, 48, 48, 48, 48, 48, 48, 48, 48, 48, 48, 48, 48, 48, 48, 48, 48, 48, 48, 48, 48, 48, 48, 48, 48, 48, 48, 48, 48, 48, 48, 48, 48, 48, 48, 48, 48, 48]⟩ : ByteArray) = bstr (List.replicate 64 48) := by decide +kernel
theorem zcut (N k : Nat) (hk : k ≤ N) : (bstr (List.replicate N 48)).extract 0 k = bstr (List.replicate k 48) := by
  apply ByteArray.ext
  simp [bstr, ByteArray.data_extract, Nat.min_eq_left hk]
theorem zeros_cut (k : Nat) (hk : k ≤ 64) : (⟨#[48, 48, 48, 48, 48, 48, 48, 48, 48, 48, 48, 48, 48, 48, 48, 48, 48, 48, 48, 48, 48, 48, 48, 48, 48, 48, 48, 48, 48, 48, 48, 48, 48, 48, 48, 48, 48, 48, 48, 48, 48, 48, 48, 48, 48, 48, 48, 48, 48, 48, 48, 48, 48, 48, 48, 48, 48, 48, 48, 48, 48, 48, 48, 48]⟩ : ByteArray).extract 0 k = bstr (List.replicate k 48) := by
  rw [zeros_lit]
  exact zcut 64 k hk
theorem hasp_0 (s : ByteArray) (b : Bool) (w : World) (h1 : ((s.extract 0 1).toList == [48]) = b) (h2 : decide (1 ≤ s.size) = true) (h3 : s.size ≤ 1000) : Calls Tryz.prog 63 #[.string s, .string ⟨#[48]⟩] w fun e w' => e = .returned (.bool b) ∧ w = w' := by
  have h4 := of_decide_eq_true h2
  go_enter Tryz.func63, Tryz.ntmps63
  go_wp2
  go_ret
  exact ⟨rfl, rfl⟩
set_option maxHeartbeats 1000000 in
theorem repeat_any (k : Nat) (hk : k ≤ 16) (w : World) : Calls Tryz.prog 31 #[.string ⟨#[48]⟩, .int .i64 k] w fun e w' => e = .returned (.string (bstr (List.replicate k 48))) ∧ w = w' := by
  by_cases h0 : k = 0
  · subst h0
    go_enter Tryz.func31, Tryz.ntmps31
    go_wp2
    go_ret
    exact ⟨rfl, rfl⟩
  by_cases h1 : k = 1
  · subst h1
    go_enter Tryz.func31, Tryz.ntmps31
    go_wp2
    go_ret
    exact ⟨rfl, rfl⟩
  have HM := Lib.hid (mul_1 k hk w)
  have t0 : ((k : Int) == 0) = false := by simp; omega
  have t1 : ((k : Int) == 1) = false := by simp; omega
  have t2 : decide ((9223372036854775807 : Int) < (k : Int)) = false := decide_eq_false (by omega)
  have e5 : IntKind.u64.wrap (k : Int) = (k : Int) := by rw [IntKind.wrap_u64]; omega
  have e6 : IntKind.i64.wrap (k : Int) = (k : Int) := by rw [IntKind.wrap_i64]; omega
  have t3 : decide ((k : Int) ≤ 64) = true := decide_eq_true (by omega)
  have t5 : decide ((k : Int) ≤ 128) = true := decide_eq_true (by omega)
  have t4 : decide ((k : Int) < 0) = false := decide_eq_false (by omega)
  clear h0 h1
  go_enter Tryz.func31, Tryz.ntmps31
  go_wp2_with fail
  refine HM.out.mono ?_
  rintro e w' ⟨rfl, rfl⟩
  have HZ := Lib.hid (zeros_cut k (by omega))
  go_wp2_with fail
  refine (hasp_0 _ false w (by decide +kernel) (by decide +kernel) (by decide +kernel)).mono ?_
  rintro e w' ⟨rfl, rfl⟩
  go_wp2_with fail
  refine (hasp_0 _ false w (by decide +kernel) (by decide +kernel) (by decide +kernel)).mono ?_
  rintro e w' ⟨rfl, rfl⟩
  go_wp2_with fail
  refine (hasp_0 _ true w (by decide +kernel) (by decide +kernel) (by decide +kernel)).mono ?_
  rintro e w' ⟨rfl, rfl⟩
  go_wp2
  go_ret
  exact ⟨by rw [← HZ.out]; rfl, rfl⟩
end Go.Proofs.YtfgifndpglgjkaaGreatDoor
end

section
set_option maxRecDepth 100000
set_option linter.unusedVariables false
set_option linter.unusedSimpArgs false
namespace Go.Proofs.YtfgifndpglgjkaaGreatDoor
open Go.RowKit

/-! Digits, plain. -/
def dg (x : Nat) : UInt8 := if x < 10 then UInt8.ofNat (48 + x) else UInt8.ofNat (87 + x)
/-- The last d digits of a number. -/
def hx : Nat → Nat → List UInt8
  | 0, _ => []
  | d + 1, n => hx d (n / 16) ++ [dg (n % 16)]
theorem hx_len : ∀ (d n : Nat), (hx d n).length = d
  | 0, _ => rfl
  | d + 1, n => by simp [hx, hx_len d]
def hxf (n : Nat) : List UInt8 := if h : n < 16 then [dg n] else hxf (n / 16) ++ [dg (n % 16)]
termination_by n
decreasing_by omega
theorem hxf_small {n : Nat} (h : n < 16) : hxf n = [dg n] := by rw [hxf, dif_pos h]
theorem hxf_big {n : Nat} (h : 16 ≤ n) : hxf n = hxf (n / 16) ++ [dg (n % 16)] := by rw [hxf, dif_neg (by omega)]
theorem hx_zero : ∀ d, hx d 0 = List.replicate d 48
  | 0 => rfl
  | d + 1 => by rw [hx, Nat.zero_div, hx_zero d, List.replicate_succ']; rfl
theorem hxf_pos (n : Nat) : 0 < (hxf n).length := by rw [hxf]; split <;> simp
theorem hx_of : ∀ (d n : Nat), n < 16 ^ (d + 1) → (hxf n).length ≤ d + 1 ∧ hx (d + 1) n = List.replicate (d + 1 - (hxf n).length) 48 ++ hxf n
  | 0, n, h => by
    have h' : n < 16 := by simpa using h
    rw [hxf_small h']
    simp [hx, Nat.mod_eq_of_lt h']
  | d + 1, n, h => by
    by_cases h' : n < 16
    · rw [hxf_small h']
      refine ⟨by simp, ?_⟩
      rw [hx, Nat.div_eq_of_lt h', hx_zero, Nat.mod_eq_of_lt h']
      simp
    · obtain ⟨h1, h2⟩ := hx_of d (n / 16) (by rw [Nat.div_lt_iff_lt_mul (by decide)]; rw [Nat.pow_succ] at h; exact h)
      rw [hxf_big (by omega)]
      refine ⟨by simp; omega, ?_⟩
      rw [hx, h2, List.append_assoc]
      congr 2
      simp
theorem dg_at : ∀ x, x < 16 → (([48, 49, 50, 51, 52, 53, 54, 55, 56, 57, 97, 98, 99, 100, 101, 102, 103, 104, 105, 106, 107, 108, 109, 110, 111, 112, 113, 114, 115, 116, 117, 118, 119, 120, 121, 122] : List UInt8))[x]? = some (dg x) := by decide +kernel
theorem digit36 (x : Nat) (hx : x < 16) (h : x < ByteArray.size ⟨#[48, 49, 50, 51, 52, 53, 54, 55, 56, 57, 97, 98, 99, 100, 101, 102, 103, 104, 105, 106, 107, 108, 109, 110, 111, 112, 113, 114, 115, 116, 117, 118, 119, 120, 121, 122]⟩) :
    (((⟨#[48, 49, 50, 51, 52, 53, 54, 55, 56, 57, 97, 98, 99, 100, 101, 102, 103, 104, 105, 106, 107, 108, 109, 110, 111, 112, 113, 114, 115, 116, 117, 118, 119, 120, 121, 122]⟩ : ByteArray)[x]'h).toNat : Int) = n8 (dg x) := by
  obtain rfl | rfl | rfl | rfl | rfl | rfl | rfl | rfl | rfl | rfl | rfl | rfl | rfl | rfl | rfl | rfl : x = 0 ∨ x = 1 ∨ x = 2 ∨ x = 3 ∨ x = 4 ∨ x = 5 ∨ x = 6 ∨ x = 7 ∨ x = 8 ∨ x = 9 ∨ x = 10 ∨ x = 11 ∨ x = 12 ∨ x = 13 ∨ x = 14 ∨ x = 15 := by omega
  all_goals rfl
theorem below_alloc1 (w : World) (o : Obj) : Below w.heap.size w (w.alloc o) := (Below.refl _ _).alloc (Nat.le_refl _) o
/-- The digits that are laid: r fills the array from i on. -/
def Laying (A : Array Value) (i : Nat) (r : List UInt8) : Prop := A.size = 65 ∧ i + r.length = 65 ∧ ∀ j, j < r.length → A[i + j]? = some (.int .u8 (n8 (nth r j)))
theorem Laying.step {A : Array Value} {i : Nat} {r : List UInt8} (h : Laying A (i + 1) r) (d : UInt8) : Laying (A.setIfInBounds i (.int .u8 (n8 d))) i (d :: r) := by
  obtain ⟨h1, h2, h3⟩ := h
  refine ⟨by simpa using h1, by simp; omega, fun j hj => ?_⟩
  rw [Array.getElem?_setIfInBounds]
  cases j with
  | zero => rw [if_pos (by omega), if_pos (by omega)]; rfl
  | succ j =>
    rw [if_neg (by omega)]
    have := h3 j (by simpa using hj)
    rw [show i + (j + 1) = i + 1 + j by omega, this]
    rfl
theorem and_15 (u : Nat) (h : u < 18446744073709551616) : bits .and .u64 (u : Int) 15 = ((u % 16 : Nat) : Int) := by
  have h1 := u64_and_nat u 15 (by omega) (by decide)
  rw [show ((15 : Nat) : Int) = 15 from rfl] at h1
  rw [h1, show (15 : Nat) = 2 ^ 4 - 1 from rfl, Nat.and_two_pow_sub_one_eq_mod]
theorem Laying.bs {A : Array Value} {i : Nat} {r : List UInt8} (h : Laying A i r) (w : World) : Bs (w.alloc (.cells A 161)) (some ⟨w.heap.size, i, none⟩) (65 - i) (65 - i) r := by
  obtain ⟨h1, h2, h3⟩ := h
  refine ⟨by omega, Nat.le_refl _, by simp [maxLen]; omega, fun j v hj => ⟨w.heap.size, i, rfl, ?_⟩⟩
  rw [cell_of_row _ _ _ _ _ _ (heap_alloc_new w _)]
  have hjl : j < r.length := by have := (List.getElem?_eq_some_iff.1 hj).1; rwa [vs_len] at this
  have h4 := h3 j hjl
  rw [h4]
  rw [← hj]
  simp [vs, nth_eq _ hjl, List.getElem?_eq_getElem hjl]
theorem al65 : Tryz.prog.arrayLen 161 = 65 := by kernel_rfl
theorem sl65 (g k : Nat) (hk : k ≤ 65) (h1 : k ≠ 65) (W : World) : (Instr.sliceAt 161 (.pointer (some ⟨g, 0, none⟩)) (some (.int .i64 (k : Int))) none none).run Tryz.prog W = .ok (.slice (some ⟨g, k, none⟩) (65 - k) (65 - k)) W := by
  have h := run_sliceAt_array_l (P := Tryz.prog) W 161 ⟨g, 0, none⟩ (by kernel_rfl) .i64 (k : Int) (by omega) (by rw [al65]; omega)
  obtain ⟨i, hi, hz, g1, g2⟩ := info_parts info8
  have he : Tryz.prog.elem 161 = 5 := by kernel_rfl
  rw [h, he]
  simp [sizeOf, typeInfo, hi, g1, slicedAt, al65]
  rw [if_neg (by omega)]
  simp [Addr.add_lit]
set_option maxHeartbeats 4000000 in
theorem fbits_any (n : Nat) (hn : U64 n) (w : World) (hL : Laid w) :
    Calls Tryz.prog 97 #[.slice none 0 0, .int .u64 n, .int .i64 16, .bool false, .bool false] w fun e w' => e = .returned (.tuple #[.slice none 0 0, .string (bstr (hxf n))]) ∧ Below w.heap.size w w' := by
  go_enter Tryz.func97, Tryz.ntmps97
  go_wp2_with fail
  refine (pow2_16 _).mono ?_
  rintro e w' ⟨rfl, rfl⟩
  go_wp2_with fail
  refine (tz_16 _ (hL.below (below_alloc1 _ _))).mono ?_
  rintro e w' ⟨rfl, rfl⟩
  go_wp2_with fail
  have hn64 := hn.lt
  go_loopw [1, 13] (fun u iv wr => ∃ (us i : Nat) (A : Array Value) (r : List UInt8), u = .int .u64 us ∧ iv = .int .i64 i ∧ Hid (Laying A i r) ∧ 50 ≤ i ∧ i ≤ 65 ∧ us < 16 ^ (i - 49) ∧ Hid (hxf us ++ r = hxf n) ∧ wr = w.alloc (.cells A 161)) (fun _ iv _ => (intOf iv).toNat)
  case atStart => exact ⟨n, 65, _, [], rfl, rfl, Lib.hid ⟨by kernel_rfl, rfl, fun j hj => by simp at hj⟩, by omega, by omega, by simpa using hn64, Lib.hid (by simp), rfl⟩
  case round =>
    obtain ⟨us, i, A, r, rfl, rfl, hA, hi, hi2, hus, hto, rfl⟩ := hrel
    by_cases hlt : 16 ≤ us
    · obtain ⟨k, rfl⟩ : ∃ k, i = k + 1 := ⟨i - 1, by omega⟩
      have hk : 50 ≤ k := by
        rcases Nat.lt_or_ge k 50 with h | h
        · obtain rfl : k = 49 := by omega
          simp at hus; omega
        · exact h
      have hus2 : us / 16 < 16 ^ (k - 49) := by
        rw [show k + 1 - 49 = (k - 49) + 1 by omega, Nat.pow_succ] at hus
        rw [Nat.div_lt_iff_lt_mul (by decide)]; exact hus
      have HX : Hid (hxf (us / 16) ++ (dg (us % 16) :: r) = hxf n) := Lib.hid (by rw [← hto.out, hxf_big hlt]; simp)
      have HS := Lib.hid (hA.out.step (dg (us % 16)))
      have HAS := Lib.hid hA.out.1
      obtain ⟨v, hv⟩ : ∃ v, A[k]? = some v := ⟨_, Array.getElem?_eq_getElem (by rw [hA.out.1]; omega)⟩
      have HD := Lib.hid (fun h => digit36 (us % 16) (Nat.mod_lt _ (by decide)) h)
      have e1 : bits .and .u64 (us : Int) 15 = ((us % 16 : Nat) : Int) := and_15 us (Nat.lt_of_lt_of_le hus (Nat.le_trans (Nat.pow_le_pow_right (by decide) (show k + 1 - 49 ≤ 16 by omega)) (by decide)))
      obtain ⟨q, hq⟩ : ∃ q, q = us / 16 := ⟨_, rfl⟩
      have e2 : (us : Int) / 16 = (q : Int) := by omega
      rw [← hq] at hus2 HX
      have HU2 := Lib.hid hus2
      have t1 : decide ((16 : Int) ≤ (us : Int)) = true := decide_eq_true (by omega)
      have hm16 : us % 16 < 16 := Nat.mod_lt _ (by decide)
      have hm36 : us % 16 < 36 := by omega
      obtain ⟨m, hm⟩ : ∃ m, m = us % 16 := ⟨_, rfl⟩
      rw [← hm] at e1 HX HS HD hm16 hm36
      clear hus hus2 hq hm
      go_wp2
      go_roundw
      case rel => exact ⟨q, k, _, dg m :: r, rfl, rfl, HS, hk, by omega, HU2.out, HX, by rw [HD.out]⟩
      case measure => simp [intOf]
    · obtain ⟨k, rfl⟩ : ∃ k, i = k + 1 := ⟨i - 1, by omega⟩
      have hr : hxf us = [dg us] := hxf_small (by omega)
      have HX : Hid (dg us :: r = hxf n) := Lib.hid (by rw [← hto.out, hr]; rfl)
      have HS := Lib.hid (hA.out.step (dg us))
      obtain ⟨v, hv⟩ : ∃ v, A[k]? = some v := ⟨_, Array.getElem?_eq_getElem (by rw [hA.out.1]; omega)⟩
      have HD := Lib.hid (fun h => digit36 us (by omega) h)
      have hm36 : us < 36 := by omega
      have hm16 : us < 16 := by omega
      have t1 : decide ((16 : Int) ≤ (us : Int)) = false := decide_eq_false (by omega)
      have hsa := fun W => sl65 w.heap.size k (by omega) (by omega) W
      have hcv := conv_bytes (HS.out.bs w)
      rw [HX.out] at hcv
      have hD := HD.out
      clear hus hr
      go_wp2
      go_ret2
      exact ⟨rfl, below_alloc1 _ _⟩
theorem ifmt_any (n : Nat) (hn : U64 n) (w : World) (hL : Laid w) :
    Calls Tryz.prog 60 #[.int .u64 n, .int .i64 16] w fun e w' => e = .returned (.string (bstr (hxf n))) ∧ Below w.heap.size w w' := by
  have HF := Lib.hid (fbits_any n hn w hL)
  clear hL
  go_enter Tryz.func60, Tryz.ntmps60
  go_wp2_with fail
  refine HF.out.mono ?_
  rintro e w' ⟨rfl, hb⟩
  have HB := Lib.hid hb
  clear hb
  go_wp2
  go_ret
  exact ⟨rfl, HB.out⟩
theorem fmt_any (n : Nat) (hn : U64 n) (w : World) (hL : Laid w) :
    Calls Tryz.prog 29 #[.int .u64 n, .int .i64 16] w fun e w' => e = .returned (.string (bstr (hxf n))) ∧ Below w.heap.size w w' := by
  have HF := Lib.hid (ifmt_any n hn w hL)
  clear hL
  go_enter Tryz.func29, Tryz.ntmps29
  go_wp2_with fail
  refine HF.out.mono ?_
  rintro e w' ⟨rfl, hb⟩
  have HB := Lib.hid hb
  clear hb
  go_wp2
  go_ret
  exact ⟨rfl, HB.out⟩
theorem bstr_app (a b : List UInt8) : bstr a ++ bstr b = bstr (a ++ b) := by
  apply ByteArray.ext
  simp [bstr]
theorem bstr_size (a : List UInt8) : (bstr a).size = a.length := by simp [bstr, ByteArray.size]
theorem hx_at : ∀ (d n j : Nat), j < d → (hx d n)[j]? = some (dg (n / 16 ^ (d - 1 - j) % 16))
  | 0, _, _, h => by omega
  | d + 1, n, j, h => by
    rw [hx]
    by_cases e : j = d
    · subst e
      rw [List.getElem?_append_right (by rw [hx_len]; exact Nat.le_refl _), hx_len]
      simp
    · rw [List.getElem?_append_left (by rw [hx_len]; omega), hx_at d (n / 16) j (by omega)]
      rw [Nat.div_div_eq_div_mul, show d + 1 - 1 - j = (d - 1 - j) + 1 by omega, Nat.pow_succ, Nat.mul_comm (16 ^ (d - 1 - j)) 16]
set_option maxHeartbeats 1000000 in
theorem digit_any (x : Nat) (hx : x < 16) (w : World) : Calls Tryz.prog 68 #[.int .u8 x, .int .u8 97] w fun e w' => e = .returned (.int .u8 (n8 (dg x))) ∧ w = w' := by
  obtain rfl | rfl | rfl | rfl | rfl | rfl | rfl | rfl | rfl | rfl | rfl | rfl | rfl | rfl | rfl | rfl : x = 0 ∨ x = 1 ∨ x = 2 ∨ x = 3 ∨ x = 4 ∨ x = 5 ∨ x = 6 ∨ x = 7 ∨ x = 8 ∨ x = 9 ∨ x = 10 ∨ x = 11 ∨ x = 12 ∨ x = 13 ∨ x = 14 ∨ x = 15 := by omega
  all_goals
    go_enter Tryz.func68, Tryz.ntmps68
    go_wp2
    go_ret
    exact ⟨rfl, rfl⟩
set_option maxHeartbeats 1000000 in
theorem rhex_any (u : Nat) (hu : U64 u) (w : World) : Calls Tryz.prog 32 #[.int .u64 u] w fun e w' => e = .returned (.string (bstr (hx 16 u))) ∧ Below w.heap.size w w' := by
  have hu64 := hu.lt
  go_enter Tryz.func32, Tryz.ntmps32
  go_wp2_with fail
  go_loopw [3, 4] (fun b iv wr => ∃ (t m co : Nat) (ao : Option Addr), t ≤ 16 ∧ m = 16 - t ∧ iv = .int .i64 (4 * (t : Int) - 4) ∧ b = .slice ao m co ∧ Hid (Own wr w.heap.size ao m co ((hx 16 u).take (16 - t))) ∧ Hid (Below w.heap.size w wr)) (fun _ iv _ => (intOf iv + 4).toNat)
  case atStart => exact ⟨16, 0, 0, none, Nat.le_refl _, rfl, rfl, rfl, Lib.hid (Own.nil _ _), Lib.hid (Below.refl _ _)⟩
  case round =>
    obtain ⟨t, m, co, ao, ht, hm, rfl, rfl, ho, hb⟩ := hrel
    cases t with
    | zero =>
      have e0 : (hx 16 u).take (16 - 0) = hx 16 u := List.take_of_length_le (by rw [hx_len]; exact Nat.le_refl _)
      rw [e0] at ho
      have hcv := conv_bytes ho.out.bs
      have t0 : decide ((0 : Int) ≤ 4 * ((0 : Nat) : Int) - 4) = false := by decide
      clear e0 hm
      go_wp2
      go_ret
      exact ⟨rfl, hb.out⟩
    | succ s =>
      obtain ⟨z, hz⟩ : ∃ z : Int, z = 4 * ((s + 1 : Nat) : Int) - 4 := ⟨_, rfl⟩
      rw [← hz]
      have hz0 : 0 ≤ z := by omega
      have hz1 : z ≤ 60 := by omega
      have t0 : decide ((0 : Int) ≤ z) = true := decide_eq_true hz0
      obtain ⟨q, hq⟩ : ∃ q, q = u / 16 ^ s := ⟨_, rfl⟩
      have e1 : (u : Int) / 2 ^ z.toNat = (q : Int) := by
        have hzn : z.toNat = 4 * s := by omega
        rw [hzn, hq, show ((2 : Int) ^ (4 * s)) = ((16 ^ s : Nat) : Int) by rw [Int.pow_mul]; simp]
        exact (Int.natCast_ediv _ _).symm
      obtain ⟨x, hx0⟩ : ∃ x, x = q % 16 := ⟨_, rfl⟩
      have e2 : bits .and .u64 (q : Int) 15 = (x : Int) := by rw [hx0]; exact and_15 q (by rw [hq]; exact Nat.lt_of_le_of_lt (Nat.div_le_self _ _) hu64)
      have hxl : x < 16 := by omega
      have HSN : Hid ((hx 16 u).take (16 - s) = (hx 16 u).take (16 - (s + 1)) ++ [dg x]) := Lib.hid (by
        have h1 := hx_at 16 u (16 - (s + 1)) (by omega)
        rw [show 16 - 1 - (16 - (s + 1)) = s by omega, ← hq, ← hx0] at h1
        rw [show 16 - s = (16 - (s + 1)) + 1 by omega, List.take_add_one, h1]
        rfl)
      have HZ : Hid (z - 4 = 4 * (s : Int) - 4) := Lib.hid (by omega)
      have HMS := Lib.hid hm
      have hmb : m ≤ 16 := by omega
      clear hz hq hx0 hm
      go_wp2_with fail
      refine (digit_any x hxl _).mono ?_
      rintro e w1 ⟨rfl, rfl⟩
      go_wp2_with (at_builtin; refine app_own rfl _ _ rfl w.heap.size rfl (ho.out.alloc _) rfl (Bs.one _ (dg x)) (by omega) (le_alloc hb.out.size) ?_; intro a9 c9 w9 h9 hb9 _; have H9 := Lib.hid h9; have HB9 := Lib.hid ((hb.out.alloc hb.out.size _).trans hb9); clear h9 hb9)
      go_roundw
      case rel => exact ⟨s, m + 1, c9, a9, by omega, by have := HMS.out; omega, by rw [HZ.out], rfl, by rw [HSN.out]; exact H9, HB9⟩
      case measure => simp [intOf]; omega
end Go.Proofs.YtfgifndpglgjkaaGreatDoor
end

section
set_option maxRecDepth 100000
set_option linter.unusedVariables false
set_option linter.unusedSimpArgs false
namespace Go.Proofs.YtfgifndpglgjkaaGreatDoor
open Go.RowKit

def RetRO (w : World) (r : List UInt8 × Nat × Nat) (e : Ending) (w' : World) : Prop := ∃ a n c, e = .returned (.tuple #[.slice a n c, .int .i64 r.2.1, .int .i64 r.2.2]) ∧ Own w' w.heap.size a n c r.1 ∧ Below w.heap.size w w'
set_option maxHeartbeats 1000000 in
theorem readbytes_own (a : Option Addr) (n c : Nat) (l : List UInt8) (most : Int) (w : World) (h : Bs w a n c l) (hf : Fits n) (hm1 : -9223372036854775808 ≤ most) (hm2 : most ≤ 9223372036854775807) :
    Calls Tryz.prog 48 #[.slice a n c, .int .i64 most] w (RetRO w (Codec.rdBytes l most)) := by
  have hle := h.le.1
  have hlc := h.2.1
  have HL := Lib.hid h.1
  obtain ⟨v, k, er, hd⟩ : ∃ v k er, Codec.dec l = (v, k, er) := ⟨_, _, _, rfl⟩
  have HD := Lib.hid hd
  have hmx : (if most < 0 then (0 : Int) else most) = ((most.toNat : Nat) : Int) := by split <;> omega
  by_cases h1 : er = 0
  · subst h1
    have hb := Codec.dec_back hd
    rw [HL.out] at hb
    obtain ⟨_, hk0, hkn, hk10, hv64⟩ := hb
    have HV := Lib.hid hv64
    clear hv64
    by_cases h2 : most.toNat < v
    · have hr : Codec.rdBytes l most = ([], 0, 3) := by unfold Codec.rdBytes; rw [HD.out]; simp [h2]
      have HR := Lib.hid hr
      have t2 : decide (most.toNat < v) = true := by simp; omega
      clear hd hr
      go_enter Tryz.func48, Tryz.ntmps48
      go_wp2_with fail
      refine (readnum_any _ _ _ l _ h).mono ?_
      rintro e w1 ⟨rfl, rfl⟩
      rw [HD.out]
      go_wp2
      go_ret3
      exact ⟨_, _, _, by rw [HR.out]; rfl, by rw [HR.out]; exact World.ownsRow_nil _ _ _ _, Below.refl _ _⟩
    · have t2 : decide (most.toNat < v) = false := by simp; omega
      by_cases h3 : n - k < v
      · have hr : Codec.rdBytes l most = ([], 0, 11) := by unfold Codec.rdBytes; rw [HD.out, HL.out]; simp [h2, h3]
        have HR := Lib.hid hr
        have t3 : decide ((n : Int) - (k : Int) < (v : Int)) = true := by simp; omega
        clear hd hr
        go_enter Tryz.func48, Tryz.ntmps48
        go_wp2_with fail
        refine (readnum_any _ _ _ l _ h).mono ?_
        rintro e w1 ⟨rfl, rfl⟩
        rw [HD.out]
        go_wp2
        go_ret3
        exact ⟨_, _, _, by rw [HR.out]; rfl, by rw [HR.out]; exact World.ownsRow_nil _ _ _ _, Below.refl _ _⟩
      · have t3 : decide ((n : Int) - (k : Int) < (v : Int)) = false := by simp; omega
        have hr : Codec.rdBytes l most = ((l.drop k).take v, k + v, 0) := by unfold Codec.rdBytes; rw [HD.out, HL.out]; simp [h2, h3]
        have HR := Lib.hid hr
        have hc4 : k + v ≤ c := by omega
        clear hd hr
        have hs := fun w => slice_lh a n c (lo := (k : Int)) (hi := (k : Int) + (v : Int)) (lo' := k) (hi' := k + v) rfl (by omega) (by omega) hc4 w
        rw [show k + v - k = v by omega] at hs
        have hp := h.sub (lo := k) (hi := k + v) (by omega) (by omega)
        rw [show k + v - k = v by omega] at hp
        go_enter Tryz.func48, Tryz.ntmps48
        go_wp2_with fail
        refine (readnum_any _ _ _ l _ h).mono ?_
        rintro e w1 ⟨rfl, rfl⟩
        rw [HD.out]
        go_wp2_with fail
        refine (clone_any _ _ _ _ _ hp ⟨by have := hf.le; omega⟩).mono ?_
        rintro e w2 ⟨a2, n2, c2, rfl, ho2, hb2⟩
        go_wp2
        go_ret3
        exact ⟨_, _, _, by rw [HR.out]; rfl, by rw [HR.out]; exact ho2, hb2⟩
  · have hr : Codec.rdBytes l most = ([], 0, er) := by unfold Codec.rdBytes; rw [HD.out]; simp [h1]
    have HR := Lib.hid hr
    have t1 : ((er : Int) != 0) = true := by simp; omega
    clear hd hr
    go_enter Tryz.func48, Tryz.ntmps48
    go_wp2_with fail
    refine (readnum_any _ _ _ l _ h).mono ?_
    rintro e w1 ⟨rfl, rfl⟩
    rw [HD.out]
    go_wp2
    go_ret3
    exact ⟨_, _, _, by rw [HR.out]; rfl, by rw [HR.out]; exact World.ownsRow_nil _ _ _ _, Below.refl _ _⟩


/-! A reader: what is left; whether it went wrong. -/
theorem town_ne {w : World} {B B' T T' s s' n n' k k' c c' : Nat} {a a' : Option Addr} {cs cs' : List Value} (h : w.ownsRow B T s (.slice a n c) k cs) (h' : w.ownsRow B' T' s' (.slice a' n' c') k' cs') (hT : T ≠ T') {x y : Addr} (hx : a = some x) (hy : a' = some y) : x.block ≠ y.block := by
  subst hx hy
  rcases h.2 with ⟨g, _⟩ | ⟨g, cap, cur, g1, g2, g3, g4⟩
  · cases g
  · rcases h'.2 with ⟨q, _⟩ | ⟨q, cap', cur', q1, q2, q3, q4⟩
    · cases q
    · cases g1; cases q1
      intro e
      simp only at e
      subst e
      rw [g3] at q3
      cases q3
      exact hT rfl
theorem town_evol {w w' : World} {B Bo T To s so n no ko co : Nat} {v : Value} {ao ao' : Option Addr} {cs cso : List Value} (h : w.ownsRow B T s v n cs) (ho : w.ownsRow Bo To so (.slice ao no co) ko cso) (hT : T ≠ To) (k : Evol w ao w' ao') : w'.ownsRow B T s v n cs := by
  refine h.kept k.1 ?_
  rcases h.2 with ⟨g, _⟩ | ⟨g, cap, cur, g1, g2, g3, g4⟩
  · subst g; exact .inl rfl
  · subst g1
    refine .inr fun e => ?_
    cases ao with
    | none => cases e
    | some y => exact town_ne h ho hT rfl rfl (by simpa [Value.ownBlock] using e)
/-! Rows of elements of which each has bytes. -/
structure Bel (α : Type) where
  f : α → Option Addr → Nat → List Value
  v : α → List UInt8
  s : Nat
  len : ∀ x a c, (f x a c).length = s
  one : ∀ x a c, ∀ u ∈ f x a c, u.oneCell' = true
  pos : 0 < s
section
variable {α : Type} [Inhabited α]
def BIn (C : Bel α) (w : World) (cs : List Value) (i : Nat) (e : α) : Prop := ∃ ai ci, (∀ j v, (C.f e ai ci)[j]? = some v → cs[i * C.s + j]? = some v) ∧ Own w 0 ai (C.v e).length ci (C.v e)
structure AccB (C : Bel α) (T : TypeId) (w : World) (B : Nat) (a : Option Addr) (n c : Nat) (l : List α) : Prop where
  len : l.length = n
  row : ∃ cs, w.ownsRow B T C.s (.slice a n c) n cs ∧ ∀ i, i < n → BIn C w cs i (nth l i)
variable {C : Bel α} {T : TypeId} {w w' : World} {B n c : Nat} {a : Option Addr} {l : List α}
theorem AccB.nil (C : Bel α) (T : TypeId) (w : World) (B : Nat) : AccB C T w B none 0 0 [] := ⟨rfl, [], World.ownsRow_nil w B _ _, fun i hi => by omega⟩
theorem AccB.below (h : AccB C T w B a n c l) (hb : Below w.heap.size w w') : AccB C T w' B a n c l := by
  obtain ⟨cs, h1, h2⟩ := h.row
  exact ⟨h.len, cs, own_below h1 hb, fun i hi => by obtain ⟨ai, ci, g1, g2⟩ := h2 i hi; exact ⟨ai, ci, g1, own_below g2 hb⟩⟩
theorem AccB.mono {B' : Nat} (h : AccB C T w B a n c l) (hB : B' ≤ B) : AccB C T w B' a n c l := by
  obtain ⟨cs, h1, h2⟩ := h.row
  exact ⟨h.len, cs, own_mono h1 hB, h2⟩
theorem AccB.le (h : AccB C T w B a n c l) : n ≤ 9223372036854775807 ∧ c ≤ 9223372036854775807 ∧ n ≤ c := by
  obtain ⟨cs, h1, _⟩ := h.row
  have := own_cap h1
  simp only [maxLen] at this
  omega
/-- An element: its cells, its bytes. -/
theorem AccB.at (h : AccB C T w B a n c l) {i : Nat} (hi : i < n) : ∃ b off ai ci, a = some ⟨b, off, none⟩ ∧ (∀ j v, (C.f (nth l i) ai ci)[j]? = some v → w.cell? ⟨b, off + (i * C.s + j), none⟩ = some v) ∧ Own w 0 ai (C.v (nth l i)).length ci (C.v (nth l i)) := by
  obtain ⟨cs, h1, h2⟩ := h.row
  obtain ⟨ai, ci, g1, g2⟩ := h2 i hi
  have hr := Row.of_own h1
  have hl0 : 0 < (C.f (nth l i) ai ci).length := by rw [C.len]; exact C.pos
  obtain ⟨b, off, rfl, _⟩ := hr _ _ (g1 0 _ (List.getElem?_eq_getElem hl0))
  refine ⟨b, off, ai, ci, rfl, fun j v hj => ?_, g2⟩
  obtain ⟨b', off', e, k⟩ := hr _ _ (g1 j v hj)
  cases e
  exact k
theorem AccB.join {m c' : Nat} {a' : Option Addr} {l2 : List α} {cs cs2 : List Value} (hT : 5 ≠ T) (hl : l.length = n) (h1 : w.ownsRow B T C.s (.slice a n c) n cs) (h2 : ∀ i, i < n → BIn C w cs i (nth l i))
    (hm : l2.length = m) (hl2 : cs2.length = m * C.s) (h3 : ∀ i, i < m → BIn C w cs2 i (nth l2 i)) (h : w'.ownsRow B T C.s (.slice a' (n + m) c') (n + m) (cs ++ cs2)) (hev : Evol w a w' a') : AccB C T w' B a' (n + m) c' (l ++ l2) := by
  have hcl : cs.length = n * C.s := h1.1
  refine ⟨by simp [hl, hm], cs ++ cs2, h, fun i hi => ?_⟩
  by_cases ei : i < n
  · rw [nth_append_left _ _ (by omega)]
    obtain ⟨ai, ci, g1, g2⟩ := h2 i ei
    exact ⟨ai, ci, fun j v hj => by
      have := g1 j v hj
      rw [List.getElem?_append_left (List.getElem?_eq_some_iff.1 this).1]
      exact this, town_evol g2 h1 hT hev⟩
  · obtain ⟨ai, ci, g1, g2⟩ := h3 (i - n) (by omega)
    have e1 : nth (l ++ l2) i = nth l2 (i - n) := by
      rw [nth_eq _ (by simp; omega), nth_eq _ (by omega), List.getElem_append_right (by omega)]
      simp [hl]
    rw [e1]
    have e2 : i * C.s = n * C.s + (i - n) * C.s := by rw [← Nat.add_mul]; congr 1; omega
    exact ⟨ai, ci, fun j v hj => by
      rw [List.getElem?_append_right (by rw [hcl, e2]; omega), hcl, show i * C.s + j - n * C.s = (i - n) * C.s + j by rw [e2]; omega]
      exact g1 j v hj, town_evol g2 h1 hT hev⟩
/-- append of one element, as one operation. -/
theorem step_app_b {o : Oper} {A : Act} {K : Act → World → Prop} {Q : Exit → Act → World → Prop} (C : Bel α) (hT : 5 ≠ T) (s x : Operand) (t : TypeId) (ho : o.op = .call { callee := .builtin .append, args := #[s, x], argTypes := #[t, t] })
    (ht : Tryz.prog.underlying t = some (.slice T)) {z : Value} {by_ : Nat} (hi : (Tryz.prog.info? T).map (fun i => (i.zero, i.size, i.bytes)) = some (some z, C.s, by_)) (hz : z.cells.size = C.s) (hby : by_ ≤ 100)
    (B : Nat) (hs : A.eval s = .slice a n c) (hacc : AccB C T w B a n c l)
    {k : Nat} {e : α} {ae : Option Addr} {ce : Nat} (hx : A.eval x = .slice (some ⟨k, 0, none⟩) 1 1) (hcell : ∀ j v, (C.f e ae ce)[j]? = some v → w.cell? ⟨k, j, none⟩ = some v) (he : Own w 0 ae (C.v e).length ce (C.v e)) (hb : n ≤ 1000000000) (hB : B ≤ w.heap.size)
    (h : ∀ a' c' w', AccB C T w' B a' (n + 1) c' (l ++ [e]) → Below B w w' → Evol w a w' a' → K (A.put o.dst (.slice a' (n + 1) c')) w') : o.wp Tryz.prog A w K Q := by
  obtain ⟨i, hi', h0, h1, h2⟩ := info_parts hi
  obtain ⟨cs, hown, hin⟩ := hacc.row
  have hr : Row w (some ⟨k, 0, none⟩) (C.f e ae ce) := fun j v hj => ⟨k, 0, rfl, by rw [Nat.zero_add]; exact hcell j v hj⟩
  obtain ⟨a', c', w', hr', g1, g2⟩ := run_append_own' (P := Tryz.prog) w B t o.type T i z C.s by_ ht hi' h0 h1 h2 hz C.pos a n c cs hown (some ⟨k, 0, none⟩) 1 1 (C.f e ae ce) (by rw [C.len]; omega) hr (C.one e ae ce) (by
    have := Nat.mul_le_mul (show n + 1 ≤ 1000000001 by omega) hby
    omega) (by simp only [maxLen]; omega) hB
  unfold Oper.wp execOp
  simp only [ho, resolve, invoke, builtin, Sem.run_bind, Sem.run_pure, Result.andThen_ok, List.map_toArray, List.map_cons, List.map_nil, hs, hx, hr']
  exact h a' c' w' (AccB.join hT hacc.len hown hin (m := 1) (l2 := [e]) rfl (by rw [C.len]; omega) (fun i hi => by
    obtain rfl : i = 0 := by omega
    exact ⟨ae, ce, fun j v hj => by rw [Nat.zero_mul, Nat.zero_add]; exact hj, he⟩) g1 g2) (g2.below hB (fun x hx => by subst hx; exact (World.ownsRow.lt hown x.block rfl).1)) g2
end
/-- Rows of bytes. -/
def belL : Bel (List UInt8) where
  f x a c := [.slice a x.length c]
  v x := x
  s := 1
  len _ _ _ := rfl
  one x a c u hu := by
    simp only [List.mem_singleton] at hu
    subst hu; rfl
  pos := by decide
theorem AccB.bss {w : World} {B n c : Nat} {a : Option Addr} {T : TypeId} {l : List (List UInt8)} (h : AccB belL T w B a n c l) : Bss w a n c l := by
  have hle := h.le
  have hm : c ≤ maxLen := by obtain ⟨cs, h1, _⟩ := h.row; exact (own_cap h1).2.2
  refine ⟨h.len, hle.2.2, hm, fun i hi => ?_⟩
  obtain ⟨b, off, ai, ci, rfl, h1, h2⟩ := h.at hi
  have h3 := h1 0 _ rfl
  exact ⟨b, off, ai, _, ci, rfl, by simpa [belL] using h3, h2.bs⟩
end Go.Proofs.YtfgifndpglgjkaaGreatDoor
end
