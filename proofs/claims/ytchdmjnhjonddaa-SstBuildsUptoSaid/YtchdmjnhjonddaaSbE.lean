/- Sorted tables: the four bits of a key. -/
import Derived.Test.YtchdmjnhjonddaaSbD
set_option maxRecDepth 100000
set_option linter.unusedVariables false
set_option linter.unusedSimpArgs false
namespace Go.Proofs.Ytchdmjnhjonddaa
open Go.RowKit

/-- Only the row at a may be another one. -/
structure Oth (a : Option Addr) (w w' : World) : Prop where
  os : w'.os = w.os
  tape : w'.tape = w.tape
  output : w'.output = w.output
  size : w.heap.size ≤ w'.heap.size
  block : ∀ b, b < w.heap.size → (∀ x, a = some x → x.block ≠ b) → w'.heap[b]? = w.heap[b]?
theorem Oth.refl (a : Option Addr) (w : World) : Oth a w w := ⟨rfl, rfl, rfl, Nat.le_refl _, fun _ _ _ => rfl⟩
theorem Oth.of_below {a : Option Addr} {w w' : World} (h : Below w.heap.size w w') : Oth a w w' := ⟨h.os, h.tape, h.output, h.size, fun b hb _ => h.block b hb⟩
theorem Oth.trans {a : Option Addr} {w w1 w2 : World} (h : Oth a w w1) (k : Oth a w1 w2) : Oth a w w2 :=
  ⟨k.os.trans h.os, k.tape.trans h.tape, k.output.trans h.output, Nat.le_trans h.size k.size, fun b hb hn => (k.block b (Nat.lt_of_lt_of_le hb h.size) hn).trans (h.block b hb hn)⟩
theorem Oth.set {a : Option Addr} {w w1 : World} (h : Oth a w w1) {p x : Addr} (ha : a = some x) (hp : p.block = x.block) (v : Value) : Oth a w (w1.setCell p v) :=
  ⟨h.os, h.tape, h.output, by rw [World.size_setCell]; exact h.size, fun b hb hn => (Below.heap_setCell _ _ _ _ (by rw [hp]; exact fun e => hn x ha e.symm)).trans (h.block b hb hn)⟩
theorem Oth.below {a : Option Addr} {w w' : World} {n : Nat} (h : Oth a w w') (hn : n ≤ w.heap.size) (ha : ∀ x, a = some x → n ≤ x.block) : Below n w w' :=
  ⟨h.os, h.tape, h.output, h.size, fun b hb => h.block b (by omega) (fun x hx e => by have := ha x hx; omega)⟩
theorem Oth.evol {w w' : World} {a a' : Option Addr} (h : Evol w a w' a') : Oth a w w' :=
  ⟨h.1.os, h.1.tape, h.1.output, h.1.size, fun b hb hn => h.1.block b hb (fun e => by
    cases a with
    | none => cases e
    | some x => exact hn x rfl (by cases e; rfl))⟩
theorem Oth.grown {w w' : World} {g : Nat} (h : w.grownBy w' (some g)) : Oth (some ⟨g, 0, none⟩) w w' :=
  ⟨h.os, h.tape, h.output, h.size, fun b hb hn => h.block b hb (fun e => by cases e; exact hn _ rfl rfl)⟩
theorem heap_set {w : World} {bk j : Nat} {cs : Array Value} {t : TypeId} {v : Value} (h : w.heap[bk]? = some (.cells cs t (0, 0))) : (w.setCell ⟨bk, j, none⟩ v).heap[bk]? = some (.cells (cs.setIfInBounds j v) t (0, 0)) := by
  show (w.heap.modify bk _)[bk]? = _
  obtain ⟨hlt, hk⟩ := Array.getElem?_eq_some_iff.1 h
  rw [Array.getElem?_eq_getElem (by rw [Array.size_modify]; exact hlt), Array.getElem_modify_self, hk]
  rfl
theorem oth_setAt (w : World) (bk j : Nat) (v : Value) : Oth (some ⟨bk, 0, none⟩) w (w.setCell ⟨bk, j, none⟩ v) := (Oth.refl _ w).set (p := ⟨bk, j, none⟩) (x := ⟨bk, 0, none⟩) rfl rfl v
theorem set4 {w : World} {b : Nat} {t : TypeId} {x0 x1 x2 x3 : Value} (v0 v1 v2 v3 : Value) (h : w.heap[b]? = some (.cells #[x0, x1, x2, x3] t (0, 0))) :
    ((((w.setCell ⟨b, 0, none⟩ v0).setCell ⟨b, 1, none⟩ v1).setCell ⟨b, 2, none⟩ v2).setCell ⟨b, 3, none⟩ v3).heap[b]? = some (.cells #[v0, v1, v2, v3] t (0, 0)) ∧ Oth (some ⟨b, 0, none⟩) w ((((w.setCell ⟨b, 0, none⟩ v0).setCell ⟨b, 1, none⟩ v1).setCell ⟨b, 2, none⟩ v2).setCell ⟨b, 3, none⟩ v3) :=
  ⟨heap_set (heap_set (heap_set (heap_set h))), (((oth_setAt w b 0 v0).trans (oth_setAt _ b 1 v1)).trans (oth_setAt _ b 2 v2)).trans (oth_setAt _ b 3 v3)⟩
theorem cells4 {w : World} {b : Nat} {t : TypeId} {v0 v1 v2 v3 : Value} (h : w.heap[b]? = some (.cells #[v0, v1, v2, v3] t (0, 0))) :
    w.cell? ⟨b, 0, none⟩ = some v0 ∧ w.cell? ⟨b, 1, none⟩ = some v1 ∧ w.cell? ⟨b, 2, none⟩ = some v2 ∧ w.cell? ⟨b, 3, none⟩ = some v3 ∧ ∀ j, w.frozen? ⟨b, j, none⟩ = false :=
  ⟨(cell_of_row _ _ 0 _ _ _ h).trans rfl, (cell_of_row _ _ 1 _ _ _ h).trans rfl, (cell_of_row _ _ 2 _ _ _ h).trans rfl, (cell_of_row _ _ 3 _ _ _ h).trans rfl, fun j => by simp [World.frozen?, h]⟩
theorem arr_step {A : Array Value} {k j : Nat} {f : Nat → Nat} {v : Value} (h : ∀ j, j < k → A[j]? = some (.int .u64 (f j : Nat))) (hk : k < A.size) (hv : Value.int .u64 (f k : Nat) = v) (hj : j < k + 1) : (A.setIfInBounds k v)[j]? = some (.int .u64 (f j : Nat)) := by
  rw [Array.getElem?_setIfInBounds]
  split
  · rename_i e; subst e; first | rw [if_pos hk, hv] | rw [hv]
  · exact h j (by omega)
theorem arr4 {A : Array Value} {v0 v1 v2 v3 : Value} (h : A.size = 4) (h0 : A[0]? = some v0) (h1 : A[1]? = some v1) (h2 : A[2]? = some v2) (h3 : A[3]? = some v3) : A = #[v0, v1, v2, v3] := by
  apply Array.ext_getElem?
  intro i
  match i with
  | 0 => rw [h0]; rfl
  | 1 => rw [h1]; rfl
  | 2 => rw [h2]; rfl
  | 3 => rw [h3]; rfl
  | k + 4 => rw [Array.getElem?_eq_none (by omega), Array.getElem?_eq_none (by simp)]
def Sst.sa (s : List UInt8) : Nat := (Codec.sum s).toNat
def Sst.sb (s : List UInt8) : Nat := (Codec.sum (s ++ [1])).toNat
def Sst.spot (s : List UInt8) (m j : Nat) : Nat := (Sst.sa s + j * Sst.sb s) % m
theorem n32_toNat (x : UInt32) : n32 x = (x.toNat : Int) := rfl
theorem bss_two {w : World} {s : Nat} {a a' : Option Addr} {n c n' c' : Nat} {l l' : List UInt8} (hs : s = w.heap.size) (h : Bs w a n c l) (h' : Bs w a' n' c' l') : Bss (w.alloc (.cells #[.slice a n c, .slice a' n' c'] 55)) (some ⟨s, 0, none⟩) 2 2 [l, l'] := by
  subst hs
  have hh := heap_alloc_new w (.cells #[.slice a n c, .slice a' n' c'] 55)
  refine ⟨rfl, Nat.le_refl _, by simp [maxLen], fun i hi => ?_⟩
  obtain rfl | rfl : i = 0 ∨ i = 1 := by omega
  · exact ⟨w.heap.size, 0, a, n, c, rfl, (cell_of_row _ _ 0 _ _ _ hh).trans rfl, h.below (below_alloc1 _ _)⟩
  · exact ⟨w.heap.size, 0, a', n', c', rfl, (cell_of_row _ _ 1 _ _ _ hh).trans rfl, h'.below (below_alloc1 _ _)⟩
set_option maxHeartbeats 4000000 in
theorem places_any (s : List UInt8) (m : Nat) (w : World) (hm : 1 ≤ m) (hmb : m ≤ 1000000000) (hs : s.length ≤ 1000000000) :
    Calls Try.prog 63 #[.string (bstr s), .int .u64 m] w fun e w' => e = .returned (.agg #[.int .u64 (Sst.spot s m 0 : Nat), .int .u64 (Sst.spot s m 1 : Nat), .int .u64 (Sst.spot s m 2 : Nat), .int .u64 (Sst.spot s m 3 : Nat)]) ∧ Below w.heap.size w w' := by
  have hA := (Codec.sum s).toNat_lt
  have hB := (Codec.sum (s ++ [1])).toNat_lt
  have HSP : Hid (∀ j, Sst.spot s m j = ((Codec.sum s).toNat + j * (Codec.sum (s ++ [1])).toNat) % m) := Lib.hid (fun j => rfl)
  have HNA := Lib.hid (n32_toNat (Codec.sum s))
  have HNB := Lib.hid (n32_toNat (Codec.sum (s ++ [1])))
  go_enter Try.func63, Try.ntmps63
  go_upto_region 1 with fail
  have hr0 := heap_alloc_new w (.cells #[.int .u64 0, .int .u64 0, .int .u64 0, .int .u64 0] 127)
  obtain ⟨w0, hw0⟩ : ∃ w0, w.alloc (.cells #[.int .u64 0, .int .u64 0, .int .u64 0, .int .u64 0] 127) = w0 := ⟨_, rfl⟩
  have hb0 : Below w.heap.size w w0 := by rw [← hw0]; exact below_alloc1 _ _
  rw [hw0] at hr0 ⊢
  have HR0 := Lib.hid hr0
  have HB0 := Lib.hid hb0
  clear hr0 hb0 hw0
  go_wp2_with fail
  have hS : Bs (strW w0 s) (some ⟨w0.heap.size, 0, none⟩) s.length (strCap w0 s) s := str_bs w0 s (by simp only [maxLen]; omega)
  have hbs := str_below w0 s
  generalize strW w0 s = w1 at *
  generalize strCap w0 s = sc at *
  refine (sum_any _ 1 1 [s] _ (Bss.one hS)).mono ?_
  rintro e w2 ⟨rfl, hb2⟩
  rw [show ([s] : List (List UInt8)).flatten = s by simp, HNA.out]
  have HB2 : Hid (Below w0.heap.size w0 w2) := Lib.hid (hbs.trans ((below_alloc1 w1 _).trans (hb2.mono (le_alloc (Nat.le_refl _))) |>.mono hbs.size))
  clear hS hbs hb2
  generalize (Codec.sum s).toNat = A at *
  generalize hBN : (Codec.sum (s ++ [1])).toNat = Bn at *
  clear hBN
  go_wp2_with fail
  have hS : Bs (strW w2 s) (some ⟨w2.heap.size, 0, none⟩) s.length (strCap w2 s) s := str_bs w2 s (by simp only [maxLen]; omega)
  have hbs := str_below w2 s
  generalize strW w2 s = w3 at *
  generalize strCap w2 s = sc2 at *
  have h1 : Bs (w3.alloc (.cells #[.int .u8 1] 5)) (some ⟨w3.heap.size, 0, none⟩) 1 1 [1] := Bs.one w3 1
  have hS4 := hS.below (below_alloc1 w3 (.cells #[.int .u8 1] 5))
  have hb4 := hbs.trans ((below_alloc1 w3 (.cells #[.int .u8 1] 5)).mono hbs.size)
  refine (sum_any _ 2 2 [s, [1]] _ (bss_two (by first | rfl | simp) hS4 h1)).mono ?_
  rintro e w6 ⟨rfl, hb6⟩
  rw [show ([s, [1]] : List (List UInt8)).flatten = s ++ [1] by simp, HNB.out]
  have HB6 : Hid (Below w0.heap.size w0 w6) := Lib.hid (HB2.out.trans ((hb4.trans (((below_alloc1 _ _).trans (hb6.mono (le_alloc (Nat.le_refl _)))).mono hb4.size)).mono HB2.out.size))
  have hr6 := (HB6.out.block _ (Array.getElem?_eq_some_iff.1 HR0.out).1).trans HR0.out
  have HB6W := Lib.hid (HB0.out.trans (HB6.out.mono HB0.out.size))
  have HR6 := Lib.hid hr6
  clear hS hbs hb6 h1 hS4 hb4 hr6 HNA HNB HB2 HB6 HR0 HB0
  go_wp2_with fail
  go_loopw [19] (fun iv wr => ∃ (k : Nat) (Ar : Array Value), k ≤ 4 ∧ iv = .int .i64 k ∧ Hid (wr.heap[w.heap.size]? = some (.cells Ar 127 (0, 0)) ∧ Ar.size = 4 ∧ ∀ j, j < k → Ar[j]? = some (.int .u64 (Sst.spot s m j : Nat))) ∧ Hid (Below w.heap.size w wr)) (fun iv _ => 4 - (intOf iv).toNat)
  case atStart => exact ⟨0, _, Nat.zero_le _, rfl, Lib.hid ⟨HR6.out, rfl, fun j hj => by omega⟩, HB6W⟩
  case round =>
    obtain ⟨k, Ar, hk, rfl, HAR, HBR⟩ := hrel
    obtain ⟨g1, g2, g3⟩ := HAR.out
    by_cases hlt : k < 4
    · obtain ⟨v0, hv0⟩ : ∃ v, Ar[k]? = some v := ⟨_, Array.getElem?_eq_getElem (by omega)⟩
      have c1 : wr.cell? ⟨w.heap.size, k, none⟩ = some v0 := (cell_of_row _ _ k _ _ _ g1).trans hv0
      have c2 : wr.frozen? ⟨w.heap.size, k, none⟩ = false := by simp [World.frozen?, g1]
      obtain ⟨P, hP⟩ : ∃ P, P = k * Bn := ⟨_, rfl⟩
      have hPb : P ≤ 3 * 4294967296 := by
        have h1 : k * Bn ≤ 3 * Bn := Nat.mul_le_mul_right _ (by omega)
        omega
      have eP : (k : Int) * (Bn : Int) = (P : Int) := by rw [hP, Int.natCast_mul]
      obtain ⟨S, hS⟩ : ∃ S, S = (A + P) % m := ⟨_, rfl⟩
      have eS : ((A : Int) + (P : Int)) % (m : Int) = (S : Int) := by rw [hS, Int.natCast_emod, Int.natCast_add]
      have hm0 : ((m : Int) == 0) = false := by rw [beq_eq_false_iff_ne]; omega
      have HSK : Hid (Sst.spot s m k = S) := Lib.hid (by rw [HSP.out, hS, hP])
      have htk : decide (k < 4) = true := decide_eq_true hlt
      clear hP hS hv0 g1 g2 g3
      go_wp2
      go_roundw
      case rel => exact ⟨k + 1, Ar.setIfInBounds k (.int .u64 (S : Nat)), by omega, by go_num, Lib.hid ⟨heap_set HAR.out.1, by simp [HAR.out.2.1], fun j hj => arr_step HAR.out.2.2 (by rw [HAR.out.2.1]; omega) (by rw [HSK.out]) hj⟩, Lib.hid (HBR.out.setCell (p := ⟨w.heap.size, k, none⟩) (Nat.le_refl _) _)⟩
      case measure => simp [intOf]; omega
    · obtain rfl : k = 4 := by omega
      have e4 := arr4 g2 (g3 0 (by omega)) (g3 1 (by omega)) (g3 2 (by omega)) (g3 3 (by omega))
      subst e4
      have HG1 := Lib.hid g1
      obtain ⟨k0, k1, k2, k3, kf⟩ := cells4 g1
      clear g1 g2 g3
      generalize hs0 : Sst.spot s m 0 = s0 at *
      have HS0 := Lib.hid hs0
      clear hs0
      generalize hs1 : Sst.spot s m 1 = s1 at *
      have HS1 := Lib.hid hs1
      clear hs1
      generalize hs2 : Sst.spot s m 2 = s2 at *
      have HS2 := Lib.hid hs2
      clear hs2
      generalize hs3 : Sst.spot s m 3 = s3 at *
      have HS3 := Lib.hid hs3
      clear hs3
      go_wp2
      obtain ⟨hs, hoth⟩ := set4 (.int .u64 (s0 : Nat)) (.int .u64 (s1 : Nat)) (.int .u64 (s2 : Nat)) (.int .u64 (s3 : Nat)) HG1.out
      have hbb := HBR.out.trans (hoth.below HBR.out.size (fun x hx => by cases hx; exact Nat.le_refl _))
      generalize World.setCell _ _ _ = W9 at *
      obtain ⟨q0, q1, q2, q3, _⟩ := cells4 hs
      exact bodyPost_ret (v := .agg #[.int .u64 (s0 : Nat), .int .u64 (s1 : Nat), .int .u64 (s2 : Nat), .int .u64 (s3 : Nat)]) (by simp [results, Try.results63, go_sem, q0, q1, q2, q3]) rfl ⟨by rw [HS0.out, HS1.out, HS2.out, HS3.out], hbb⟩
end Go.Proofs.Ytchdmjnhjonddaa
