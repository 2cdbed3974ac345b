/- The walk of the law CodecBits. -/
import Derived.Test.YtfjgapfkobpkhaaCodecG
import Derived.Test.YtfjgapfkobpkhaaCodecK
import Derived.Test.YtfjgapfkobpkhaaCodecP
namespace Go.Proofs.Ytfjgapfkobpkhaa
open Go.RowKit

theorem bit_xor (y : UInt8) (r : Nat) : bits .xor .u8 (n8 y) ((2 : Int) ^ r % 256) = n8 (y ^^^ UInt8.ofNat (2 ^ r)) := by
  have e : (2 : Int) ^ r % 256 = n8 (UInt8.ofNat (2 ^ r)) := by
    unfold n8
    rw [UInt8.toNat_ofNat']
    simp
  rw [e, xor8]
/-- Behind the store: the frame with that one bit turned; it is refused. -/
theorem bits_after {w : World} {B g n c nx A : Nat} {x : List UInt8} (h : Own w B (some ⟨g, 0, none⟩) n c (Codec.frame x)) (hx : x.length = nx) (hnx : nx ≤ 65536) (hA : A < 8 * nx) :
    Bs (w.setCell ⟨g, n - nx + A / 8, none⟩ (.int .u8 (n8 (nth (Codec.frame x) (n - nx + A / 8) ^^^ UInt8.ofNat (2 ^ (A % 8)))))) (some ⟨g, 0, none⟩) n c ((Codec.frame x).set (n - nx + A / 8) (nth (Codec.frame x) (n - nx + A / 8) ^^^ UInt8.ofNat (2 ^ (A % 8)))) ∧
    Codec.rdFrame ((Codec.frame x).set (n - nx + A / 8) (nth (Codec.frame x) (n - nx + A / 8) ^^^ UInt8.ofNat (2 ^ (A % 8)))) = ([], 0, 13) := by
  have hn : (Codec.frame x).length = n := h.bs.1
  constructor
  · have hs := (World.ownsRow.stored h (n - nx + A / 8) (.int .u8 (n8 (nth (Codec.frame x) (n - nx + A / 8) ^^^ UInt8.ofNat (2 ^ (A % 8)))))).1
    have e : (vs (Codec.frame x)).set (n - nx + A / 8) (.int .u8 (n8 (nth (Codec.frame x) (n - nx + A / 8) ^^^ UInt8.ofNat (2 ^ (A % 8))))) = vs ((Codec.frame x).set (n - nx + A / 8) (nth (Codec.frame x) (n - nx + A / 8) ^^^ UInt8.ofNat (2 ^ (A % 8)))) := by
      simp only [vs, List.map_set]
    rw [e] at hs
    exact Own.bs (B := B) hs
  · have hk : A / 8 < x.length := by omega
    obtain ⟨h1, h2⟩ := Codec.frame_get hk
    have e : n - nx + A / 8 = (Codec.frame x).length - x.length + A / 8 := by rw [hn, hx]
    rw [e]
    refine Codec.frame_set hk (by omega) ?_
    rw [nth_eq _ h1, h2]
    exact Codec.xor_ne (Codec.bit_ne _ (by omega))

set_option maxHeartbeats 4000000 in
theorem codecBits_walk (ax : Option Addr) (nx cx : Nat) (x : List UInt8) (at_ : Int) (w : World) (hx : Bs w ax nx cx x) :
    Calls Try.prog 7 #[.slice ax nx cx, .int .i64 at_] w fun e w' => e = .returned (.bool true) ∧ Below w.heap.size w w' := by
  have hlex := hx.le.1
  have HX := Lib.hid hx.1
  go_enter Try.func7, Try.ntmps7
  go_wp2_with fail
  refine (known_any _).mono ?_
  rintro e w1 ⟨rfl, hb1⟩
  by_cases g1 : nx = 0
  · have t1 : ((nx : Int) == 0) = true := by rw [beq_iff_eq]; omega
    clear g1
    go_wp2
    go_ret
    exact ⟨rfl, hb1⟩
  have t1 : ((nx : Int) == 0) = false := by rw [beq_eq_false_iff_ne]; omega
  by_cases g2 : 65536 < nx
  · have t2 : decide ((65536 : Int) < (nx : Int)) = true := decide_eq_true (by omega)
    go_wp2
    go_ret
    exact ⟨rfl, hb1⟩
  have t2 : decide ((65536 : Int) < (nx : Int)) = false := decide_eq_false (by omega)
  have hnx : nx ≤ 65536 := by omega
  have t3 : ((8 * (nx : Int)) == 0) = false := by rw [beq_eq_false_iff_ne]; omega
  obtain ⟨T, hT⟩ : ∃ T, Int.tmod at_ (8 * (nx : Int)) = T := ⟨_, rfl⟩
  have hTb : -(8 * (nx : Int)) < T ∧ T < 8 * (nx : Int) := by
    rw [← hT, Int.tmod_eq_emod]
    have h1 := Int.emod_nonneg at_ (b := 8 * (nx : Int)) (by omega)
    have h2 := Int.emod_lt_of_pos at_ (b := 8 * (nx : Int)) (by omega)
    split <;> omega
  obtain ⟨A, hA, hA2⟩ : ∃ A : Nat, ((T < 0 → T + 8 * (nx : Int) = (A : Int)) ∧ (¬ T < 0 → T = (A : Int))) ∧ A < 8 * nx := by
    by_cases h : T < 0
    · exact ⟨(T + 8 * (nx : Int)).toNat, by omega, by omega⟩
    · exact ⟨T.toNat, by omega, by omega⟩
  have hT2 : -1000000 ≤ T ∧ T ≤ 1000000 := by omega
  clear g1 g2
  by_cases hneg : T < 0
  · have hA := hA.1 hneg
    have t4 : decide (T < 0) = true := decide_eq_true hneg
    clear hneg
    go_wp2_with fail
    refine (frame_any _ _ _ x _ (hx.below hb1) ⟨by omega⟩).mono ?_
    rintro e w2 ⟨a2, n2, c2, rfl, ho2, hb2⟩
    have hn2 : (Codec.frame x).length = n2 := ho2.bs.1
    have hge : nx + 4 ≤ n2 := by rw [← hn2, ← HX.out]; unfold Codec.frame; simp [Codec.four]
    have hle2 : n2 ≤ nx + 14 := by
      have h1 := frame_len (x := x) ⟨by rw [HX.out]; omega⟩
      rw [HX.out, hn2] at h1
      exact h1
    obtain ⟨g, rfl⟩ : ∃ g, a2 = some ⟨g, 0, none⟩ := by
      rcases ho2.2 with ⟨h0, _⟩ | ⟨g, cap, cur, h0, _⟩
      · cases h0; omega
      · cases h0; exact ⟨g, rfl⟩
    have c1 : w2.cell? ⟨g, n2 - nx + A / 8, none⟩ = some (.int .u8 (n8 (nth (Codec.frame x) (n2 - nx + A / 8)))) := by
      rw [World.ownsRow.cellAt ho2 (n2 - nx + A / 8) (by omega)]
      rw [vs, List.getElem?_map, List.getElem?_eq_getElem (by omega), nth_eq (Codec.frame x) (k := n2 - nx + A / 8) (by omega)]
      rfl
    have f1 : w2.frozen? ⟨g, n2 - nx + A / 8, none⟩ = false := World.ownsRow.frozenAt ho2 (n2 - nx + A / 8)
    have hilt : (n2 : Int) - (nx : Int) + (A : Int) / 8 < (n2 : Int) := by omega
    have hi0 : 0 ≤ (n2 : Int) - (nx : Int) + (A : Int) / 8 := by omega
    have HO := Lib.hid ho2
    have HN := Lib.hid hn2
    clear ho2 hn2
    have hbit := bit_xor (nth (Codec.frame x) (n2 - nx + A / 8)) (A % 8)
    obtain ⟨ha, hr⟩ := bits_after HO.out HX.out hnx hA2
    have hbel : Below w.heap.size w (w2.setCell ⟨g, n2 - nx + A / 8, none⟩ (.int .u8 (n8 (nth (Codec.frame x) (n2 - nx + A / 8) ^^^ UInt8.ofNat (2 ^ (A % 8)))))) :=
      (hb1.trans (hb2.mono hb1.size)).setCell (p := ⟨g, n2 - nx + A / 8, none⟩) (Nat.le_trans hb1.size (HO.out.new ⟨g, 0, none⟩ rfl).1) _
    have HA := Lib.hid ha
    have HR := Lib.hid hr
    have HB := Lib.hid hbel
    have HI := Lib.hid hbit
    clear ha hr hbel hbit
    go_wp2_with fail
    rw [HI.out]
    refine (readframe_any _ _ _ _ _ HA.out ⟨by omega⟩).mono ?_
    rintro e w6 ⟨a6, n6, c6, rfl, ho6, hb6⟩
    rw [HR.out] at ho6 ⊢
    go_wp2
    go_ret
    exact ⟨rfl, HB.out.trans (hb6.mono HB.out.size)⟩
  · have hA := hA.2 hneg
    have t4 : decide ((A : Int) < 0) = false := decide_eq_false (by omega)
    subst hA
    clear hneg
    go_wp2_with fail
    refine (frame_any _ _ _ x _ (hx.below hb1) ⟨by omega⟩).mono ?_
    rintro e w2 ⟨a2, n2, c2, rfl, ho2, hb2⟩
    have hn2 : (Codec.frame x).length = n2 := ho2.bs.1
    have hge : nx + 4 ≤ n2 := by rw [← hn2, ← HX.out]; unfold Codec.frame; simp [Codec.four]
    have hle2 : n2 ≤ nx + 14 := by
      have h1 := frame_len (x := x) ⟨by rw [HX.out]; omega⟩
      rw [HX.out, hn2] at h1
      exact h1
    obtain ⟨g, rfl⟩ : ∃ g, a2 = some ⟨g, 0, none⟩ := by
      rcases ho2.2 with ⟨h0, _⟩ | ⟨g, cap, cur, h0, _⟩
      · cases h0; omega
      · cases h0; exact ⟨g, rfl⟩
    have c1 : w2.cell? ⟨g, n2 - nx + A / 8, none⟩ = some (.int .u8 (n8 (nth (Codec.frame x) (n2 - nx + A / 8)))) := by
      rw [World.ownsRow.cellAt ho2 (n2 - nx + A / 8) (by omega)]
      rw [vs, List.getElem?_map, List.getElem?_eq_getElem (by omega), nth_eq (Codec.frame x) (k := n2 - nx + A / 8) (by omega)]
      rfl
    have f1 : w2.frozen? ⟨g, n2 - nx + A / 8, none⟩ = false := World.ownsRow.frozenAt ho2 (n2 - nx + A / 8)
    have hilt : (n2 : Int) - (nx : Int) + (A : Int) / 8 < (n2 : Int) := by omega
    have hi0 : 0 ≤ (n2 : Int) - (nx : Int) + (A : Int) / 8 := by omega
    have HO := Lib.hid ho2
    have HN := Lib.hid hn2
    clear ho2 hn2
    have hbit := bit_xor (nth (Codec.frame x) (n2 - nx + A / 8)) (A % 8)
    obtain ⟨ha, hr⟩ := bits_after HO.out HX.out hnx hA2
    have hbel : Below w.heap.size w (w2.setCell ⟨g, n2 - nx + A / 8, none⟩ (.int .u8 (n8 (nth (Codec.frame x) (n2 - nx + A / 8) ^^^ UInt8.ofNat (2 ^ (A % 8)))))) :=
      (hb1.trans (hb2.mono hb1.size)).setCell (p := ⟨g, n2 - nx + A / 8, none⟩) (Nat.le_trans hb1.size (HO.out.new ⟨g, 0, none⟩ rfl).1) _
    have HA := Lib.hid ha
    have HR := Lib.hid hr
    have HB := Lib.hid hbel
    have HI := Lib.hid hbit
    clear ha hr hbel hbit
    go_wp2_with fail
    rw [HI.out]
    refine (readframe_any _ _ _ _ _ HA.out ⟨by omega⟩).mono ?_
    rintro e w6 ⟨a6, n6, c6, rfl, ho6, hb6⟩
    rw [HR.out] at ho6 ⊢
    go_wp2
    go_ret
    exact ⟨rfl, HB.out.trans (hb6.mono HB.out.size)⟩
end Go.Proofs.Ytfjgapfkobpkhaa
