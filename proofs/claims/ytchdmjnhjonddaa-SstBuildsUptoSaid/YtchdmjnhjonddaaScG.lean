/- Payloads that are read: ReadFrame, ReadBytes, the reference's. -/
import Derived.Test.YtchdmjnhjonddaaScF
namespace Go.Proofs.Ytchdmjnhjonddaa
open Go.RowKit

/-- What a reader hands back: bytes, a place, an error. -/
def RetR (w : World) (r : List UInt8 × Nat × Nat) (e : Ending) (w' : World) : Prop := ∃ a n c, e = .returned (.tuple #[.slice a n c, .int .i64 r.2.1, .int .i64 r.2.2]) ∧ Bs w' a n c r.1 ∧ Below w.heap.size w w'

set_option maxHeartbeats 1000000 in
theorem readframe_any (a : Option Addr) (n c : Nat) (l : List UInt8) (w : World) (h : Bs w a n c l) (hf : Fits n) :
    Calls Try.prog 58 #[.slice a n c] w (RetR w (Codec.rdFrame l)) := by
  have hle := h.le.1
  have hlc := h.2.1
  have HL := Lib.hid h.1
  by_cases h0 : (Codec.decFrame l).2.2 = 0
  · obtain ⟨v, k, hd, _, hv4, _, hdf, _, hle4⟩ := Codec.decFrame_ok h0
    have hr : Codec.rdFrame l = ((l.drop (k + 4)).take v, k + 4 + v, 0) := by
      unfold Codec.rdFrame; rw [if_pos h0, hdf]; simp
    rw [HL.out] at hv4 hle4
    have hc4 : k + 4 + v ≤ c := by omega
    have HR := Lib.hid hr
    have HD := Lib.hid hdf
    clear hd hdf h0 hr
    have hs := fun w => slice_lh a n c (lo := (k : Int) + 4) (hi := (k : Int) + 4 + (v : Int)) (lo' := k + 4) (hi' := k + 4 + v) (by omega) (by omega) (by omega) hc4 w
    rw [show k + 4 + v - (k + 4) = v by omega] at hs
    have hp := h.sub (lo := k + 4) (hi := k + 4 + v) (by omega) (by omega)
    rw [show k + 4 + v - (k + 4) = v by omega] at hp
    go_enter Try.func58, Try.ntmps58
    go_wp2_with fail
    refine (frameread_any _ _ _ l _ h).mono ?_
    rintro e w1 ⟨rfl, hb1⟩
    rw [HD.out]
    go_wp2_with fail
    refine (clone_any _ _ _ _ _ (hp.below hb1) ⟨by have := hf.le; omega⟩).mono ?_
    rintro e w2 ⟨a2, n2, c2, rfl, ho2, hb2⟩
    go_wp2
    go_ret3
    exact ⟨_, _, _, by rw [HR.out]; rfl, by rw [HR.out]; exact ho2.bs, hb1.trans (hb2.mono hb1.size)⟩
  · have hr : Codec.rdFrame l = ([], 0, (Codec.decFrame l).2.2) := by unfold Codec.rdFrame; rw [if_neg h0]
    have hz : (Codec.decFrame l).1 = 0 ∧ (Codec.decFrame l).2.1 = 0 := by
      unfold Codec.decFrame at h0 ⊢
      split
      · exact ⟨rfl, rfl⟩
      · split
        · exact ⟨rfl, rfl⟩
        · split
          · exact ⟨rfl, rfl⟩
          · split
            · rename_i g1 g2 g3 g4; rw [if_neg g1, if_neg g2, if_neg g3, if_pos g4] at h0; exact absurd rfl h0
            · exact ⟨rfl, rfl⟩
    obtain ⟨er, hd⟩ : ∃ er, Codec.decFrame l = (0, 0, er) := ⟨(Codec.decFrame l).2.2, Prod.ext hz.1 (Prod.ext hz.2 rfl)⟩
    rw [hd] at hr h0
    have HR := Lib.hid hr
    have HD := Lib.hid hd
    have t1 : ((er : Int) != 0) = true := by simp; simpa using h0
    clear hr hz h0 hd
    go_enter Try.func58, Try.ntmps58
    go_wp2_with fail
    refine (frameread_any _ _ _ l _ h).mono ?_
    rintro e w1 ⟨rfl, hb1⟩
    rw [HD.out]
    go_wp2
    go_ret3
    exact ⟨_, _, _, by rw [HR.out]; rfl, by rw [HR.out]; exact Bs.nil _, hb1⟩

set_option maxHeartbeats 1000000 in
theorem readbytes_any (a : Option Addr) (n c : Nat) (l : List UInt8) (most : Int) (w : World) (h : Bs w a n c l) (hf : Fits n) (hm1 : -9223372036854775808 ≤ most) (hm2 : most ≤ 9223372036854775807) :
    Calls Try.prog 101 #[.slice a n c, .int .i64 most] w (RetR w (Codec.rdBytes l most)) := by
  have hle := h.le.1
  have hlc := h.2.1
  have HL := Lib.hid h.1
  obtain ⟨v, k, er, hd⟩ : ∃ v k er, Codec.dec l = (v, k, er) := ⟨_, _, _, rfl⟩
  have HD := Lib.hid hd
  have hmx : (if most < 0 then (0 : Int) else most) = ((most.toNat : Nat) : Int) := by split <;> omega
  by_cases h1 : er = 0
  · subst h1
    have hb := Codec.dec_back hd
    rw [HL.out] at hb
    obtain ⟨_, hk0, hkn, hk10, hv64⟩ := hb
    have HV := Lib.hid hv64
    clear hv64
    by_cases h2 : most.toNat < v
    · have hr : Codec.rdBytes l most = ([], 0, 3) := by unfold Codec.rdBytes; rw [HD.out]; simp [h2]
      have HR := Lib.hid hr
      have t2 : decide (most.toNat < v) = true := by simp; omega
      clear hd hr
      go_enter Try.func101, Try.ntmps101
      go_wp2_with fail
      refine (readnum_any _ _ _ l _ h).mono ?_
      rintro e w1 ⟨rfl, rfl⟩
      rw [HD.out]
      go_wp2
      go_ret3
      exact ⟨_, _, _, by rw [HR.out]; rfl, by rw [HR.out]; exact Bs.nil _, Below.refl _ _⟩
    · have t2 : decide (most.toNat < v) = false := by simp; omega
      by_cases h3 : n - k < v
      · have hr : Codec.rdBytes l most = ([], 0, 11) := by unfold Codec.rdBytes; rw [HD.out, HL.out]; simp [h2, h3]
        have HR := Lib.hid hr
        have t3 : decide ((n : Int) - (k : Int) < (v : Int)) = true := by simp; omega
        clear hd hr
        go_enter Try.func101, Try.ntmps101
        go_wp2_with fail
        refine (readnum_any _ _ _ l _ h).mono ?_
        rintro e w1 ⟨rfl, rfl⟩
        rw [HD.out]
        go_wp2
        go_ret3
        exact ⟨_, _, _, by rw [HR.out]; rfl, by rw [HR.out]; exact Bs.nil _, Below.refl _ _⟩
      · have t3 : decide ((n : Int) - (k : Int) < (v : Int)) = false := by simp; omega
        have hr : Codec.rdBytes l most = ((l.drop k).take v, k + v, 0) := by unfold Codec.rdBytes; rw [HD.out, HL.out]; simp [h2, h3]
        have HR := Lib.hid hr
        have hc4 : k + v ≤ c := by omega
        clear hd hr
        have hs := fun w => slice_lh a n c (lo := (k : Int)) (hi := (k : Int) + (v : Int)) (lo' := k) (hi' := k + v) rfl (by omega) (by omega) hc4 w
        rw [show k + v - k = v by omega] at hs
        have hp := h.sub (lo := k) (hi := k + v) (by omega) (by omega)
        rw [show k + v - k = v by omega] at hp
        go_enter Try.func101, Try.ntmps101
        go_wp2_with fail
        refine (readnum_any _ _ _ l _ h).mono ?_
        rintro e w1 ⟨rfl, rfl⟩
        rw [HD.out]
        go_wp2_with fail
        refine (clone_any _ _ _ _ _ hp ⟨by have := hf.le; omega⟩).mono ?_
        rintro e w2 ⟨a2, n2, c2, rfl, ho2, hb2⟩
        go_wp2
        go_ret3
        exact ⟨_, _, _, by rw [HR.out]; rfl, by rw [HR.out]; exact ho2.bs, hb2⟩
  · have hr : Codec.rdBytes l most = ([], 0, er) := by unfold Codec.rdBytes; rw [HD.out]; simp [h1]
    have HR := Lib.hid hr
    have t1 : ((er : Int) != 0) = true := by simp; omega
    clear hd hr
    go_enter Try.func101, Try.ntmps101
    go_wp2_with fail
    refine (readnum_any _ _ _ l _ h).mono ?_
    rintro e w1 ⟨rfl, rfl⟩
    rw [HD.out]
    go_wp2
    go_ret3
    exact ⟨_, _, _, by rw [HR.out]; rfl, by rw [HR.out]; exact Bs.nil _, Below.refl _ _⟩

end Go.Proofs.Ytchdmjnhjonddaa
