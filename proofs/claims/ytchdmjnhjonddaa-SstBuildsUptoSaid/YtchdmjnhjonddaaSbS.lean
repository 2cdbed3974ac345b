/- Sorted tables: May. -/
import Derived.Test.YtchdmjnhjonddaaSbO
set_option maxRecDepth 100000
set_option linter.unusedVariables false
set_option linter.unusedSimpArgs false
namespace Go.Proofs.Ytchdmjnhjonddaa
open Go.RowKit

def Sst.bit (f : List UInt8) (p : Nat) : Bool := decide ((nth f (p / 8)).toNat / 2 ^ (p % 8) % 2 = 1)
def Sst.may (f s : List UInt8) : Bool := (List.range 4).all fun j => Sst.bit f (Sst.spot s (8 * f.length) j)
theorem may_no {f s : List UInt8} {k : Nat} (hk : k < 4) (h : Sst.bit f (Sst.spot s (8 * f.length) k) = false) : Sst.may f s = false := by
  unfold Sst.may
  rw [List.all_eq_false]
  exact ⟨k, List.mem_range.2 hk, by rw [h]; simp⟩
theorem may_yes {f s : List UInt8} (h : ∀ k, k < 4 → Sst.bit f (Sst.spot s (8 * f.length) k) = true) : Sst.may f s = true := by
  unfold Sst.may
  rw [List.all_eq_true]
  exact fun k hk => h k (List.mem_range.1 hk)
theorem spot_lt {s : List UInt8} {m j : Nat} (h : 0 < m) : Sst.spot s m j < m := Nat.mod_lt _ h
theorem bit_and (x : UInt8) (r : Nat) : bits .and .u8 (n8 x / 2 ^ r) 1 = ((x.toNat / 2 ^ r % 2 : Nat) : Int) := by
  have e : n8 x / 2 ^ r = ((x.toNat / 2 ^ r : Nat) : Int) := by unfold n8; rw [Int.natCast_ediv, Int.natCast_pow]; rfl
  have hx := x.toNat_lt
  have h1 : x.toNat / 2 ^ r < 256 := Nat.lt_of_le_of_lt (Nat.div_le_self _ _) hx
  rw [e, show (1 : Int) = ((1 : Nat) : Int) from rfl, Go.u8_and_nat _ _ h1 (by omega), Nat.and_one_is_mod]
set_option maxHeartbeats 4000000 in
theorem may_any {w : World} {bk : Nat} {a : Option Addr} {n c : Nat} {l : List Ent} {m : Nat} {af : Option Addr} {nf cf : Nat} {f : List UInt8} (h : Tb w bk a n c l m af nf cf f) (s : List UInt8) (hn : 1 ≤ nf) (hnb : nf ≤ 1000000) (hs : s.length ≤ 1000000000) :
    Calls Try.prog 33 #[.pointer (some ⟨bk, 0, none⟩), .string (bstr s)] w fun e w' => e = .returned (.bool (Sst.may f s)) ∧ Below w.heap.size w w' := by
  have hfl := h.fs.1
  have hle := h.fs.le.1
  have hlc := h.fs.2.1
  obtain ⟨c0, c1, c2, _⟩ := cells3 h.heap
  have HT := Lib.hid h
  have HPC := Lib.hid (places_any s (8 * nf) w (by omega) (by omega) hs)
  have HSL : Hid (∀ j, Sst.spot s (8 * nf) j < 8 * nf) := Lib.hid (fun j => spot_lt (by omega))
  have HNO : Hid (∀ k, k < 4 → Sst.bit f (Sst.spot s (8 * nf) k) = false → Sst.may f s = false) := Lib.hid (fun k hk hb => may_no hk (by rw [hfl]; exact hb))
  have HYES : Hid ((∀ k, k < 4 → Sst.bit f (Sst.spot s (8 * nf) k) = true) → Sst.may f s = true) := Lib.hid (fun hb => may_yes (by rw [hfl]; exact hb))
  have HBIT : Hid (∀ p, Sst.bit f p = decide ((nth f (p / 8)).toNat / 2 ^ (p % 8) % 2 = 1)) := Lib.hid (fun p => rfl)
  have HFL := Lib.hid hfl
  clear h hfl
  obtain ⟨M, hM⟩ : ∃ M, M = 8 * nf := ⟨_, rfl⟩
  have em : (8 : Int) * (nf : Int) = (M : Int) := by omega
  have hMb : M ≤ 8000000 := by omega
  rw [← hM] at HPC HSL HNO HYES
  have HM := Lib.hid hM
  clear hM
  go_enter Try.func33, Try.ntmps33
  go_wp2_with fail
  refine HPC.out.mono ?_
  rintro en w1 ⟨rfl, hb1⟩
  have HB1 := Lib.hid hb1
  have HIX : Hid (∀ k, k < 4 → ∀ W, (Instr.index 127 (.agg #[.int .u64 (Sst.spot s M 0 : Nat), .int .u64 (Sst.spot s M 1 : Nat), .int .u64 (Sst.spot s M 2 : Nat), .int .u64 (Sst.spot s M 3 : Nat)]) (.int .i64 (k : Nat))).run Try.prog W = .ok (.int .u64 (Sst.spot s M k : Nat)) W) := Lib.hid (by
    intro k hk W
    obtain rfl | rfl | rfl | rfl : k = 0 ∨ k = 1 ∨ k = 2 ∨ k = 3 := by omega
    · exact idx0 _ _ _ _ W
    · exact idx1 _ _ _ _ W
    · exact idx2 _ _ _ _ W
    · exact idx3 _ _ _ _ W)
  clear hb1 HPC
  generalize Sst.spot s M 0 = s0 at *
  generalize Sst.spot s M 1 = s1 at *
  generalize Sst.spot s M 2 = s2 at *
  generalize Sst.spot s M 3 = s3 at *
  have c2' := cell_later HB1.out c2
  have c0' := cell_later HB1.out c0
  clear c0 c1 c2
  go_wp2_with fail
  go_loopw [16] (fun iv wr => ∃ k : Nat, k ≤ 4 ∧ iv = .int .i64 k ∧ wr = w1 ∧ Hid (∀ j, j < k → Sst.bit f (Sst.spot s M j) = true)) (fun iv _ => 4 - (intOf iv).toNat)
  case atStart => exact ⟨0, by omega, rfl, rfl, Lib.hid (fun j hj => by omega)⟩
  case round =>
    obtain ⟨k, hk, rfl, rfl, HJ⟩ := hrel
    by_cases hlt : k < 4
    · have hx := HIX.out k hlt
      have hsl := HSL.out k
      have HBT := Lib.hid (HBIT.out (Sst.spot s M k))
      have HNK := Lib.hid (HNO.out k hlt)
      have HJK : Hid (Sst.bit f (Sst.spot s M k) = true → ∀ j, j < k + 1 → Sst.bit f (Sst.spot s M j) = true) := Lib.hid (fun hb j hj => by
        by_cases e : j = k
        · rw [e]; exact hb
        · exact HJ.out j (by omega))
      have hM8 := HM.out
      generalize Sst.spot s M k = p at *
      obtain ⟨d, hd⟩ : ∃ d, d = p / 8 := ⟨_, rfl⟩
      obtain ⟨r, hr⟩ : ∃ r, r = p % 8 := ⟨_, rfl⟩
      have hr8 : r < 8 := by omega
      have hd8 : d < nf := by omega
      have ed : ((p : Int)) / 8 = (d : Int) := by omega
      have er : ((p : Int)) % 8 = (r : Int) := by omega
      rw [← hd, ← hr] at HBT
      obtain ⟨bf, of, rfl, hcf⟩ := (HT.out.fs.below HB1.out).2.2.2 d (.int .u8 (n8 (nth f d))) (by
        unfold vs
        rw [List.getElem?_map, List.getElem?_eq_getElem (by rw [HFL.out]; exact hd8), ← nth_eq _ (by rw [HFL.out]; exact hd8)]
        rfl)
      have htk : decide (k < 4) = true := decide_eq_true hlt
      clear hd hr hM8
      by_cases hb : (nth f d).toNat / 2 ^ r % 2 = 1
      · have hbt : Sst.bit f p = true := by rw [HBT.out]; exact decide_eq_true hb
        have tt : (bits BinOp.and IntKind.u8 (n8 (nth f d) / 2 ^ r) 1 == 0) = false := by rw [bit_and, hb]; rfl
        have HJ2 := Lib.hid (HJK.out hbt)
        clear hb hbt
        go_wp2
        go_roundw
        case rel => exact ⟨k + 1, by omega, by go_num, trivial, HJ2⟩
        case measure => simp [intOf]; omega
      · have hbt : Sst.bit f p = false := by rw [HBT.out]; exact decide_eq_false hb
        have hb0 : (nth f d).toNat / 2 ^ r % 2 = 0 := by omega
        have tt : (bits BinOp.and IntKind.u8 (n8 (nth f d) / 2 ^ r) 1 == 0) = true := by rw [bit_and, hb0]; rfl
        have HNN := Lib.hid (HNK.out hbt)
        clear hb hbt hb0
        go_wp2
        go_ret
        exact ⟨by rw [HNN.out]; rfl, HB1.out⟩
    · obtain rfl : k = 4 := by omega
      have HYY := Lib.hid (HYES.out HJ.out)
      clear hlt
      go_wp2
      go_ret
      exact ⟨by rw [HYY.out]; rfl, HB1.out⟩
end Go.Proofs.Ytchdmjnhjonddaa
