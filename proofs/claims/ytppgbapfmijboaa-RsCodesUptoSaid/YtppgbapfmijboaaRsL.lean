/- rs, the plain laws: shards of a sum; a byte that is changed. -/
import Derived.Test.YtppgbapfmijboaaRsd
set_option maxRecDepth 100000
set_option linter.unusedVariables false
namespace Go.Proofs.Ytppgbapfmijboaa
open Go.RowKit Go.Deep

theorem cau_ne0 {K M j i : Nat} (hj : j < M) (hi : i < K) (h : K + M ≤ 256) : Gf.cau K j i ≠ 0 := by
  rw [cau_inv, ← UInt8.ofNat_add]
  refine Gf.inv_ne0 (Gf.xor_ne fun e => ?_)
  have := Gf.ofNat_inj (by omega) (by omega) e
  omega
theorem nth_none {l : List UInt8} {k : Nat} (h : l.length ≤ k) : nth l k = 0 := by
  unfold nth
  rw [List.getD_eq_getElem?_getD, List.getElem?_eq_none h]; rfl
/-- A parity byte, out of any shards. -/
def Rs.pb (K M : Nat) (Z : Nat → Nat → UInt8) (j x : Nat) : UInt8 := Gf.sm K (fun q => Gf.mul (Gf.cau K j q) (Z q x))
theorem tm_pb {K M L j x : Nat} {Z : Nat → Nat → UInt8} (hj : j < M) (hx : x < L) : Rs.tm (mat M K (Gf.cau K)) (mat K L Z) K j x = Rs.pb K M Z j x :=
  Gf.sm_congr fun q hq => by unfold Rs.term; rw [at2_mat hj hq, at2_mat hq hx]
theorem enc_lo {K M : Nat} {d : List UInt8} {i j : Nat} (hi : i < K) : Rs.enc K M d i j = Rs.spl (Rs.wd K d.length) d i j := by unfold Rs.enc; rw [if_pos hi]
theorem enc_hi {K M : Nat} {d : List UInt8} {i j : Nat} (hi : i < M) (hj : j < Rs.wd K d.length) : Rs.enc K M d (K + i) j = Rs.pb K M (Rs.enc K M d) i j := by
  unfold Rs.enc
  rw [if_neg (by omega), Nat.add_sub_cancel_left]
  unfold Rs.split
  rw [tm_pb hi hj]
  exact Gf.sm_congr fun q hq => by show _ = Gf.mul _ (if q < K then _ else _); rw [if_pos hq]
theorem pb_xor (K M : Nat) (X Y : Nat → Nat → UInt8) (j x : Nat) : Rs.pb K M (fun i k => X i k ^^^ Y i k) j x = Rs.pb K M X j x ^^^ Rs.pb K M Y j x := by
  unfold Rs.pb
  rw [← Gf.sm_xor]
  exact Gf.sm_congr fun q _ => Gf.mul_xor _ _ _
theorem pb_congr {K M : Nat} {X Y : Nat → Nat → UInt8} {j x : Nat} (h : ∀ q, q < K → X q x = Y q x) : Rs.pb K M X j x = Rs.pb K M Y j x :=
  Gf.sm_congr fun q hq => by rw [h q hq]
/-- Shards of a sum. -/
theorem enc_sum {K M n : Nat} {a b s : List UInt8} (ha : a.length = n) (hb : b.length = n) (hs : s.length = n) (h : ∀ k, k < n → nth s k = nth a k ^^^ nth b k) {i j : Nat} (hi : i < K + M) (hj : j < Rs.wd K n) :
    Rs.enc K M a i j ^^^ Rs.enc K M b i j = Rs.enc K M s i j := by
  have low : ∀ q k, q < K → Rs.enc K M a q k ^^^ Rs.enc K M b q k = Rs.enc K M s q k := fun q k hq => by
    rw [enc_lo hq, enc_lo hq, enc_lo hq, ha, hb, hs]
    unfold Rs.spl
    by_cases e : q * Rs.wd K n + k < n
    · rw [h _ e]
    · rw [nth_none (by omega), nth_none (by omega), nth_none (by omega)]; rfl
  by_cases e : i < K
  · exact low i j e
  · obtain ⟨t, rfl⟩ : ∃ t, i = K + t := ⟨i - K, by omega⟩
    rw [enc_hi (by omega) (by rw [ha]; exact hj), enc_hi (by omega) (by rw [hb]; exact hj), enc_hi (by omega) (by rw [hs]; exact hj), ← pb_xor]
    exact pb_congr fun q hq => low q j hq

/-- One byte is another one. -/
def Rs.flip (Z : Nat → Nat → UInt8) (r x : Nat) (i j : Nat) : UInt8 := if i = r ∧ j = x then Z r x ^^^ 0x5A else Z i j
theorem mat_take {n m C : Nat} {Z : Nat → Nat → UInt8} (h : n ≤ m) : (mat m C Z).take n = mat n C Z := by
  unfold mat
  rw [← List.map_take, List.take_range, show min n m = n by omega]
theorem mat_drop (n m C : Nat) (Z : Nat → Nat → UInt8) : (mat (n + m) C Z).drop n = mat m C (fun i j => Z (n + i) j) := by
  unfold mat
  rw [← List.map_drop]
  apply List.ext_getElem
  · simp
  · intro i h1 h2
    simp
theorem parL_mat {K M L : Nat} {Z : Nat → Nat → UInt8} (hK : 0 < K) (hL : 0 < L) : Rs.parL K M (mat K L Z) = mat M L (Rs.pb K M Z) := by
  unfold Rs.parL
  rw [if_pos (even_ok hL)]
  unfold Rs.par
  rw [mat_head hK]
  exact mat_congr fun i j hi hj => tm_pb hi hj
theorem chk_mat {K M L : Nat} {Z : Nat → Nat → UInt8} (hK : 0 < K) (hL : 0 < L) : Rs.chkE K M (mat (K + M) L Z) = 0 ∧ Rs.chkB K M (mat (K + M) L Z) = decide (mat M L (Rs.pb K M Z) = mat M L (fun i j => Z (K + i) j)) := by
  obtain ⟨h1, h2⟩ := chk_good (K := K) (M := M) (ls := mat (K + M) L Z) (even_ok hL)
  rw [h1, h2, mat_take (by omega), mat_drop, parL_mat hK hL]
  exact ⟨rfl, rfl⟩
theorem enc_good {K M : Nat} {d : List UInt8} (hK : 0 < K) : Rs.chkB K M (Rs.all K M d) = true := by
  have hW := wd_pos K d.length
  rw [Rs.all, (chk_mat hK hW).2]
  exact decide_eq_true (mat_congr fun i j hi hj => (enc_hi hi hj).symm)
/-- A byte that is changed is found. -/
theorem flip_found {K M r x : Nat} {d : List UInt8} (hK : 0 < K) (hM : 0 < M) (h : K + M ≤ 256) (hr : r < K + M) (hx : x < Rs.wd K d.length) :
    Rs.chkE K M (mat (K + M) (Rs.wd K d.length) (Rs.flip (Rs.enc K M d) r x)) = 0 ∧ Rs.chkB K M (mat (K + M) (Rs.wd K d.length) (Rs.flip (Rs.enc K M d) r x)) = false := by
  have hW := wd_pos K d.length
  obtain ⟨h1, h2⟩ := chk_mat (M := M) (Z := Rs.flip (Rs.enc K M d) r x) hK hW
  refine ⟨h1, h2.trans (decide_eq_false fun e => ?_)⟩
  have e3 := (mat_shape e).2.2
  have hne : ∀ a : UInt8, a ^^^ 0x5A ≠ a := fun a e => by
    have : a ^^^ (a ^^^ 0x5A) = a ^^^ a := by rw [e]
    rw [Gf.xor_lself, UInt8.xor_self] at this
    cases this
  by_cases hrK : r < K
  · have e4 := e3 0 x hM hx
    have e5 : Rs.flip (Rs.enc K M d) r x (K + 0) x = Rs.enc K M d (K + 0) x := by unfold Rs.flip; rw [if_neg (by omega)]
    rw [e5, enc_hi hM hx] at e4
    have e6 : Rs.pb K M (Rs.flip (Rs.enc K M d) r x) 0 x = Rs.pb K M (Rs.enc K M d) 0 x ^^^ Gf.mul (Gf.cau K 0 r) 0x5A := by
      have : Rs.pb K M (Rs.flip (Rs.enc K M d) r x) 0 x = Rs.pb K M (fun i k => Rs.enc K M d i k ^^^ (if i = r ∧ k = x then 0x5A else 0)) 0 x := pb_congr fun q hq => by
        unfold Rs.flip
        by_cases e : q = r
        · subst e; simp
        · simp [e]
      rw [this, pb_xor]
      congr 1
      unfold Rs.pb
      rw [Gf.sm_only hrK (fun j _ hj => by simp [hj, Gf.mul_zero])]
      simp
    rw [e6] at e4
    have e7 : Gf.mul (Gf.cau K 0 r) 0x5A = 0 := by
      have : Rs.pb K M (Rs.enc K M d) 0 x ^^^ (Rs.pb K M (Rs.enc K M d) 0 x ^^^ Gf.mul (Gf.cau K 0 r) 0x5A) = Rs.pb K M (Rs.enc K M d) 0 x ^^^ Rs.pb K M (Rs.enc K M d) 0 x := by rw [e4]
      rwa [Gf.xor_lself, UInt8.xor_self] at this
    exact Gf.mul_ne0 (cau_ne0 hM hrK h) (by decide) e7
  · obtain ⟨t, rfl⟩ : ∃ t, r = K + t := ⟨r - K, by omega⟩
    have e4 := e3 t x (by omega) hx
    have e5 : Rs.flip (Rs.enc K M d) (K + t) x (K + t) x = Rs.enc K M d (K + t) x ^^^ 0x5A := by unfold Rs.flip; rw [if_pos ⟨rfl, rfl⟩]
    have e6 : Rs.pb K M (Rs.flip (Rs.enc K M d) (K + t) x) t x = Rs.enc K M d (K + t) x := by
      rw [enc_hi (by omega) hx]
      exact pb_congr fun q hq => by unfold Rs.flip; rw [if_neg (by omega)]
    rw [e5, e6] at e4
    exact hne _ e4.symm
end Go.Proofs.Ytppgbapfmijboaa
