/- rs, the reference: New, Width, Split. -/
import Derived.Test.YtfgifndpglgjkaaGreatDoorZCdK
import Derived.StillTailTactics
set_option linter.unusedVariables false
set_option linter.unusedSimpArgs false
set_option maxRecDepth 100000
set_option linter.unusedVariables false
set_option linter.unusedSimpArgs false
namespace Go.Proofs.YtfgifndpglgjkaaGreatDoor
open Go.RowKit Go.Deep

/-- A code of the reference. -/
structure RCod (w : World) (b K M : Nat) : Prop where
  k : w.cell? ⟨b, 0, none⟩ = some (.int .i64 K)
  m : w.cell? ⟨b, 1, none⟩ = some (.int .i64 M)
theorem RCod.below {w w' : World} {b K M : Nat} (h : RCod w b K M) (hb : Below w.heap.size w w') : RCod w' b K M := ⟨cell_later hb h.k, cell_later hb h.m⟩

set_option maxHeartbeats 1000000 in
theorem refnew_err (k m : Int) (w : World) (h : ¬ Rs.fit k m) (hk : -9223372036854775808 ≤ k ∧ k ≤ 9223372036854775807) (hm : -9223372036854775808 ≤ m ∧ m ≤ 9223372036854775807) :
    Calls Tryz.prog 27 #[.int .i64 k, .int .i64 m] w fun e w' => e = .returned (.tuple #[.pointer none, .int .i64 1]) ∧ w = w' := by
  unfold Rs.fit at h
  by_cases h1 : k < 1
  · have t1 : decide (k < 1) = true := decide_eq_true h1
    clear hk hm h h1
    go_enter Tryz.func27, Tryz.ntmps27
    go_wp2
    go_ret2
    exact ⟨rfl, rfl⟩
  have t1 : decide (k < 1) = false := decide_eq_false h1
  by_cases h2 : m < 0
  · have t2 : decide (m < 0) = true := decide_eq_true h2
    clear hk hm h h1 h2
    go_enter Tryz.func27, Tryz.ntmps27
    go_wp2
    go_ret2
    exact ⟨rfl, rfl⟩
  have t2 : decide (m < 0) = false := decide_eq_false h2
  by_cases h3 : 255 < k
  · have t3 : decide (255 < k) = true := decide_eq_true h3
    clear hk hm h h1 h2 h3
    go_enter Tryz.func27, Tryz.ntmps27
    go_wp2
    go_ret2
    exact ⟨rfl, rfl⟩
  have t3 : decide (255 < k) = false := decide_eq_false h3
  have t5 : decide (255 - k < m) = true := decide_eq_true (by omega)
  have hk1 : 0 ≤ k := by omega
  have hk2 : k ≤ 1000 := by omega
  clear h hm hk h1 h2 h3
  go_enter Tryz.func27, Tryz.ntmps27
  go_wp2
  go_ret2
  exact ⟨rfl, rfl⟩
set_option maxHeartbeats 1000000 in
theorem refnew_any (K M : Nat) (w : World) (h1 : 1 ≤ K) (h2 : K + M ≤ 255) :
    Calls Tryz.prog 27 #[.int .i64 K, .int .i64 M] w fun e w' => (∃ b, e = .returned (.tuple #[.pointer (some ⟨b, 0, none⟩), .int .i64 0]) ∧ RCod w' b K M) ∧ Below w.heap.size w w' := by
  have t1 : decide ((K : Int) < 1) = false := decide_eq_false (by omega)
  have t2 : decide ((M : Int) < 0) = false := decide_eq_false (by omega)
  have t3 : decide ((255 : Int) < K) = false := decide_eq_false (by omega)
  have t5 : decide ((255 : Int) - (K : Int) < M) = false := decide_eq_false (by omega)
  have hk2 : K ≤ 1000 := by omega
  clear h1 h2
  go_enter Tryz.func27, Tryz.ntmps27
  go_wp2
  go_ret2
  have hblk : (w.alloc (.cells #[.int .i64 (K : Int), .int .i64 (M : Int)] 106)).heap[w.heap.size]? = some (.cells #[.int .i64 (K : Int), .int .i64 (M : Int)] 106 (0, 0)) := heap_alloc_last w _
  exact ⟨⟨_, rfl, by unfold World.cell?; simp only [hblk]; rfl, by unfold World.cell?; simp only [hblk]; rfl⟩, below_alloc w _⟩

theorem wd_ref {K n D : Nat} (hK : 1 ≤ K) (hD : n / K = D) : Rs.wd K n = max 1 (if D * K < n then D + 1 else D) := by
  have h1 := Nat.div_add_mod n K
  have h2 := Nat.mod_lt n hK
  rw [hD, Nat.mul_comm] at h1
  unfold Rs.wd
  congr 1
  split
  · exact Nat.div_eq_of_lt_le (by rw [Nat.add_mul, Nat.one_mul]; omega) (by rw [Nat.add_mul, Nat.add_mul, Nat.one_mul]; omega)
  · exact Nat.div_eq_of_lt_le (by omega) (by rw [Nat.add_mul, Nat.one_mul]; omega)
set_option maxHeartbeats 1000000 in
theorem refwidth_any (K n : Nat) (w : World) (h1 : 1 ≤ K) (h2 : K ≤ 255) (h3 : n ≤ 1000000000) :
    Calls Tryz.prog 107 #[.int .i64 K, .int .i64 n] w fun e w' => e = .returned (.int .i64 (Rs.wd K n)) ∧ w = w' := by
  obtain ⟨D, hD⟩ : ∃ D, n / K = D := ⟨_, rfl⟩
  have hw := wd_ref h1 hD
  have d1 : Int.tdiv (n : Int) (K : Int) = (D : Int) := by rw [← hD]; rfl
  have d3 : D ≤ n := by rw [← hD]; exact Nat.div_le_self _ _
  have d4 : D * K ≤ n := by rw [← hD]; exact Nat.div_mul_le_self _ _
  have d5 : ¬ (K : Int) = 0 := by omega
  have d6 : (D : Int) * (K : Int) = ((D * K : Nat) : Int) := by simp
  obtain ⟨T, hT⟩ : ∃ T, D * K = T := ⟨_, rfl⟩
  rw [hT] at d4 d6 hw
  have HW : Hid (Rs.wd K n = max 1 (if T < n then D + 1 else D)) := Lib.hid hw
  have HD := Lib.hid hD
  clear hD hT hw
  by_cases hlt : T < n
  · have HW2 : Hid (Rs.wd K n = D + 1) := Lib.hid (by rw [HW.out, if_pos hlt]; omega)
    have e1 : decide ((T : Int) < (n : Int)) = true := decide_eq_true (by omega)
    have e2 : decide ((D : Int) + 1 < 1) = false := decide_eq_false (by omega)
    go_enter Tryz.func107, Tryz.ntmps107
    go_wp2
    go_ret
    rw [HW2.out]
    exact ⟨rfl, rfl⟩
  · have e1 : decide ((T : Int) < (n : Int)) = false := decide_eq_false (by omega)
    by_cases hD1 : D < 1
    · have HW2 : Hid (Rs.wd K n = 1) := Lib.hid (by rw [HW.out, if_neg hlt]; omega)
      have e2 : decide ((D : Int) < 1) = true := decide_eq_true (by omega)
      go_enter Tryz.func107, Tryz.ntmps107
      go_wp2
      go_ret
      rw [HW2.out]
      exact ⟨rfl, rfl⟩
    · have HW2 : Hid (Rs.wd K n = D) := Lib.hid (by rw [HW.out, if_neg hlt]; omega)
      have e2 : decide ((D : Int) < 1) = false := decide_eq_false (by omega)
      go_enter Tryz.func107, Tryz.ntmps107
      go_wp2
      go_ret
      rw [HW2.out]
      exact ⟨rfl, rfl⟩

/-- A row that was made here is to be appended. -/
theorem new_made {w w3 : World} {B : Nat} {a : Option Addr} {n c C : Nat} {bl cp : Nat → Nat} {Z : Nat → Nat → UInt8} (hm : Mo w B a n c C bl cp Z) (hB : B ≤ w.heap.size) (hC : C ≤ maxLen)
    (hb : Below w.heap.size w w3) (hr : rowTo w3 w.heap.size 5 C (fun j => .int .u8 (n8 (Z n j)))) : NewRow w w3 B a n c C bl cp Z w.heap.size C :=
  ⟨hb, Nat.le_refl _, ⟨Nat.le_refl _, hC⟩, (hm.below hb).below (below_alloc w3 _), hr.below (below_alloc w3 _), box_new w3 _ _, hm.old.1, hm.old.2⟩
/-- A shard of Split while it is made. -/
def Rs.splj (W : Nat) (d : List UInt8) (i j x : Nat) : UInt8 := if x < j then Rs.spl W d i x else 0
theorem splj_step {w : World} {b W i j C : Nat} {d : List UInt8} (h : rowTo w b 5 C (fun x => .int .u8 (n8 (Rs.splj W d i j x)))) :
    rowTo (w.setCell ⟨b, j, none⟩ (.int .u8 (n8 (Rs.spl W d i j)))) b 5 C (fun x => .int .u8 (n8 (Rs.splj W d i (j + 1) x))) := by
  refine (h.set j _).congr fun x hx => ?_
  show (if x = j then _ else Value.int .u8 (n8 (Rs.splj W d i j x))) = .int .u8 (n8 (Rs.splj W d i (j + 1) x))
  unfold Rs.splj
  by_cases e : x = j
  · simp [e]
  · by_cases e2 : x < j
    · rw [if_neg e, if_pos e2, if_pos (by omega)]
    · rw [if_neg e, if_neg e2, if_neg (by omega)]
theorem splj_done {W i j x : Nat} {d : List UInt8} (h : j = W ∨ d.length ≤ i * W + j) (hx : x < W) : Rs.splj W d i j x = Rs.spl W d i x := by
  unfold Rs.splj
  by_cases e : x < j
  · rw [if_pos e]
  · rw [if_neg e]
    unfold Rs.spl
    rw [nth_none (by omega)]

set_option maxHeartbeats 4000000 in
theorem refsplit_any (b K M : Nat) (ad : Option Addr) (nd cd : Nat) (d : List UInt8) (w : World) (hc : RCod w b K M) (hd : Bs w ad nd cd d) (h1 : 1 ≤ K) (h2 : K ≤ 255) (h3 : nd ≤ 100000000) :
    Calls Tryz.prog 75 #[.pointer (some ⟨b, 0, none⟩), .slice ad nd cd] w (MoP K (Rs.wd K nd) (Rs.spl (Rs.wd K nd) d) w) := by
  have hk := hc.k
  have HD : Hid (∀ W, Below w.heap.size w W → Bs W ad nd cd d) := Lib.hid fun W h => hd.below h
  have HK : Hid (∀ W, Below w.heap.size w W → W.cell? ⟨b, 0, none⟩ = some (.int .i64 K)) := Lib.hid fun W h => cell_later h hk
  have HN := Lib.hid hd.1
  clear hc hd
  go_enter Tryz.func75, Tryz.ntmps75
  go_wp2_with fail
  refine (refwidth_any K nd w h1 h2 (by omega)).mono ?_
  rintro e w1 ⟨rfl, rfl⟩
  obtain ⟨W, hW⟩ : ∃ W, Rs.wd K nd = W := ⟨_, rfl⟩
  have HWW := Lib.hid hW
  rw [hW]
  have w1 : 1 ≤ W := by rw [← hW]; exact wd_pos K nd
  have w3 : K * W ≤ 200000000 := by rw [← hW]; have := wd_few (n := nd) h1; omega
  have w4 : W ≤ 200000000 := by have : 1 * W ≤ K * W := Nat.mul_le_mul_right _ h1; omega
  have HKW := Lib.hid w3
  have hmk := run_make_row' (P := Tryz.prog) 25 5 (.int .u8 0) 1 Tryz.underlying25 info8 rfl .i64 .i64 W (by omega) (by omega)
  clear hk hW w3
  go_wp2_with fail
  go_loopw [6, 7] (fun m i wr => ∃ (k c : Nat) (a : Option Addr) (bl cp : Nat → Nat), k ≤ K ∧ i = .int .i64 k ∧ m = .slice a k c ∧ Below w.heap.size w wr ∧ Mo wr w.heap.size a k c W bl cp (Rs.spl W d)) (fun _ i _ => K - (intOf i).toNat)
  case atStart => exact ⟨0, 0, none, id, id, Nat.zero_le _, rfl, rfl, Below.refl _ _, Mo.nil _ _ _ _ _ _⟩
  case round =>
    obtain ⟨k, c, a, bl, cp, hk, rfl, rfl, hb, hm⟩ := hrel
    obtain ⟨wo, rfl⟩ : ∃ x, x = wr := ⟨wr, rfl⟩
    have k1 := HK.out _ hb
    by_cases hlt : k < K
    · have m1 : (k : Int) * (W : Int) = ((k * W : Nat) : Int) := by simp
      have m4 : k * W ≤ K * W := Nat.mul_le_mul_right _ hk
      have m5 : k * W ≤ 200000000 := Nat.le_trans m4 HKW.out
      obtain ⟨X, hX⟩ : ∃ X, k * W = X := ⟨_, rfl⟩
      rw [hX] at m1 m5
      have HX := Lib.hid hX
      have HM := Lib.hid hm
      have HB := Lib.hid hb
      have hwz := hb.size
      have hrow0 : rowTo (wo.alloc (.cells (madeCells #[.int .u8 0] W) 5)) wo.heap.size 5 W (fun x => .int .u8 (n8 (Rs.splj W d k 0 x))) := (rowTo.of_is (World.rowIs_made wo (.int .u8 0) W 5)).congr (fun x _ => by simp [Rs.splj]; rfl)
      have HR0 := Lib.hid hrow0
      clear hm hb m4 hX hrow0
      go_wp2_with fail
      clear k1
      go_loopw [9] (fun i wr => ∃ j : Nat, j ≤ W ∧ i = .int .i64 j ∧ Below wo.heap.size wo wr ∧ rowTo wr wo.heap.size 5 W (fun x => .int .u8 (n8 (Rs.splj W d k j x)))) (fun i _ => W - (intOf i).toNat)
      case atStart => exact ⟨0, Nat.zero_le _, rfl, below_alloc wo _, HR0.out⟩
      case round =>
        clear HR0
        obtain ⟨j, hj, rfl, hbx, hr⟩ := hrel
        by_cases hgo : j < W ∧ X + j < nd
        · obtain ⟨hjW, hjd⟩ := hgo
          have t1 : decide ((X : Int) + (j : Int) < (nd : Int)) = true := decide_eq_true (by omega)
          obtain ⟨bD, oD, eD, dD⟩ := ((HD.out wo HB.out).below hbx).byte hjd
          subst eD
          rw [show nth d (X + j) = Rs.spl W d k j by unfold Rs.spl; rw [HX.out]] at dD
          have c1 := hr.cell hjW
          have c2 := hr.frozen j
          have HR := Lib.hid (splj_step hr)
          have HBX : Hid (Below wo.heap.size wo (wr.setCell ⟨wo.heap.size, j, none⟩ (.int .u8 (n8 (Rs.spl W d k j))))) := Lib.hid (hbx.setCell (Nat.le_refl _) _)
          clear hbx hr
          go_wp2
          go_roundw
          case rel => exact ⟨j + 1, by omega, by go_num, HBX.out, HR.out⟩
          case measure => simp [intOf]; omega
        · have hdone : j = W ∨ nd ≤ X + j := by omega
          have hrr : rowTo wr wo.heap.size 5 W (fun x => .int .u8 (n8 (Rs.spl W d k x))) := hr.congr (fun x hx => by rw [splj_done (by rw [HX.out, HN.out]; exact hdone) hx])
          have HNR := Lib.hid (new_made HM.out hwz (by simp only [maxLen]; omega) hbx hrr)
          have hcase : (decide (j < W) = false ∧ ¬ j < W) ∨ (j < W ∧ decide ((X : Int) + (j : Int) < (nd : Int)) = false ∧ ¬ X + j < nd) := by
            by_cases q : j < W
            · exact .inr ⟨q, decide_eq_false (by omega), by omega⟩
            · exact .inl ⟨decide_eq_false q, q⟩
          clear hr hrr hbx hgo hdone
          rcases hcase with ⟨q1, q2⟩ | ⟨q1, q2, q3⟩
          all_goals
            go_wp2_with (at_builtin; refine app_mo rfl _ _ rfl w.heap.size rfl HNR.out.mo rfl HNR.out.cell HNR.out.cap HNR.out.row (by have := HNR.out.le; omega) HNR.out.ne.1 HNR.out.ne.2 (by omega) (by have := HNR.out.below.size; simp; omega) ?_; intro a' c' w' bl' cp' hm' hb'; have HB10 := Lib.hid ((HB.out.trans (HNR.out.below.mono hwz)).trans (((below_alloc wr _).mono (Nat.le_trans hwz HNR.out.below.size)).trans hb')); have HM10 := Lib.hid hm'; clear hm' hb')
            go_roundw
            case rel => exact ⟨k + 1, c', a', bl', cp', by omega, by go_num, rfl, HB10.out, HM10.out⟩
            case measure => simp [intOf]; omega
    · obtain rfl : k = K := by omega
      have HM := Lib.hid hm
      have HB := Lib.hid hb
      clear hm hb
      go_wp2
      go_ret
      rw [HWW.out]
      exact ⟨⟨_, _, _, _, rfl, HM.out⟩, HB.out⟩
end Go.Proofs.YtfgifndpglgjkaaGreatDoor
