/- Cold stripes: the law's looks: pointers alike, rows alike, few. -/
import Derived.Test.YtfgifndpglgjkaaGreatDoorZCdX
set_option linter.unusedVariables false
set_option linter.unusedSimpArgs false
set_option maxRecDepth 100000
set_option linter.unusedVariables false
set_option linter.unusedSimpArgs false
namespace Go.Proofs.YtfgifndpglgjkaaGreatDoor
open Go.RowKit

set_option maxHeartbeats 4000000 in
theorem same_any (q : Cd.Full) (a1 a2 : Option Addr) (nn c1 c2 : Nat) (w : World) (h1 : Is w a1 nn c1 q.nodes) (h2 : Is w a2 nn c2 q.nodes) (hnn : nn ≤ 1000000) :
    Calls Tryz.prog 10 #[Cd.pv q a1 nn c1, Cd.pv q a2 nn c2] w fun e w' => e = .returned (.bool true) ∧ Below w.heap.size w w' := by
  have hb0 := two_boxC w (.cells (Cd.pcells q a1 nn c1) 31) (.cells (Cd.pcells q a2 nn c2) 31)
  have hp0 : Cd.PAt ((w.alloc (.cells (Cd.pcells q a1 nn c1) 31)).alloc (.cells (Cd.pcells q a2 nn c2) 31)) w.heap.size q a1 nn c1 := (Cd.PAt.new w q a1 nn c1).below (below_alloc1 _ _)
  have hp1 : Cd.PAt ((w.alloc (.cells (Cd.pcells q a1 nn c1) 31)).alloc (.cells (Cd.pcells q a2 nn c2) 31)) (w.heap.size + 1) q a2 nn c2 := by
    have := Cd.PAt.new (w.alloc (.cells (Cd.pcells q a1 nn c1) 31)) q a2 nn c2
    rwa [World.size_alloc] at this
  have h3 := h1.below hb0
  have h4 := h2.below hb0
  clear h1 h2
  unfold Cd.pv
  go_enter Tryz.func10, Tryz.ntmps10
  go_upto_region 1 with fail
  unfold Cd.pcells at hb0 hp0 hp1 h3 h4
  generalize (w.alloc (.cells #[.string (bstr q.bucket), .string (bstr q.key), .int .u64 q.version, .int .u64 q.p.stripe, .int .i64 q.p.K, .int .i64 q.p.M, .int .i64 q.p.size, .int .u32 (n32 q.p.sum), .slice a1 nn c1] 31)).alloc (.cells #[.string (bstr q.bucket), .string (bstr q.key), .int .u64 q.version, .int .u64 q.p.stripe, .int .i64 q.p.K, .int .i64 q.p.M, .int .i64 q.p.size, .int .u32 (n32 q.p.sum), .slice a2 nn c2] 31) = w1 at *
  have HB1 := Lib.hid hb0
  have HP := Lib.hid hp0
  have HQ := Lib.hid hp1
  have H3 := Lib.hid h3
  have H4 := Lib.hid h4
  have c0 := hp0.c0
  have c1' := hp0.c1
  have c2' := hp0.c2
  have c3 := hp0.c3
  have c4 := hp0.c4
  have c5 := hp0.c5
  have c6 := hp0.c6
  have c7 := hp0.c7
  have c8 := hp0.c8
  have d0 := hp1.c0
  have d1 := hp1.c1
  have d2 := hp1.c2
  have d3 := hp1.c3
  have d4 := hp1.c4
  have d5 := hp1.c5
  have d6 := hp1.c6
  have d7 := hp1.c7
  have d8 := hp1.c8
  have e1 : ((bstr q.bucket).toList == (bstr q.bucket).toList) = true := by simp
  have e2 : ((bstr q.key).toList == (bstr q.key).toList) = true := by simp
  clear hb0 hp0 hp1 h3 h4
  go_wp2_with fail
  clear c0 c1' c2' c3 c4 c5 c6 c7 c8 d0 d1 d2 d3 d4 d5 d6 d7 d8 e1 e2
  go_loopw [5] (fun iv wr => ∃ k : Nat, k ≤ nn ∧ iv = .int .i64 k ∧ Hid (Below w1.heap.size w1 wr)) (fun iv _ => nn - (intOf iv).toNat)
  case atStart => exact ⟨0, by omega, rfl, Lib.hid (Below.refl _ _)⟩
  case round =>
    obtain ⟨k, hk, rfl, HB⟩ := hrel
    have c8 := (HP.out.below HB.out).c8
    have d8 := (HQ.out.below HB.out).c8
    by_cases hlt : k < nn
    · have t1 : decide ((k : Int) < (nn : Int)) = true := decide_eq_true (by omega)
      have t2 : decide (k < nn) = true := decide_eq_true hlt
      obtain ⟨b1, o1, rfl, g1⟩ := (H3.out.below HB.out).get hlt
      obtain ⟨b2, o2, rfl, g2⟩ := (H4.out.below HB.out).get hlt
      have p1 := BW.cell c8
      have p2 := BW.cell d8
      have p3 := BW.cell g1
      have p4 := BW.cell g2
      generalize nth q.nodes k = z at *
      have t3 : (z != z) = false := by simp
      go_upto_region 6 with fail
      refine wp_region_class (w0 := wr) (by kernel_rfl) (by kernel_rfl) (Below.refl _ _) ?_
      repeat (first | go_big_quiet_step (fail))
      refine wpQuiet_nil ?_
      intro w3 hb3; replace hb3 := BW.of hb3
      have HB3 := Lib.hid (HB.out.trans (hb3.mono HB.out.size))
      clear hb3 p1 p2 p3 p4 c8 d8 g1 g2
      go_wp2
      go_roundw
      case rel => exact ⟨k + 1, by omega, by go_num, HB3⟩
      case measure => simp [intOf]; omega
    · obtain rfl : k = nn := by omega
      go_wp2
      go_ret
      exact ⟨rfl, HB1.out.trans (HB.out.mono HB1.out.size)⟩
set_option maxHeartbeats 4000000 in
theorem shards_same (T1 T2 : TypeId) (B1 B2 : Nat) (a1 a2 : Option Addr) (n c1 c2 : Nat) (l : List Cd.Shard) (w : World) (h1 : AccB belS T1 w B1 a1 n c1 l) (h2 : AccB belS T2 w B2 a2 n c2 l) (hn : n ≤ 1000000) :
    Calls Tryz.prog 17 #[.slice a1 n c1, .slice a2 n c2] w fun e w' => e = .returned (.bool true) ∧ Below w.heap.size w w' := by
  have H1 := Lib.hid h1
  have H2 := Lib.hid h2
  have hle1 := h1.le
  have hle2 := h2.le
  clear h1 h2
  go_enter Tryz.func17, Tryz.ntmps17
  go_wp2_with fail
  go_loopw [5] (fun iv wr => ∃ k : Nat, k ≤ n ∧ iv = .int .i64 k ∧ Hid (Below w.heap.size w wr)) (fun iv _ => n - (intOf iv).toNat)
  case atStart => exact ⟨0, by omega, rfl, Lib.hid (Below.refl _ _)⟩
  case round =>
    obtain ⟨k, hk, rfl, HB⟩ := hrel
    by_cases hlt : k < n
    · have t1 : decide ((k : Int) < (n : Int)) = true := decide_eq_true (by omega)
      have t2 : decide (k < n) = true := decide_eq_true hlt
      obtain ⟨b1, o1, x1, y1, rfl, g1, v1⟩ := (H1.out.below HB.out).at hlt
      obtain ⟨b2, o2, x2, y2, rfl, g2, v2⟩ := (H2.out.below HB.out).at hlt
      generalize nth l k = s at *
      obtain ⟨sn, si, sm, sb⟩ := s
      have p0 := BW.cell (g1 0 _ rfl)
      have p1 := BW.cell (g1 1 _ rfl)
      have p2 := BW.cell (g1 2 _ rfl)
      have p3 := BW.cell (g1 3 _ rfl)
      have q0 := BW.cell (g2 0 _ rfl)
      have q1 := BW.cell (g2 1 _ rfl)
      have q2 := BW.cell (g2 2 _ rfl)
      have q3 := BW.cell (g2 3 _ rfl)
      simp only [belS, Nat.add_zero, ← Nat.add_assoc] at p0 p1 p2 p3 q0 q1 q2 q3 v1 v2
      have u1 := fun W : BW wr => conv_bytes (v1.bs.below W.b)
      have u2 := fun W : BW wr => conv_bytes (v2.bs.below W.b)
      have e1 : ((bstr sm).toList == (bstr sm).toList) = true := by simp
      have e2 : ((bstr sb).toList == (bstr sb).toList) = true := by simp
      have e3 : (sn != sn) = false := by simp
      have e4 : ((si : Int) != (si : Int)) = false := by simp
      clear g1 g2 v1 v2
      go_upto_region 6 with fail
      refine wp_region_class (w0 := wr) (by kernel_rfl) (by kernel_rfl) (Below.refl _ _) ?_
      repeat (first | go_big_quiet_step (fail))
      refine wpQuiet_nil ?_
      intro w3 hb3; replace hb3 := BW.of hb3
      have HB3 := Lib.hid (HB.out.trans (hb3.mono HB.out.size))
      clear hb3 p0 p1 p2 p3 q0 q1 q2 q3 u1 u2
      go_wp2
      go_roundw
      case rel => exact ⟨k + 1, by omega, by go_num, HB3⟩
      case measure => simp [intOf]; omega
    · obtain rfl : k = n := by omega
      go_wp2
      go_ret
      exact ⟨rfl, HB.out⟩
def Few2R (n : Nat) (w : World) (e : Ending) (w' : World) : Prop := ∃ t, e = .returned (.bool t) ∧ (t = true → n ≤ 8000) ∧ w = w'
set_option maxHeartbeats 4000000 in
theorem few2_any (k m : Int) (b : Nat) (ad : Option Addr) (nd cd : Nat) (as_ : Option Addr) (ns cs : Nat) (w : World) (c0 : w.cell? ⟨b, 0, none⟩ = some (.slice ad nd cd)) (c1 : w.cell? ⟨b, 1, none⟩ = some (.slice as_ ns cs)) (hk : I64 k) (hm : I64 m) (hd : nd ≤ 1000000000) (hs : ns ≤ 1000000000) :
    Calls Tryz.prog 7 #[.int .i64 k, .int .i64 m, .slice (some ⟨b, 0, none⟩) 2 2] w (Few2R (nd + ns) w) := by
  obtain ⟨hk1, hk2⟩ := hk
  obtain ⟨hm1, hm2⟩ := hm
  have e0 : (0 : Int) + (nd : Int) = (nd : Int) := by omega
  go_enter Tryz.func7, Tryz.ntmps7
  go_wp2_with fail
  refine wp_loop_rounds 3 ?_
  rw [rounds_succ]
  go_wp2_with fail
  rw [rounds_succ]
  go_wp2_with fail
  rw [rounds_succ]
  go_upto_region 6 with fail
  clear c0 c1 e0
  by_cases h0 : nd + ns ≤ 8000
  case neg =>
    have t0 : decide ((nd : Int) + (ns : Int) ≤ 8000) = false := decide_eq_false (by omega)
    have t0' : decide (nd + ns ≤ 8000) = false := decide_eq_false h0
    go_wp2
    go_ret
    exact ⟨_, rfl, fun h => (by cases h), rfl⟩
  have t0 : decide ((nd : Int) + (ns : Int) ≤ 8000) = true := decide_eq_true (by omega)
  have t0' : decide (nd + ns ≤ 8000) = true := decide_eq_true h0
  by_cases h1 : k < 1
  · have t1 : decide (k < 1) = true := decide_eq_true h1
    go_wp2
    go_ret
    exact ⟨_, rfl, fun _ => h0, rfl⟩
  have t1 : decide (k < 1) = false := decide_eq_false h1
  by_cases h2 : m < 0
  · have t2 : decide (m < 0) = true := decide_eq_true h2
    go_wp2
    go_ret
    exact ⟨_, rfl, fun _ => h0, rfl⟩
  have t2 : decide (m < 0) = false := decide_eq_false h2
  by_cases h3 : 255 < k
  · have t3 : decide (255 < k) = true := decide_eq_true h3
    go_wp2
    go_ret
    exact ⟨_, rfl, fun _ => h0, rfl⟩
  have t3 : decide (255 < k) = false := decide_eq_false h3
  by_cases h4 : 255 - k < m
  · have t4 : decide (255 - k < m) = true := decide_eq_true h4
    go_wp2
    go_ret
    exact ⟨_, rfl, fun _ => h0, rfl⟩
  have t4 : decide (255 - k < m) = false := decide_eq_false h4
  by_cases h5 : k + m ≤ 20
  · have t5 : decide (k + m ≤ 20) = true := decide_eq_true h5
    go_wp2
    go_ret
    exact ⟨_, rfl, fun _ => h0, rfl⟩
  · have t5 : decide (k + m ≤ 20) = false := decide_eq_false h5
    go_wp2
    go_ret
    exact ⟨_, rfl, fun _ => h0, rfl⟩
end Go.Proofs.YtfgifndpglgjkaaGreatDoor
