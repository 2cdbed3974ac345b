/- MasterOwn. -/
import Derived.Test.YtincllchoflpmaaMsQ
namespace Go.Proofs.Ytincllchoflpmaa
open Go.RowKit
set_option linter.unusedVariables false
set_option linter.unusedSimpArgs false

/-- A row of the call's own, whatever it holds. -/
def Held (w : World) (B e s : Nat) (a : Option Addr) (n c : Nat) : Prop := ∃ cs, w.ownsRow B e s (.slice a n c) n cs
theorem Held.below {w w' : World} {B e s n c : Nat} {a : Option Addr} (h : Held w B e s a n c) (hb : Below w.heap.size w w') : Held w' B e s a n c := by
  obtain ⟨cs, h⟩ := h
  exact ⟨cs, own_below h hb⟩
theorem Held.set {w : World} {B e s n c g : Nat} (h : Held w B e s (some ⟨g, 0, none⟩) n c) (k : Nat) (u : Value) : Held (w.setCell ⟨g, k, none⟩ u) B e s (some ⟨g, 0, none⟩) n c := by
  obtain ⟨cs, h⟩ := h
  exact ⟨_, own_set h k u⟩
theorem Held.low {w : World} {B e s n c : Nat} {a : Option Addr} (h : Held w B e s a n c) {p : Addr} (hp : p.block < B) (u : Value) : Held (w.setCell p u) B e s a n c := by
  obtain ⟨cs, h⟩ := h
  exact ⟨cs, own_setLow h hp u⟩
theorem Held.oth {w : World} {B B' e e' s s' n n' c c' g k : Nat} {a : Option Addr} (h : Held w B e s a n c) (h' : Held w B' e' s' (some ⟨g, 0, none⟩) n' c') (hne : e' ≠ e) (u : Value) : Held (w.setCell ⟨g, k, none⟩ u) B e s a n c := by
  obtain ⟨cs, h⟩ := h
  obtain ⟨cs', h'⟩ := h'
  exact ⟨cs, own_oth h (Oth.set (p := ⟨g, k, none⟩) (x := ⟨g, 0, none⟩) (Oth.refl _ _) rfl rfl _) (own_ne h' h hne)⟩
theorem Held.form {w : World} {B e s n c : Nat} {a : Option Addr} (h : Held w B e s a n c) (hn : 0 < n) : ∃ g, a = some ⟨g, 0, none⟩ ∧ B ≤ g ∧ g < w.heap.size := by
  obtain ⟨cs, h⟩ := h
  exact own_form h hn
theorem Held.cap {w : World} {B e s n c : Nat} {a : Option Addr} (h : Held w B e s a n c) : n ≤ c ∧ c ≤ maxLen := by
  obtain ⟨cs, h⟩ := h
  exact (own_cap h).2
theorem Held.spare {w : World} {B e s n c g : Nat} (h : Held w B e s (some ⟨g, 0, none⟩) n c) : (∀ j, j < c * s → ∃ v, w.cell? ⟨g, j, none⟩ = some v) ∧ ∀ j, w.frozen? ⟨g, j, none⟩ = false := by
  obtain ⟨cs, h⟩ := h
  obtain ⟨h1, h2⟩ := own_spare h
  exact ⟨fun j hj => Option.isSome_iff_exists.1 (h1 j hj), h2⟩
/-- What stands behind the calls: all that was there before Do is as it was; d's box and row; e's box and rows, younger than M. -/
structure OwnS (V W : World) (N M b6 b8 : Nat) (d e : Cf) (a7 : Option Addr) (c7 : Nat) (a9 : Option Addr) (c9 : Nat) (a0 : Option Addr) (c0 : Nat) : Prop where
  below : Below N V W
  dc : W.cell? ⟨b6, 1, none⟩ = some (.slice a7 d.chain.length c7)
  ec : W.cell? ⟨b8, 1, none⟩ = some (.slice a9 e.chain.length c9)
  es : W.cell? ⟨b8, 2, none⟩ = some (.slice a0 e.stores.length c0)
  dr : Held W N 48 3 a7 d.chain.length c7
  er : Held W M 48 3 a9 e.chain.length c9
  sr : Held W M 3 1 a0 e.stores.length c0
structure OwnT (V W : World) (N M b8 : Nat) (e : Cf) (a9 : Option Addr) (c9 : Nat) (a0 : Option Addr) (c0 : Nat) : Prop where
  below : Below N V W
  ec : W.cell? ⟨b8, 1, none⟩ = some (.slice a9 e.chain.length c9)
  es : W.cell? ⟨b8, 2, none⟩ = some (.slice a0 e.stores.length c0)
  er : Held W M 48 3 a9 e.chain.length c9
  sr : Held W M 3 1 a0 e.stores.length c0
theorem set_cell_far {W : World} {b j g k : Nat} {u v : Value} (h : W.cell? ⟨b, j, none⟩ = some v) (hne : b ≠ g) : (W.setCell ⟨g, k, none⟩ u).cell? ⟨b, j, none⟩ = some v := by
  rw [World.cell?_setCell_other _ _ _ _ (fun e => hne (by cases e; rfl))]
  exact h
theorem OwnS.set {V W : World} {N M b6 b8 : Nat} {d e : Cf} {a9 a0 : Option Addr} {c7 c9 c0 g k : Nat} (h : OwnS V W N M b6 b8 d e (some ⟨g, 0, none⟩) c7 a9 c9 a0 c0) (hg : N ≤ g) (hM : g < M) (h6 : g ≠ b6) (h8 : g ≠ b8) (u : Value) :
    OwnS V (W.setCell ⟨g, k, none⟩ u) N M b6 b8 d e (some ⟨g, 0, none⟩) c7 a9 c9 a0 c0 :=
  ⟨h.below.setCell (p := ⟨g, k, none⟩) hg u, set_cell_far h.dc h6.symm, set_cell_far h.ec h8.symm, set_cell_far h.es h8.symm, h.dr.set k u, h.er.low (p := ⟨g, k, none⟩) hM u, h.sr.low (p := ⟨g, k, none⟩) hM u⟩
theorem OwnS.t {V W : World} {N M b6 b8 : Nat} {d e : Cf} {a7 a9 a0 : Option Addr} {c7 c9 c0 : Nat} (h : OwnS V W N M b6 b8 d e a7 c7 a9 c9 a0 c0) : OwnT V W N M b8 e a9 c9 a0 c0 :=
  ⟨h.below, h.ec, h.es, h.er, h.sr⟩
theorem OwnT.setS {V W : World} {N M b8 : Nat} {e : Cf} {a9 : Option Addr} {c9 c0 g k : Nat} (h : OwnT V W N M b8 e a9 c9 (some ⟨g, 0, none⟩) c0) (hg : N ≤ g) (h8 : g ≠ b8) (u : Value) :
    OwnT V (W.setCell ⟨g, k, none⟩ u) N M b8 e a9 c9 (some ⟨g, 0, none⟩) c0 :=
  ⟨h.below.setCell (p := ⟨g, k, none⟩) hg u, set_cell_far h.ec h8.symm, set_cell_far h.es h8.symm, h.er.oth h.sr (by decide) u, h.sr.set k u⟩
theorem OwnT.setC {V W : World} {N M b8 : Nat} {e : Cf} {a0 : Option Addr} {c9 c0 g k : Nat} (h : OwnT V W N M b8 e (some ⟨g, 0, none⟩) c9 a0 c0) (hg : N ≤ g) (h8 : g ≠ b8) (u : Value) :
    OwnT V (W.setCell ⟨g, k, none⟩ u) N M b8 e (some ⟨g, 0, none⟩) c9 a0 c0 :=
  ⟨h.below.setCell (p := ⟨g, k, none⟩) hg u, set_cell_far h.ec h8.symm, set_cell_far h.es h8.symm, h.er.set k u, h.sr.oth h.er (by decide) u⟩
set_option maxRecDepth 8000 in
set_option maxHeartbeats 10000000 in
theorem masterOwn_walk (c : Cf) (ac ast : Option Addr) (cc cs : Nat) (x : Cm) (w : World) (h : CfR w c ac cc ast cs) :
    Calls Try.prog 6 #[cval c ac cc ast cs, xval x] w fun e w' => e = .returned (.bool true) ∧ Below w.heap.size w w' := by
  have hb := box3 w c ac cc ast cs x
  have HR := Lib.hid h
  clear h
  have hc2 := cf_box w c ac cc ast cs
  have hb2 := below_alloc1 w (.cells #[.int .i64 c.epoch, .slice ac c.chain.length cc, .slice ast c.stores.length cs] 41)
  have hz2 := World.size_alloc w (.cells #[.int .i64 c.epoch, .slice ac c.chain.length cc, .slice ast c.stores.length cs] 41)
  clear hb
  unfold cval xval
  go_enter Try.func6, Try.ntmps6
  go_upto_region 1 with fail
  obtain ⟨w1, hw1⟩ : ∃ w1, w.alloc (.cells #[.int .i64 c.epoch, .slice ac c.chain.length cc, .slice ast c.stores.length cs] 41) = w1 := ⟨_, rfl⟩
  rw [hw1] at hc2 hb2 hz2 ⊢
  have hx3 := cm_box w1 x
  have hb3 := below_alloc1 w1 (.cells #[.int .i64 x.kind, .int .i64 x.node, .int .i64 x.birth, .int .i64 x.epoch] 45)
  obtain ⟨W1, hW1⟩ : ∃ W1, w1.alloc (.cells #[.int .i64 x.kind, .int .i64 x.node, .int .i64 x.birth, .int .i64 x.epoch] 45) = W1 := ⟨_, rfl⟩
  rw [hW1] at hx3 hb3 ⊢
  obtain ⟨b2, hb2e⟩ : ∃ b, b = w.heap.size := ⟨_, rfl⟩
  obtain ⟨b3, hb3e⟩ : ∃ b, b = w.heap.size + 1 := ⟨_, rfl⟩
  rw [hz2] at hx3
  try rw [hz2]
  rw [← hb3e] at hx3 ⊢
  rw [← hb2e] at hc2 ⊢
  have hbw : Below w.heap.size w W1 := hb2.trans ((show Below w1.heap.size w1 W1 from hb3).mono hb2.size)
  have H1 : Hid (CfAt W1 b2 c ac cc ast cs ∧ CmAt W1 b3 0 x ∧ CfR W1 c ac cc ast cs ∧ Below w.heap.size w W1) := Lib.hid ⟨hc2.below hb3, hx3, HR.out.below hbw, hbw⟩
  have HKN := Lib.hid (known_any W1)
  clear hw1 hc2 hb2 hz2 hx3 hb3 hW1 hb2e hb3e hbw HR
  go_wp2_with fail
  refine HKN.out.mono ?_
  rintro e W2 ⟨rfl, hb⟩
  have H2 : Hid (CfAt W2 b2 c ac cc ast cs ∧ CmAt W2 b3 0 x ∧ CfR W2 c ac cc ast cs ∧ Below w.heap.size w W2) := Lib.hid ⟨H1.out.1.below hb, H1.out.2.1.below hb, H1.out.2.2.1.below hb, H1.out.2.2.2.trans (hb.mono H1.out.2.2.2.size)⟩
  clear hb H1 HKN
  have p0 := H2.out.1.epoch
  have p1 := H2.out.1.chain
  have p2 := H2.out.1.stores
  have hfw := few_any c ac ast cc cs W2
  unfold cval at hfw
  have HFW := Lib.hid hfw
  have HFB : Hid (c.fewB = true → c.few) := Lib.hid fun h => by
    unfold Cf.fewB at h
    simp at h
    exact ⟨by omega, by omega⟩
  obtain ⟨fb, hfb⟩ : ∃ fb, fb = c.fewB := ⟨_, rfl⟩
  rw [← hfb] at HFW HFB
  clear hfw hfb
  go_wp2_with fail
  refine HFW.out.mono ?_
  rintro e W3 ⟨rfl, hb⟩
  have H3 : Hid (CfAt W3 b2 c ac cc ast cs ∧ CmAt W3 b3 0 x ∧ CfR W3 c ac cc ast cs ∧ Below w.heap.size w W3) := Lib.hid ⟨H2.out.1.below hb, H2.out.2.1.below hb, H2.out.2.2.1.below hb, H2.out.2.2.2.trans (hb.mono H2.out.2.2.2.size)⟩
  clear hb H2 HFW p0 p1 p2
  cases fb with
  | false =>
    clear HFB
    go_wp2
    go_ret
    exact ⟨rfl, H3.out.2.2.2⟩
  | true =>
  have HFEW := Lib.hid (HFB.out rfl)
  have p0 := H3.out.1.epoch
  have p1 := H3.out.1.chain
  have p2 := H3.out.1.stores
  have htw := twin_any c ac ast cc cs W3 H3.out.2.2.1 HFEW.out
  unfold cval at htw
  have HTW := Lib.hid htw
  clear htw HFB
  go_wp2_with fail
  refine HTW.out.mono ?_
  rintro e W4 ⟨m1, k1, m2, k2, rfl, hO, hb⟩
  have hc5 := cf_box W4 c m1 k1 m2 k2
  have hb5 := below_alloc1 W4 (.cells #[.int .i64 c.epoch, .slice m1 c.chain.length k1, .slice m2 c.stores.length k2] 41)
  simp only [cval]
  go_upto_region 6 with fail
  obtain ⟨W5, hW5⟩ : ∃ W5, W4.alloc (.cells #[.int .i64 c.epoch, .slice m1 c.chain.length k1, .slice m2 c.stores.length k2] 41) = W5 := ⟨_, rfl⟩
  obtain ⟨b5, hb5e⟩ : ∃ b, b = W4.heap.size := ⟨_, rfl⟩
  rw [hW5] at hc5 hb5 ⊢
  rw [← hb5e] at hc5 ⊢
  have hbb : Below W3.heap.size W3 W5 := hb.trans ((show Below W4.heap.size W4 W5 from hb5).mono hb.size)
  have H5 : Hid (CfAt W5 b2 c ac cc ast cs ∧ CmAt W5 b3 0 x ∧ CfR W5 c ac cc ast cs ∧ Below w.heap.size w W5) := Lib.hid ⟨H3.out.1.below hbb, H3.out.2.1.below hbb, H3.out.2.2.1.below hbb, H3.out.2.2.2.trans (hbb.mono H3.out.2.2.2.size)⟩
  have H5m : Hid (CfAt W5 b5 c m1 k1 m2 k2 ∧ CfR W5 c m1 k1 m2 k2) := Lib.hid ⟨hc5, (hO.below hb5).r⟩
  clear hW5 hb5e hc5 hb5 hbb hO hb HTW p0 p1 p2 H3
  have p0 := H5m.out.1.epoch
  have p1 := H5m.out.1.chain
  have p2 := H5m.out.1.stores
  have q0 := H5.out.2.1.kind
  have q1 := H5.out.2.1.node
  have q2 := H5.out.2.1.birth
  have q3 := H5.out.2.1.epoch
  simp only [Nat.zero_add] at q1 q2 q3
  have hdo := do_any c m1 m2 k1 k2 x W5 H5m.out.2 HFEW.out
  obtain ⟨d, hd⟩ : ∃ d, d = (c.step x).1 := ⟨_, rfl⟩
  obtain ⟨er, her⟩ : ∃ er, er = (c.step x).2 := ⟨_, rfl⟩
  rw [show c.step x = (d, er) by rw [hd, her]] at hdo
  unfold cval xval at hdo
  have HDO := Lib.hid hdo
  clear hdo hd her
  go_wp2_with fail
  refine HDO.out.mono ?_
  rintro e W6 ⟨a7, c7, a8, c8, rfl, hO, hb⟩
  have hc6 := cf_box W6 d a7 c7 a8 c8
  have hb6 := below_alloc1 W6 (.cells #[.int .i64 d.epoch, .slice a7 d.chain.length c7, .slice a8 d.stores.length c8] 41)
  simp only [cval]
  go_upto_region 7 with fail
  obtain ⟨W7, hW7⟩ : ∃ W7, W6.alloc (.cells #[.int .i64 d.epoch, .slice a7 d.chain.length c7, .slice a8 d.stores.length c8] 41) = W7 := ⟨_, rfl⟩
  obtain ⟨b6, hb6e⟩ : ∃ b, b = W6.heap.size := ⟨_, rfl⟩
  rw [hW7] at hc6 hb6 ⊢
  rw [← hb6e] at hc6 ⊢
  have hb57 : Below W5.heap.size W5 W7 := hb.trans ((show Below W6.heap.size W6 W7 from hb6).mono hb.size)
  have H7 : Hid (CfAt W7 b5 c m1 k1 m2 k2 ∧ CmAt W7 b3 0 x ∧ CfR W7 c m1 k1 m2 k2) := Lib.hid ⟨H5m.out.1.below hb57, H5.out.2.1.below hb57, H5m.out.2.below hb57⟩
  have H7d : Hid (CfAt W7 b6 d a7 c7 a8 c8 ∧ CfO W7 W5.heap.size d a7 c7 a8 c8 ∧ W5.heap.size ≤ b6 ∧ b6 < W7.heap.size ∧ (∀ y, a7 = some y → y.block < b6)) := Lib.hid ⟨hc6, hO.below hb6, by rw [hb6e]; exact hb.size, by rw [hb6e, ← hW7, World.size_alloc]; exact Nat.lt_succ_self _, fun y hy => by
    rcases hO.chain.2.2 with ⟨h1, _⟩ | ⟨g, cap, cur, h1, _, h3, _⟩
    · rw [hy] at h1; cases h1
    · rw [hy] at h1
      cases h1
      rw [hb6e]
      exact (Array.getElem?_eq_some_iff.1 h3).1⟩
  have HB57 := Lib.hid hb57
  clear hW7 hb6e hc6 hb6 hb57 hO hb HDO p0 p1 p2 q0 q1 q2 q3
  have p0 := H7.out.1.epoch
  have p1 := H7.out.1.chain
  have p2 := H7.out.1.stores
  have q0 := H7.out.2.1.kind
  have q1 := H7.out.2.1.node
  have q2 := H7.out.2.1.birth
  have q3 := H7.out.2.1.epoch
  simp only [Nat.zero_add] at q1 q2 q3
  have hb8 := below_alloc1 W7 (.cells #[.int .i64 x.kind, .int .i64 x.node, .int .i64 x.birth, .int .i64 x.epoch] 45)
  have hru := run_any c m1 m2 k1 k2 (some ⟨W7.heap.size, 0, none⟩) 1 1 [x] (W7.alloc (.cells #[.int .i64 x.kind, .int .i64 x.node, .int .i64 x.birth, .int .i64 x.epoch] 45)) (H7.out.2.2.below hb8) (xs_box W7 [x] (by show (1:Nat) ≤ _; omega)) HFEW.out
  obtain ⟨ee, hee⟩ : ∃ ee, ee = c.run [x] := ⟨_, rfl⟩
  rw [← hee] at hru
  unfold cval at hru
  have HRU := Lib.hid hru
  have HB8 := Lib.hid hb8
  clear hru hee hb8
  go_wp2_with fail
  refine HRU.out.mono ?_
  rintro e W8 ⟨a9, c9, a0, c0, rfl, hO, hb⟩
  have hc8 := cf_box W8 ee a9 c9 a0 c0
  have hb9 := below_alloc1 W8 (.cells #[.int .i64 ee.epoch, .slice a9 ee.chain.length c9, .slice a0 ee.stores.length c0] 41)
  simp only [cval]
  go_upto_region 8 with fail
  obtain ⟨V, hV⟩ : ∃ V, W8.alloc (.cells #[.int .i64 ee.epoch, .slice a9 ee.chain.length c9, .slice a0 ee.stores.length c0] 41) = V := ⟨_, rfl⟩
  obtain ⟨b8, hb8e⟩ : ∃ b, b = W8.heap.size := ⟨_, rfl⟩
  rw [hV] at hc8 hb9 ⊢
  rw [← hb8e] at hc8 ⊢
  have hb7V : Below W7.heap.size W7 V := HB8.out.trans ((hb.trans ((show Below W8.heap.size W8 V from hb9).mono hb.size)).mono HB8.out.size)
  have hb5V : Below W5.heap.size W5 V := HB57.out.trans (hb7V.mono HB57.out.size)
  obtain ⟨N, hN⟩ : ∃ N, N = W5.heap.size := ⟨_, rfl⟩
  obtain ⟨M, hM⟩ : ∃ M, M = W7.heap.size := ⟨_, rfl⟩
  have hM7 : M ≤ (W7.alloc (.cells #[.int .i64 x.kind, .int .i64 x.node, .int .i64 x.birth, .int .i64 x.epoch] 45)).heap.size := by rw [hM]; exact HB8.out.size
  have HNM : Hid (N ≤ M) := Lib.hid (by rw [hN, hM]; exact HB57.out.size)
  have hN7 : N ≤ (W7.alloc (.cells #[.int .i64 x.kind, .int .i64 x.node, .int .i64 x.birth, .int .i64 x.epoch] 45)).heap.size := by rw [hN]; exact Nat.le_trans HB57.out.size HB8.out.size
  have hOV := hO.below hb9
  have HV : Hid (OwnS V V N M b6 b8 d ee a7 c7 a9 c9 a0 c0) := Lib.hid (by
    have h1 := H7d.out.1.below hb7V
    have h2 := H7d.out.2.1.below hb7V
    rw [← hN] at h2
    exact ⟨Below.refl _ _, h1.chain, hc8.chain, hc8.stores, ⟨_, h2.chain.2⟩, ⟨_, own_mono hOV.chain.2 hM7⟩, ⟨_, own_mono hOV.stores.2.1 hM7⟩⟩)
  have HSAME : Hid (∀ Z, Below N V Z → CfAt Z b5 c m1 k1 m2 k2 ∧ CfAt Z b2 c ac cc ast cs ∧ CfR Z c m1 k1 m2 k2 ∧ CfR Z c ac cc ast cs ∧ Below w.heap.size w Z) := Lib.hid fun Z hz => by
    have hz5 : Below W5.heap.size W5 Z := hb5V.trans (by rw [← hN]; exact hz)
    exact ⟨H5m.out.1.below hz5, H5.out.1.below hz5, H5m.out.2.below hz5, H5.out.2.2.1.below hz5, H5.out.2.2.2.trans (hz5.mono H5.out.2.2.2.size)⟩
  have HNE : Hid (∀ y, a7 = some y → y.block ≠ b6 ∧ y.block ≠ b8 ∧ y.block < M) := Lib.hid (by
    have h78 : W7.heap.size ≤ b8 := by rw [hb8e]; exact Nat.le_trans HB8.out.size hb.size
    intro y hy
    have h1 := H7d.out.2.2.2.2 y hy
    have h2 := H7d.out.2.2.2.1
    omega)
  have HN9 : Hid (∀ y, a9 = some y → y.block ≠ b8) := Lib.hid (fun y hy => by
    rcases hO.chain.2.2 with ⟨h1, _⟩ | ⟨g, cap, cur, h1, _, h3, _⟩
    · rw [hy] at h1; cases h1
    · rw [hy] at h1
      cases h1
      have h4 := (Array.getElem?_eq_some_iff.1 h3).1
      show g ≠ b8
      omega)
  have HN0 : Hid (∀ y, a0 = some y → y.block ≠ b8) := Lib.hid (fun y hy => by
    rcases hO.stores.2.1.2 with ⟨h1, _⟩ | ⟨g, cap, cur, h1, _, h3, _⟩
    · rw [hy] at h1; cases h1
    · rw [hy] at h1
      cases h1
      have h4 := (Array.getElem?_eq_some_iff.1 h3).1
      show g ≠ b8
      omega)
  clear hN hM hN7 hM7 hOV hV hb8e hc8 hb9 hb7V hb5V hO hb HRU HB8 HB57 H7 H7d H5 H5m HFEW p0 p1 p2 q0 q1 q2 q3
  obtain ⟨nd, hnd⟩ : ∃ n, n = d.chain.length := ⟨_, rfl⟩
  obtain ⟨ns, hns⟩ : ∃ n, n = ee.stores.length := ⟨_, rfl⟩
  obtain ⟨ne, hne⟩ : ∃ n, n = ee.chain.length := ⟨_, rfl⟩
  have HLN := Lib.hid (And.intro hnd (And.intro hns hne))
  have hled : nd ≤ 9223372036854775807 := by have := HV.out.dr.cap; simp only [maxLen] at this; omega
  have hles : ns ≤ 9223372036854775807 := by have := HV.out.sr.cap; simp only [maxLen] at this; omega
  have hlee : ne ≤ 9223372036854775807 := by have := HV.out.er.cap; simp only [maxLen] at this; omega
  clear hnd hns hne
  go_wp2_with fail
  go_loopw [9] (fun i wr => ∃ k : Nat, k ≤ nd ∧ i = .int .i64 k ∧ Hid (OwnS V wr N M b6 b8 d ee a7 c7 a9 c9 a0 c0)) (fun i _ => nd - (intOf i).toNat)
  case atStart => exact ⟨0, Nat.zero_le _, rfl, HV⟩
  case round =>
    obtain ⟨k, hk, rfl, hS⟩ := hrel
    have p1 := hS.out.dc
    rw [← HLN.out.1] at p1
    by_cases hlt : k < nd
    · obtain ⟨g, rfl, hg1, hg2⟩ := hS.out.dr.form (by rw [← HLN.out.1]; omega)
      have hn := HNE.out _ rfl
      have hcap := hS.out.dr.cap
      rw [← HLN.out.1] at hcap
      obtain ⟨hsp, hfz⟩ := hS.out.dr.spare
      obtain ⟨v, hv⟩ := hsp (k * 3 + 1) (by omega)
      have hf := hfz (k * 3 + 1)
      have HS2 := Lib.hid (hS.out.set (k := k * 3 + 1) hg1 hn.2.2 hn.1 hn.2.1 (.int .i64 77))
      clear hn hcap hsp hfz hS hg1 hg2
      go_wp2
      go_roundw
      case rel => exact ⟨k + 1, by omega, by go_num, HS2⟩
      case measure => simp [intOf]; omega
    · obtain rfl : k = nd := by omega
      have HT := Lib.hid hS.out.t
      obtain ⟨V1, hV1⟩ : ∃ V1, V1 = wr := ⟨_, rfl⟩
      subst hV1
      clear hS HV
      go_wp2_with fail
      go_loopw [10] (fun i wr => ∃ k : Nat, k ≤ ns ∧ i = .int .i64 k ∧ Hid (OwnT V wr N M b8 ee a9 c9 a0 c0)) (fun i _ => ns - (intOf i).toNat)
      case atStart => exact ⟨0, Nat.zero_le _, rfl, HT⟩
      case round =>
        clear p1 HT
        obtain ⟨k, hk, rfl, hS⟩ := hrel
        have p1 := hS.out.es
        rw [← HLN.out.2.1] at p1
        by_cases hlt : k < ns
        · obtain ⟨g, rfl, hg1, hg2⟩ := hS.out.sr.form (by rw [← HLN.out.2.1]; omega)
          have hn := HN0.out _ rfl
          have hcap := hS.out.sr.cap
          rw [← HLN.out.2.1] at hcap
          obtain ⟨hsp, hfz⟩ := hS.out.sr.spare
          obtain ⟨v, hv⟩ := hsp (k * 1) (by omega)
          have hf := hfz (k * 1)
          have HS2 := Lib.hid (hS.out.setS (k := k * 1) (Nat.le_trans HNM.out hg1) hn (.int .i64 77))
          rw [Nat.mul_one] at hv hf HS2
          clear hn hcap hsp hfz hS hg1 hg2
          go_wp2
          go_roundw
          case rel => exact ⟨k + 1, by omega, by go_num, HS2⟩
          case measure => simp [intOf]; omega
        · obtain rfl : k = ns := by omega
          obtain ⟨V2, hV2⟩ : ∃ V2, V2 = wr := ⟨_, rfl⟩
          subst hV2
          go_wp2_with fail
          go_loopw [11] (fun i wr => ∃ k : Nat, k ≤ ne ∧ i = .int .i64 k ∧ Hid (OwnT V wr N M b8 ee a9 c9 a0 c0)) (fun i _ => ne - (intOf i).toNat)
          case atStart => exact ⟨0, Nat.zero_le _, rfl, hS⟩
          case round =>
            clear p1 hS
            obtain ⟨k, hk, rfl, hS⟩ := hrel
            have p1 := hS.out.ec
            rw [← HLN.out.2.2] at p1
            by_cases hlt : k < ne
            · obtain ⟨g, rfl, hg1, hg2⟩ := hS.out.er.form (by rw [← HLN.out.2.2]; omega)
              have hn := HN9.out _ rfl
              have hcap := hS.out.er.cap
              rw [← HLN.out.2.2] at hcap
              obtain ⟨hsp, hfz⟩ := hS.out.er.spare
              obtain ⟨v, hv⟩ := hsp (k * 3) (by omega)
              have hf := hfz (k * 3)
              have HS2 := Lib.hid (hS.out.setC (k := k * 3) (Nat.le_trans HNM.out hg1) hn (.int .i64 77))
              clear hn hcap hsp hfz hS hg1 hg2
              go_wp2
              go_roundw
              case rel => exact ⟨k + 1, by omega, by go_num, HS2⟩
              case measure => simp [intOf]; omega
            · obtain rfl : k = ne := by omega
              obtain ⟨V3, hV3⟩ : ∃ V3, V3 = wr := ⟨_, rfl⟩
              subst hV3
              obtain ⟨hm, hc, rm, rc, hbz⟩ := HSAME.out V3 hS.out.below
              have hsm := same_yes c m1 m2 ac ast k1 k2 cc cs V3 rm rc
              unfold cval at hsm
              have HSM := Lib.hid hsm
              have p2 := hm.epoch
              have p3 := hm.chain
              have p4 := hm.stores
              have q2 := hc.epoch
              have q3 := hc.chain
              have q4 := hc.stores
              have HBZ := Lib.hid hbz
              clear hsm hm hc rm rc hbz
              go_wp2_with fail
              refine HSM.out.mono ?_
              rintro e V4 ⟨rfl, hb⟩
              have HBE := Lib.hid (HBZ.out.trans (hb.mono HBZ.out.size))
              clear hb HBZ HSM p2 p3 p4 q2 q3 q4
              go_wp2
              go_ret
              exact ⟨rfl, HBE.out⟩
end Go.Proofs.Ytincllchoflpmaa
