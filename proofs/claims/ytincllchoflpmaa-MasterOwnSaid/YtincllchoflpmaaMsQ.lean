/- A law's few; the reference's Twin and Same. -/
import Derived.Test.YtincllchoflpmaaMsN
namespace Go.Proofs.Ytincllchoflpmaa
set_option linter.unusedSimpArgs false
open Go.RowKit
set_option linter.unusedVariables false

def Cf.fewB (c : Cf) : Bool := decide (c.chain.length ≤ 1000) && decide (c.stores.length ≤ 1000)
set_option maxHeartbeats 1000000 in
theorem few_any (c : Cf) (ac ast : Option Addr) (cc cs : Nat) (w : World) :
    Calls Try.prog 21 #[cval c ac cc ast cs] w fun e w' => e = .returned (.bool c.fewB) ∧ Below w.heap.size w w' := by
  have hc := cf_box w c ac cc ast cs
  have hb := below_alloc1 w (.cells #[.int .i64 c.epoch, .slice ac c.chain.length cc, .slice ast c.stores.length cs] 41)
  have p1 := hc.chain
  have p2 := hc.stores
  have HB := Lib.hid hb
  have HF : Hid (c.fewB = (decide (c.chain.length ≤ 1000) && decide (c.stores.length ≤ 1000))) := Lib.hid rfl
  obtain ⟨fb, hfb⟩ : ∃ fb, fb = c.fewB := ⟨_, rfl⟩
  rw [← hfb] at HF ⊢
  unfold cval
  clear hc hb hfb
  by_cases h : c.chain.length ≤ 1000
  · have t : decide ((c.chain.length : Int) ≤ (1000 : Int)) = true := decide_eq_true (by omega)
    by_cases h2 : c.stores.length ≤ 1000
    · have t2 : decide ((c.stores.length : Int) ≤ (1000 : Int)) = true := decide_eq_true (by omega)
      have hv : fb = true := by rw [HF.out, decide_eq_true h, decide_eq_true h2]; rfl
      subst hv
      clear HF h h2
      go_enter Try.func21, Try.ntmps21
      go_wp2
      go_ret
      exact ⟨rfl, HB.out⟩
    · have t2 : decide ((c.stores.length : Int) ≤ (1000 : Int)) = false := decide_eq_false (by omega)
      have hv : fb = false := by rw [HF.out, decide_eq_true h, decide_eq_false h2]; rfl
      subst hv
      clear HF h h2
      go_enter Try.func21, Try.ntmps21
      go_wp2
      go_ret
      exact ⟨rfl, HB.out⟩
  · have t : decide ((c.chain.length : Int) ≤ (1000 : Int)) = false := decide_eq_false (by omega)
    have hv : fb = false := by rw [HF.out, decide_eq_false h]; rfl
    subst hv
    clear HF h
    go_enter Try.func21, Try.ntmps21
    go_wp2
    go_ret
    exact ⟨rfl, HB.out⟩
theorem Box2.setB2 {w W : World} {b2 b4 : Nat} {c c' : Cf} {ac ast ac' ast' : Option Addr} {cc cs cc' cs' : Nat} (h : Box2 w W b2 b4 c ac cc ast cs) (j : Nat) (v : Value) (hc : CfAt (W.setCell ⟨b2, j, none⟩ v) b2 c' ac' cc' ast' cs') : Box2 w (W.setCell ⟨b2, j, none⟩ v) b2 b4 c' ac' cc' ast' cs' := by
  have hp := h.place
  have hk : ∀ {b k : Nat} {v' : Value}, b2 ≠ b → W.cell? ⟨b, k, none⟩ = some v' → (W.setCell ⟨b2, j, none⟩ v).cell? ⟨b, k, none⟩ = some v' := fun hn hv => by
    rw [World.cell?_setCell_other _ _ _ _ (fun e => hn (by cases e; rfl))]; exact hv
  refine ⟨hc, ⟨hk hp.2.2.2.2 h.res.epoch, hk hp.2.2.2.2 h.res.chain, hk hp.2.2.2.2 h.res.stores⟩, fun j => (by rw [World.frozen?_setCell]; exact h.f2 j), fun j => (by rw [World.frozen?_setCell]; exact h.f4 j), h.below.setCell (p := ⟨b2, j, none⟩) hp.1 _, by rw [World.size_setCell]; exact hp⟩
set_option maxRecDepth 8000 in
set_option maxHeartbeats 4000000 in
theorem twin_any (c : Cf) (ac ast : Option Addr) (cc cs : Nat) (w : World) (h : CfR w c ac cc ast cs) (hn : c.few) :
    Calls Try.prog 22 #[cval c ac cc ast cs] w (RetCf w c) := by
  have hb := box2 w c ac cc ast cs
  have HR := Lib.hid h
  have HHN := Lib.hid hn
  clear h hn
  unfold cval
  go_enter Try.func22, Try.ntmps22
  go_upto_region 1 with fail
  obtain ⟨W1, hW1⟩ : ∃ W1, ((w.alloc (.cells #[.int .i64 c.epoch, .slice ac c.chain.length cc, .slice ast c.stores.length cs] 41)).alloc (.cells #[.int .i64 0, .slice none 0 0, .slice none 0 0] 41)) = W1 := ⟨_, rfl⟩
  obtain ⟨b2, hb2⟩ : ∃ b, w.heap.size = b := ⟨_, rfl⟩
  rw [hW1] at hb ⊢
  have hb' : Box2 w W1 b2 (b2 + 1) c ac cc ast cs := by rw [← hb2]; exact hb
  rw [hb2]
  obtain ⟨b4, hb4⟩ : ∃ b, b2 + 1 = b := ⟨_, rfl⟩
  rw [hb4] at hb' ⊢
  have HBX := Lib.hid hb'
  obtain ⟨B, hB⟩ : ∃ B, B = W1.heap.size := ⟨_, rfl⟩
  have HLO : Hid (b2 < B ∧ b4 < B ∧ w.heap.size ≤ B ∧ B ≤ W1.heap.size ∧ b2 < W1.heap.size) := Lib.hid (by have := hb'.place; omega)
  have hr1 := HR.out.below hb'.below
  have HM1 : Hid (Row (W1.alloc (.cells #[] 48)) ac (mv c.chain)) := Lib.hid (hr1.chain.2.2.2.below (below_alloc1 W1 _))
  have HO1 : Hid ((W1.alloc (.cells #[] 48)).ownsRow B 48 3 (.slice (some ⟨W1.heap.size, 0, none⟩) 0 0) 0 []) :=
    Lib.hid ⟨rfl, .inr ⟨W1.heap.size, 0, #[], rfl, by omega, heap_alloc_new W1 _, Nat.le_refl _, by simp [maxLen], rfl, rfl⟩⟩
  have HCL : Hid ((mv c.chain).length = c.chain.length * 3) := Lib.hid (mv_len _)
  have HBA : Hid (B ≤ (W1.alloc (.cells #[] 48)).heap.size) := Lib.hid (le_alloc (by omega))
  have HCN : Hid (c.chain.length ≤ 1000000000 ∧ c.stores.length ≤ 1000000000) := Lib.hid HHN.out
  obtain ⟨i0, hi0, hz0, hz1, hz2⟩ := info_parts infoMb
  have HI := Lib.hid (And.intro hi0 (And.intro hz0 (And.intro hz1 hz2)))
  obtain ⟨j0, hj0, hy0, hy1, hy2⟩ := info_parts infoI
  have HJ := Lib.hid (And.intro hj0 (And.intro hy0 (And.intro hy1 hy2)))
  have HEV : Hid (∀ a5 c5 w5, w5.ownsRow B 48 3 (.slice a5 (0 + c.chain.length) c5) (0 + c.chain.length) ([] ++ mv c.chain) → Evol (W1.alloc (.cells #[] 48)) (some ⟨W1.heap.size, 0, none⟩) w5 a5 → Below W1.heap.size W1 w5 ∧ AccM w5 B a5 c.chain.length c5 c.chain) := Lib.hid fun a5 c5 w5 h1 h2 =>
    ⟨(below_alloc1 W1 _).trans (h2.below (B := W1.heap.size) (le_alloc (Nat.le_refl _)) (fun x hx => by cases hx; exact Nat.le_refl _)), rfl, by simpa using h1⟩
  have p1 := hb'.cf.chain
  have p1a := cell_later (below_alloc1 W1 (.cells #[] 48)) p1
  have f2 := hb'.f2
  clear hb' hb hW1 hb2 hb4 hr1 hi0 hz0 hz1 hz2 hj0 hy0 hy1 hy2 hB
  go_upto_region 2 with (at_builtin; refine wpList_app_own rfl _ _ 38 rfl B 48 i0 (.agg #[.int .i64 0, .int .i64 0, .bool false]) 3 24 Try.underlying38 HI.out.1 HI.out.2.1 HI.out.2.2.1 HI.out.2.2.2 rfl (by decide) (some ⟨W1.heap.size, 0, none⟩) 0 0 [] rfl HO1.out ac c.chain.length cc (mv c.chain) rfl HM1.out HCL.out (mv_one _) (by have := HCN.out; omega) (by have := HCN.out; simp only [maxLen]; omega) HBA.out ?_; intro a5 c5 w5 h5 hev5; obtain ⟨hb5, ha5⟩ := HEV.out a5 c5 w5 h5 hev5; have HB5 := Lib.hid hb5; have HA5 := Lib.hid ha5; have z1 := cell_later hb5 p1; have zf : ∀ j, w5.frozen? ⟨b2, j, none⟩ = false := (fun j => (hb5.frozen (p := ⟨b2, j, none⟩) HLO.out.2.2.2.2).trans (f2 j)); clear h5 hev5 hb5 ha5 p1 p1a f2)
  try simp only [Nat.zero_add]
  have hx6 := (HBX.out.later HB5.out).setB2 1 _ ((HBX.out.later HB5.out).cf.set1 HA5.out.1 a5 c5)
  obtain ⟨W6, hW6⟩ : ∃ W6, w5.setCell ⟨b2, 1, none⟩ (.slice a5 c.chain.length c5) = W6 := ⟨_, rfl⟩
  have HZ6 : Hid (B ≤ W6.heap.size ∧ b2 < W6.heap.size ∧ Below W1.heap.size W1 w5) := Lib.hid (by
    rw [← hW6, World.size_setCell]
    have h1 := HB5.out.size
    have h2 := HLO.out
    exact ⟨by omega, by omega, HB5.out⟩)
  have HA6 : Hid (AccM W6 B a5 c.chain.length c5 c.chain) := Lib.hid (by rw [← hW6]; exact ⟨HA5.out.1, own_setLow HA5.out.2 (p := ⟨b2, 1, none⟩) HLO.out.1 _⟩)
  have HM6 : Hid (Row (W6.alloc (.cells #[] 3)) ast (zv c.stores)) := Lib.hid (by
    refine Row.below ?_ (below_alloc1 W6 _)
    have h9 : Box2 w W6 b2 b4 ⟨c.epoch, c.chain, c.stores⟩ a5 c5 ast cs := by rw [← hW6]; exact hx6
    exact (HR.out.stores.below h9.below).2.2.2.1)
  rw [hW6] at hx6 ⊢
  have HX6 := Lib.hid hx6
  have HO6 : Hid ((W6.alloc (.cells #[] 3)).ownsRow B 3 1 (.slice (some ⟨W6.heap.size, 0, none⟩) 0 0) 0 []) :=
    Lib.hid ⟨rfl, .inr ⟨W6.heap.size, 0, #[], rfl, HZ6.out.1, heap_alloc_new W6 _, Nat.le_refl _, by simp [maxLen], rfl, rfl⟩⟩
  have HCS : Hid ((zv c.stores).length = c.stores.length * 1) := Lib.hid (by simp [zv])
  have HBA6 : Hid (B ≤ (W6.alloc (.cells #[] 3)).heap.size) := Lib.hid (le_alloc HZ6.out.1)
  have HI64 : Hid (∀ z ∈ c.stores, I64 z) := Lib.hid HR.out.stores.2.2.2.2
  have HEV6 : Hid (∀ a7 c7 w7, w7.ownsRow B 3 1 (.slice a7 (0 + c.stores.length) c7) (0 + c.stores.length) ([] ++ zv c.stores) → Evol (W6.alloc (.cells #[] 3)) (some ⟨W6.heap.size, 0, none⟩) w7 a7 → Below W6.heap.size W6 w7 ∧ AccI w7 B a7 c.stores.length c7 c.stores) := Lib.hid fun a7 c7 w7 h1 h2 =>
    ⟨(below_alloc1 W6 _).trans (h2.below (B := W6.heap.size) (le_alloc (Nat.le_refl _)) (fun x hx => by cases hx; exact Nat.le_refl _)), rfl, by simpa using h1, HI64.out⟩
  have p2 := hx6.cf.stores
  have p2a := cell_later (below_alloc1 W6 (.cells #[] 3)) p2
  have f2 := hx6.f2
  clear hW6 hx6 z1 zf HA5 HB5 HEV HM1 HO1
  go_upto_region 3 with (at_builtin; refine wpList_app_own rfl _ _ 39 rfl B 3 j0 (.int .i64 0) 1 8 Try.underlying39 HJ.out.1 HJ.out.2.1 HJ.out.2.2.1 HJ.out.2.2.2 rfl (by decide) (some ⟨W6.heap.size, 0, none⟩) 0 0 [] rfl HO6.out ast c.stores.length cs (zv c.stores) rfl HM6.out HCS.out (zv_one _) (by have := HCN.out; omega) (by have := HCN.out; simp only [maxLen]; omega) HBA6.out ?_; intro a7 c7 w7 h7 hev7; obtain ⟨hb7, ha7⟩ := HEV6.out a7 c7 w7 h7 hev7; have HB7 := Lib.hid hb7; have HA7 := Lib.hid ha7; have z2 := cell_later hb7 p2; have zf : ∀ j, w7.frozen? ⟨b2, j, none⟩ = false := (fun j => (hb7.frozen (p := ⟨b2, j, none⟩) HZ6.out.2.1).trans (f2 j)); clear h7 hev7 hb7 ha7 p2 p2a f2)
  try simp only [Nat.zero_add]
  have hx8 := (HX6.out.later HB7.out).setB2 2 _ ((HX6.out.later HB7.out).cf.set2 HA7.out.1 a7 c7)
  obtain ⟨W8, hW8⟩ : ∃ W8, w7.setCell ⟨b2, 2, none⟩ (.slice a7 c.stores.length c7) = W8 := ⟨_, rfl⟩
  have hown : CfO W8 B c a5 c5 a7 c7 := by
    rw [← hW8]
    exact (CfO.mk (c := c) (HA6.out.below HB7.out) HA7.out).setLow (p := ⟨b2, 2, none⟩) HLO.out.1 _
  rw [hW8] at hx8 ⊢
  have p0 := hx8.cf.epoch
  have p1 := hx8.cf.chain
  have p2 := hx8.cf.stores
  have s0 := hx8.res.epoch
  have s1 := hx8.res.chain
  have s2 := hx8.res.stores
  have f4 := hx8.f4
  have hfin := cset_at (c := c) (ac := a5) (cc := c5) (ast := a7) (cs := c7) hx8.res
  have hbe := cset_below (c := c) (ac := a5) (cc := c5) (ast := a7) (cs := c7) hx8.below hx8.place.2.1
  have hown2 : CfO (cset W8 b4 c a5 c5 a7 c7) B c a5 c5 a7 c7 := cset_low hown HLO.out.2.1
  have y0 := hfin.epoch
  have y1 := hfin.chain
  have y2 := hfin.stores
  have HOW := Lib.hid (hown2.mono HLO.out.2.2.1)
  unfold cset at y0 y1 y2 hbe HOW
  have HBE := Lib.hid hbe
  clear hW8 hx8 hfin hbe hown hown2 z2 zf
  go_wp2
  refine bodyPost_ret (v := .agg #[.int .i64 c.epoch, .slice a5 c.chain.length c5, .slice a7 c.stores.length c7]) (by simp [results, Try.results22, go_sem, y0, y1, y2]) rfl ?_
  exact ⟨a5, c5, a7, c7, rfl, HOW.out, HBE.out⟩
/-- Where two boxes hold one configuration. -/
structure SameS (w W : World) (b2 b3 : Nat) (c : Cf) (a1 : Option Addr) (k1 : Nat) (a2 : Option Addr) (k2 : Nat) (e1 : Option Addr) (m1 : Nat) (e2 : Option Addr) (m2 : Nat) : Prop where
  ca : CfAt W b2 c a1 k1 a2 k2
  cb : CfAt W b3 c e1 m1 e2 m2
  ra : CfR W c a1 k1 a2 k2
  rb : CfR W c e1 m1 e2 m2
  below : Below w.heap.size w W
theorem SameS.later {w W W' : World} {b2 b3 : Nat} {c : Cf} {a1 a2 e1 e2 : Option Addr} {k1 k2 m1 m2 : Nat} (h : SameS w W b2 b3 c a1 k1 a2 k2 e1 m1 e2 m2) (hb : Below W.heap.size W W') : SameS w W' b2 b3 c a1 k1 a2 k2 e1 m1 e2 m2 :=
  ⟨h.ca.below hb, h.cb.below hb, h.ra.below hb, h.rb.below hb, h.below.trans (hb.mono h.below.size)⟩
set_option maxRecDepth 8000 in
set_option maxHeartbeats 4000000 in
theorem same_yes (c : Cf) (a1 a2 e1 e2 : Option Addr) (k1 k2 m1 m2 : Nat) (w : World) (h1 : CfR w c a1 k1 a2 k2) (h2 : CfR w c e1 m1 e2 m2) :
    Calls Try.prog 24 #[cval c a1 k1 a2 k2, cval c e1 m1 e2 m2] w fun e w' => e = .returned (.bool true) ∧ Below w.heap.size w w' := by
  have hle := h1.chain.le.1
  have hle2 := h1.stores.le.1
  have hc1 := cf_box w c a1 k1 a2 k2
  have hb1 := below_alloc1 w (.cells #[.int .i64 c.epoch, .slice a1 c.chain.length k1, .slice a2 c.stores.length k2] 41)
  have hz := World.size_alloc w (.cells #[.int .i64 c.epoch, .slice a1 c.chain.length k1, .slice a2 c.stores.length k2] 41)
  unfold cval
  go_enter Try.func24, Try.ntmps24
  go_upto_region 1 with fail
  obtain ⟨W1, hW1⟩ : ∃ W1, w.alloc (.cells #[.int .i64 c.epoch, .slice a1 c.chain.length k1, .slice a2 c.stores.length k2] 41) = W1 := ⟨_, rfl⟩
  rw [hW1] at hc1 hb1 hz ⊢
  have hc2 := cf_box W1 c e1 m1 e2 m2
  have hb2 := below_alloc1 W1 (.cells #[.int .i64 c.epoch, .slice e1 c.chain.length m1, .slice e2 c.stores.length m2] 41)
  obtain ⟨W2, hW2⟩ : ∃ W2, W1.alloc (.cells #[.int .i64 c.epoch, .slice e1 c.chain.length m1, .slice e2 c.stores.length m2] 41) = W2 := ⟨_, rfl⟩
  rw [hW2] at hc2 hb2 ⊢
  rw [hz] at hc2
  have hbw : Below w.heap.size w W2 := hb1.trans ((show Below W1.heap.size W1 W2 from hb2).mono hb1.size)
  have HS : Hid (SameS w W2 w.heap.size (w.heap.size + 1) c a1 k1 a2 k2 e1 m1 e2 m2) := Lib.hid ⟨hc1.below hb2, hc2, h1.below hbw, h2.below hbw, hbw⟩
  obtain ⟨b2, hb2e⟩ : ∃ b, b = w.heap.size := ⟨_, rfl⟩
  obtain ⟨b3, hb3e⟩ : ∃ b, b = w.heap.size + 1 := ⟨_, rfl⟩
  rw [← hb3e, ← hb2e] at HS
  try rw [hz]
  try rw [← hb3e]
  try rw [← hb2e]
  try rw [hb2e, ← hb3e, ← hb2e]
  clear h1 h2 hc1 hb1 hz hW1 hc2 hb2 hW2 hbw hb2e hb3e
  obtain ⟨n, hn⟩ : ∃ n, n = c.chain.length := ⟨_, rfl⟩
  obtain ⟨m, hm⟩ : ∃ m, m = c.stores.length := ⟨_, rfl⟩
  have HN := Lib.hid (And.intro hn hm)
  have p0 := HS.out.ca.epoch
  have p1 := HS.out.ca.chain
  have p2 := HS.out.ca.stores
  have q0 := HS.out.cb.epoch
  have q1 := HS.out.cb.chain
  have q2 := HS.out.cb.stores
  rw [← hn] at p1 q1 hle
  rw [← hm] at p2 q2 hle2
  clear hn hm
  go_wp2_with fail
  go_loopw [5] (fun i wr => ∃ k : Nat, k ≤ n ∧ i = .int .i64 k ∧ Hid (Below W2.heap.size W2 wr)) (fun i _ => n - (intOf i).toNat)
  case atStart => exact ⟨0, Nat.zero_le _, rfl, Lib.hid (Below.refl _ _)⟩
  case round =>
    obtain ⟨k, hk, rfl, hb⟩ := hrel
    have HS2 := Lib.hid (HS.out.later hb.out)
    replace p0 := HS2.out.ca.epoch
    replace p1 := HS2.out.ca.chain
    replace p2 := HS2.out.ca.stores
    replace q0 := HS2.out.cb.epoch
    replace q1 := HS2.out.cb.chain
    replace q2 := HS2.out.cb.stores
    rw [← HN.out.1] at p1 q1
    rw [← HN.out.2] at p2 q2
    by_cases hlt : k < n
    · obtain ⟨b, off, rfl, ha⟩ := HS2.out.ra.chain.get (i := k) (by rw [← HN.out.1]; exact hlt)
      obtain ⟨b', off', rfl, ha'⟩ := HS2.out.rb.chain.get (i := k) (by rw [← HN.out.1]; exact hlt)
      obtain ⟨x, hx⟩ : ∃ x, x = nth c.chain k := ⟨_, rfl⟩
      rw [← hx] at ha ha'
      have u1 := ha.node
      have u2 := ha.birth
      have u3 := ha.whole
      have v1 := ha'.node
      have v2 := ha'.birth
      have v3 := ha'.whole
      have i1 : (0 : Int) ≤ (k : Int) := by omega
      have i2 : (k : Int) < (n : Int) := by omega
      have hgu : ∀ (x y : Operand) (xs ys : Array Value) (w : World), (eqGuard .neq 48 x y (.agg xs) (.agg ys)).run Try.prog w = .ok () w := fun x y xs ys w => run_eqGuard_agg w .neq 48 x y xs ys mb_guard
      have hne : ∀ w : World, (binOp .neq 48 (.agg #[.int .i64 x.node, .int .i64 x.birth, .bool x.whole]) (.agg #[.int .i64 x.node, .int .i64 x.birth, .bool x.whole])).run Try.prog w = .ok (.bool false) w := fun w => by
        rw [run_neq_struct, mb_equal x x]
        simp [Result.andThen]
      clear ha ha' hx p0 p2 q0 q2
      go_upto_region 6 with fail
      refine wp_region_class (w0 := wr) (by kernel_rfl) (by kernel_rfl) (Below.refl _ _) ?_
      have l1 := BW.cell p1
      have l2 := BW.cell q1
      have l3 := BW.cell u1
      have l4 := BW.cell u2
      have l5 := BW.cell u3
      have l6 := BW.cell v1
      have l7 := BW.cell v2
      have l8 := BW.cell v3
      repeat (first | go_big_quiet_step (fail))
      refine wpQuiet_nil ?_
      intro w6 hb6; replace hb6 := BW.of hb6
      have HB6 := Lib.hid (hb.out.trans (hb6.mono hb.out.size))
      clear l1 l2 l3 l4 l5 l6 l7 l8 hb6 hb u1 u2 u3 v1 v2 v3 p1 q1 hgu hne
      go_wp2
      go_roundw
      case rel => exact ⟨k + 1, by omega, by go_num, HB6⟩
      case measure => simp [intOf]; omega
    · obtain rfl : k = n := by omega
      obtain ⟨V, hV⟩ : ∃ V, V = wr := ⟨_, rfl⟩
      subst hV
      clear hb
      go_wp2_with fail
      go_loopw [6] (fun i wr => ∃ k : Nat, k ≤ m ∧ i = .int .i64 k ∧ Hid (Below V.heap.size V wr)) (fun i _ => m - (intOf i).toNat)
      case atStart => exact ⟨0, Nat.zero_le _, rfl, Lib.hid (Below.refl _ _)⟩
      case round =>
        obtain ⟨j, hj, rfl, hb⟩ := hrel
        have HS3 := Lib.hid (HS2.out.later hb.out)
        replace p2 := HS3.out.ca.stores
        replace q2 := HS3.out.cb.stores
        rw [← HN.out.2] at p2 q2
        by_cases hlt : j < m
        · obtain ⟨b, off, rfl, ha⟩ := HS3.out.ra.stores.get (i := j) (by rw [← HN.out.2]; exact hlt)
          obtain ⟨b', off', rfl, ha'⟩ := HS3.out.rb.stores.get (i := j) (by rw [← HN.out.2]; exact hlt)
          obtain ⟨x, hx⟩ : ∃ x, x = nth c.stores j := ⟨_, rfl⟩
          rw [← hx] at ha ha'
          have i1 : (0 : Int) ≤ (j : Int) := by omega
          have i2 : (j : Int) < (m : Int) := by omega
          have hxx : (x != x) = false := by simp
          clear hx p0 p1 q0 q1
          go_upto_region 11 with fail
          refine wp_region_class (w0 := wr) (by kernel_rfl) (by kernel_rfl) (Below.refl _ _) ?_
          have l1 := BW.cell p2
          have l2 := BW.cell q2
          have l3 := BW.cell ha
          have l4 := BW.cell ha'
          repeat (first | go_big_quiet_step (fail))
          refine wpQuiet_nil ?_
          intro w6 hb6; replace hb6 := BW.of hb6
          have HB6 := Lib.hid (hb.out.trans (hb6.mono hb.out.size))
          clear l1 l2 l3 l4 hb6 hb ha ha' p2 q2
          go_wp2
          go_roundw
          case rel => exact ⟨j + 1, by omega, by go_num, HB6⟩
          case measure => simp [intOf]; omega
        · obtain rfl : j = m := by omega
          have HBE := Lib.hid HS3.out.below
          clear hb
          go_wp2
          go_ret
          exact ⟨rfl, HBE.out⟩
end Go.Proofs.Ytincllchoflpmaa
