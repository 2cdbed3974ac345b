/- master.Run. -/
import Derived.Test.YtincllchoflpmaaMsL
import Derived.Test.YtincllchoflpmaaMsP
namespace Go.Proofs.Ytincllchoflpmaa
open Go.RowKit
set_option linter.unusedVariables false

def xcells (x : Cm) : List Value := [.int .i64 x.kind, .int .i64 x.node, .int .i64 x.birth, .int .i64 x.epoch]
def xv (l : List Cm) : List Value := l.flatMap xcells
theorem xv_len : ∀ l : List Cm, (xv l).length = l.length * 4
  | [] => rfl
  | m :: l => by
    have h := xv_len l
    unfold xv at *
    rw [List.flatMap_cons, List.length_append, h, List.length_cons]
    simp [xcells]
    omega
theorem xv_get : ∀ (l : List Cm) (i j : Nat), i < l.length → j < 4 → (xv l)[i * 4 + j]? = (xcells (nth l i))[j]?
  | [], i, j, hi, _ => by simp at hi
  | m :: l, 0, j, _, hj => by
    unfold xv
    rw [List.flatMap_cons, List.getElem?_append_left (by simp [xcells]; omega), Nat.zero_mul, Nat.zero_add]
    rfl
  | m :: l, i + 1, j, hi, hj => by
    have h := xv_get l i j (by simpa using hi) hj
    unfold xv at *
    rw [List.flatMap_cons, List.getElem?_append_right (by simp [xcells]; omega), show (i + 1) * 4 + j - (xcells m).length = i * 4 + j by simp [xcells]; omega, h]
    simp [nth]
/-- A slice of commands that is read. -/
def Xs (w : World) (a : Option Addr) (n c : Nat) (l : List Cm) : Prop := l.length = n ∧ n ≤ c ∧ c ≤ maxLen ∧ Row w a (xv l)
theorem Xs.below {w w' : World} {a : Option Addr} {n c : Nat} {l : List Cm} (h : Xs w a n c l) (hb : Below w.heap.size w w') : Xs w' a n c l := ⟨h.1, h.2.1, h.2.2.1, h.2.2.2.below hb⟩
theorem Xs.le {w : World} {a : Option Addr} {n c : Nat} {l : List Cm} (h : Xs w a n c l) : n ≤ 9223372036854775807 ∧ c ≤ 9223372036854775807 := by
  have := h.2.1; have := h.2.2.1; simp only [maxLen] at *; omega
theorem Xs.get {w : World} {a : Option Addr} {n c : Nat} {l : List Cm} (h : Xs w a n c l) {i : Nat} (hi : i < n) : ∃ b off, a = some ⟨b, off, none⟩ ∧ CmAt w b (off + i * 4) (nth l i) := by
  have hl := h.1
  have g : ∀ j, j < 4 → (xv l)[i * 4 + j]? = (xcells (nth l i))[j]? := fun j hj => xv_get l i j (by omega) hj
  obtain ⟨b, off, rfl, h0⟩ := h.2.2.2 (i * 4 + 0) _ ((g 0 (by omega)).trans rfl)
  obtain ⟨b1, o1, e1, h1⟩ := h.2.2.2 (i * 4 + 1) _ ((g 1 (by omega)).trans rfl)
  obtain ⟨b2, o2, e2, h2⟩ := h.2.2.2 (i * 4 + 2) _ ((g 2 (by omega)).trans rfl)
  obtain ⟨b3, o3, e3, h3⟩ := h.2.2.2 (i * 4 + 3) _ ((g 3 (by omega)).trans rfl)
  cases e1
  cases e2
  cases e3
  exact ⟨b, off, rfl, h0, h1, h2, h3⟩
/-- Two boxes: a configuration, and what is told. -/
structure Box2 (w W : World) (b2 b4 : Nat) (c : Cf) (ac : Option Addr) (cc : Nat) (ast : Option Addr) (cs : Nat) : Prop where
  cf : CfAt W b2 c ac cc ast cs
  res : CfAt W b4 Ms.zero none 0 none 0
  f2 : ∀ j, W.frozen? ⟨b2, j, none⟩ = false
  f4 : ∀ j, W.frozen? ⟨b4, j, none⟩ = false
  below : Below w.heap.size w W
  place : w.heap.size ≤ b2 ∧ w.heap.size ≤ b4 ∧ b2 < W.heap.size ∧ b4 < W.heap.size ∧ b2 ≠ b4
theorem Box2.later {w W W' : World} {b2 b4 : Nat} {c : Cf} {ac ast : Option Addr} {cc cs : Nat} (h : Box2 w W b2 b4 c ac cc ast cs) (hb : Below W.heap.size W W') : Box2 w W' b2 b4 c ac cc ast cs :=
  ⟨h.cf.below hb, h.res.below hb, fun j => (hb.frozen (p := ⟨b2, j, none⟩) h.place.2.2.1).trans (h.f2 j), fun j => (hb.frozen (p := ⟨b4, j, none⟩) h.place.2.2.2.1).trans (h.f4 j), h.below.trans (hb.mono h.below.size), by have := hb.size; have := h.place; omega⟩
theorem box2 (w : World) (c : Cf) (ac : Option Addr) (cc : Nat) (ast : Option Addr) (cs : Nat) :
    Box2 w ((w.alloc (.cells #[.int .i64 c.epoch, .slice ac c.chain.length cc, .slice ast c.stores.length cs] 41)).alloc (.cells #[.int .i64 0, .slice none 0 0, .slice none 0 0] 41)) w.heap.size (w.heap.size + 1) c ac cc ast cs := by
  have hz1 := World.size_alloc w (.cells #[.int .i64 c.epoch, .slice ac c.chain.length cc, .slice ast c.stores.length cs] 41)
  have h1 := cf_box w c ac cc ast cs
  have hb1 := below_alloc1 w (.cells #[.int .i64 c.epoch, .slice ac c.chain.length cc, .slice ast c.stores.length cs] 41)
  have hf1 : ∀ j, (w.alloc (.cells #[.int .i64 c.epoch, .slice ac c.chain.length cc, .slice ast c.stores.length cs] 41)).frozen? ⟨w.heap.size, j, none⟩ = false := fun j => (frozen?_alloc_cells _ _ _ _).trans (by simp [World.frozen?])
  obtain ⟨w2, hw2⟩ : ∃ w2, w.alloc (.cells #[.int .i64 c.epoch, .slice ac c.chain.length cc, .slice ast c.stores.length cs] 41) = w2 := ⟨_, rfl⟩
  rw [hw2] at hz1 h1 hb1 hf1 ⊢
  have hz3 := World.size_alloc w2 (.cells #[.int .i64 0, .slice none 0 0, .slice none 0 0] 41)
  have h3 := cf_box w2 Ms.zero none 0 none 0
  have hb3 := below_alloc1 w2 (.cells #[.int .i64 0, .slice none 0 0, .slice none 0 0] 41)
  have hf3 : ∀ j, (w2.alloc (.cells #[.int .i64 0, .slice none 0 0, .slice none 0 0] 41)).frozen? ⟨w2.heap.size, j, none⟩ = false := fun j => (frozen?_alloc_cells _ _ _ _).trans (by simp [World.frozen?])
  have h3' : CfAt (w2.alloc (.cells #[.int .i64 0, .slice none 0 0, .slice none 0 0] 41)) w2.heap.size Ms.zero none 0 none 0 := h3
  obtain ⟨w3, hw3⟩ : ∃ w3, w2.alloc (.cells #[.int .i64 0, .slice none 0 0, .slice none 0 0] 41) = w3 := ⟨_, rfl⟩
  rw [hw3] at hz3 h3' hb3 hf3 ⊢
  refine ⟨h1.below hb3, by rw [show w.heap.size + 1 = w2.heap.size by omega]; exact h3', fun j => (hb3.frozen (p := ⟨w.heap.size, j, none⟩) (by show w.heap.size < _; omega)).trans (hf1 j), fun j => by rw [show w.heap.size + 1 = w2.heap.size by omega]; exact hf3 j, hb1.trans ((show Below w2.heap.size w2 w3 from hb3).mono hb1.size), by omega⟩
theorem Box2.cset {w W : World} {b2 b4 : Nat} {c c' : Cf} {ac ast ac' ast' : Option Addr} {cc cs cc' cs' : Nat} (h : Box2 w W b2 b4 c ac cc ast cs) : Box2 w (cset W b2 c' ac' cc' ast' cs') b2 b4 c' ac' cc' ast' cs' := by
  have hp := h.place
  have hne : ∀ {b j k : Nat}, b2 ≠ b → (⟨b2, j, none⟩ : Addr) ≠ ⟨b, k, none⟩ := fun hn e => hn (by cases e; rfl)
  have hc : ∀ {b j : Nat} {v : Value}, b2 ≠ b → W.cell? ⟨b, j, none⟩ = some v → (Go.Proofs.Ytincllchoflpmaa.cset W b2 c' ac' cc' ast' cs').cell? ⟨b, j, none⟩ = some v := fun hn hv => by
    unfold Go.Proofs.Ytincllchoflpmaa.cset
    rw [World.cell?_setCell_other _ _ _ _ (hne hn), World.cell?_setCell_other _ _ _ _ (hne hn), World.cell?_setCell_other _ _ _ _ (hne hn)]
    exact hv
  have hf : ∀ p, (Go.Proofs.Ytincllchoflpmaa.cset W b2 c' ac' cc' ast' cs').frozen? p = W.frozen? p := fun p => by unfold Go.Proofs.Ytincllchoflpmaa.cset; simp
  refine ⟨cset_at h.cf, ⟨hc hp.2.2.2.2 h.res.epoch, hc hp.2.2.2.2 h.res.chain, hc hp.2.2.2.2 h.res.stores⟩, fun j => (hf _).trans (h.f2 j), fun j => (hf _).trans (h.f4 j), cset_below h.below hp.1, ?_⟩
  have hz : (Go.Proofs.Ytincllchoflpmaa.cset W b2 c' ac' cc' ast' cs').heap.size = W.heap.size := by unfold Go.Proofs.Ytincllchoflpmaa.cset; simp
  rw [hz]
  exact hp
/-- Where Run stands. -/
structure RunS (w W : World) (B b2 b4 : Nat) (c : Cf) (ac : Option Addr) (cc : Nat) (ast : Option Addr) (cs : Nat) : Prop where
  box : Box2 w W b2 b4 c ac cc ast cs
  own : CfO W B c ac cc ast cs
  low : b2 < B ∧ b4 < B ∧ w.heap.size ≤ B
  base : B ≤ W.heap.size
theorem RunS.below {w W W' : World} {B b2 b4 : Nat} {c : Cf} {ac ast : Option Addr} {cc cs : Nat} (h : RunS w W B b2 b4 c ac cc ast cs) (hb : Below W.heap.size W W') : RunS w W' B b2 b4 c ac cc ast cs :=
  ⟨h.box.later hb, h.own.below hb, h.low, Nat.le_trans h.base hb.size⟩
theorem RunS.cset {w W : World} {B b2 b4 : Nat} {c c' : Cf} {ac ast ac' ast' : Option Addr} {cc cs cc' cs' : Nat} (h : RunS w W B b2 b4 c ac cc ast cs) (ho : CfO W B c' ac' cc' ast' cs') : RunS w (cset W b2 c' ac' cc' ast' cs') B b2 b4 c' ac' cc' ast' cs' :=
  ⟨h.box.cset, cset_low ho h.low.1, h.low, by have : (Go.Proofs.Ytincllchoflpmaa.cset W b2 c' ac' cc' ast' cs').heap.size = W.heap.size := by { unfold Go.Proofs.Ytincllchoflpmaa.cset; simp }
                                              rw [this]; exact h.base⟩
/-- A configuration that is not great. -/
def Cf.few (c : Cf) : Prop := c.chain.length ≤ 1000000000 ∧ c.stores.length ≤ 1000000000
theorem Cf.Ok.few {c : Cf} (h : c.Ok) : c.few := ⟨by have := h.len; omega, by have := Cf.stores16 h; omega⟩
theorem Cf.run_few {c : Cf} (h : c.few) (l : List Cm) : (c.run l).few := by
  rcases Cf.run_or c l with e | e
  · rw [e]; exact h
  · exact e.few
/-- Where Run stands in its loop: what there is has been made of the first commands. -/
def RunI (w W : World) (B b2 b4 : Nat) (c : Cf) : Prop := ∃ ac cc ast cs, RunS w W B b2 b4 c ac cc ast cs
set_option maxRecDepth 8000 in
set_option maxHeartbeats 4000000 in
theorem run_any (c : Cf) (ac ast : Option Addr) (cc cs : Nat) (a : Option Addr) (n cp : Nat) (l : List Cm) (w : World) (h : CfR w c ac cc ast cs) (hl : Xs w a n cp l) (hn : c.few) :
    Calls Try.prog 23 #[cval c ac cc ast cs, .slice a n cp] w (RetCf w (c.run l)) := by
  have hb := box2 w c ac cc ast cs
  have HR := Lib.hid h
  have HL := Lib.hid hl
  have HHN := Lib.hid hn
  have hle := hl.le.1
  have HNL := Lib.hid hl.1
  clear h hn hl
  unfold cval
  go_enter Try.func23, Try.ntmps23
  go_upto_region 1 with fail
  obtain ⟨W1, hW1⟩ : ∃ W1, ((w.alloc (.cells #[.int .i64 c.epoch, .slice ac c.chain.length cc, .slice ast c.stores.length cs] 41)).alloc (.cells #[.int .i64 0, .slice none 0 0, .slice none 0 0] 41)) = W1 := ⟨_, rfl⟩
  obtain ⟨b2, hb2⟩ : ∃ b, w.heap.size = b := ⟨_, rfl⟩
  rw [hW1] at hb ⊢
  have hb' : Box2 w W1 b2 (b2 + 1) c ac cc ast cs := by rw [← hb2]; exact hb
  rw [hb2]
  obtain ⟨b4, hb4⟩ : ∃ b, b2 + 1 = b := ⟨_, rfl⟩
  rw [hb4] at hb' ⊢
  have HBX := Lib.hid hb'
  have p0 := hb'.cf.epoch
  have p1 := hb'.cf.chain
  have p2 := hb'.cf.stores
  have f2 := hb'.f2
  have hap := apart_any c ac ast cc cs W1 (HR.out.below hb'.below) HHN.out
  unfold cval at hap
  have HAP := Lib.hid hap
  have HPL := Lib.hid hb'.place
  clear hb' hb hb2 hb4 hW1 hap HR
  go_wp2_with fail
  refine HAP.out.mono ?_
  rintro e w2 ⟨a5, c5, a6, c6, rfl, hO, hb2⟩
  have hbx := HBX.out.later hb2
  have HO := Lib.hid hO
  have HX := Lib.hid hbx
  have HZ := Lib.hid hb2.size
  replace p0 := hbx.cf.epoch
  replace p1 := hbx.cf.chain
  replace p2 := hbx.cf.stores
  replace f2 := hbx.f2
  clear hbx hO hb2 HAP HBX
  simp only [cval]
  go_upto_region 2 with fail
  have hx3 : Box2 w (((w2.setCell ⟨b2, 0, none⟩ (.int .i64 c.epoch)).setCell ⟨b2, 1, none⟩ (.slice a5 c.chain.length c5)).setCell ⟨b2, 2, none⟩ (.slice a6 c.stores.length c6)) b2 b4 c a5 c5 a6 c6 := HX.out.cset (c' := c) (ac' := a5) (cc' := c5) (ast' := a6) (cs' := c6)
  have ho3 : CfO (((w2.setCell ⟨b2, 0, none⟩ (.int .i64 c.epoch)).setCell ⟨b2, 1, none⟩ (.slice a5 c.chain.length c5)).setCell ⟨b2, 2, none⟩ (.slice a6 c.stores.length c6)) W1.heap.size c a5 c5 a6 c6 := cset_low (c := c) (ac := a5) (cc := c5) (ast := a6) (cs := c6) HO.out HPL.out.2.2.1
  have hz3 : (((w2.setCell ⟨b2, 0, none⟩ (.int .i64 c.epoch)).setCell ⟨b2, 1, none⟩ (.slice a5 c.chain.length c5)).setCell ⟨b2, 2, none⟩ (.slice a6 c.stores.length c6)).heap.size = w2.heap.size := by simp
  obtain ⟨W3, hW3⟩ : ∃ W3, (((w2.setCell ⟨b2, 0, none⟩ (.int .i64 c.epoch)).setCell ⟨b2, 1, none⟩ (.slice a5 c.chain.length c5)).setCell ⟨b2, 2, none⟩ (.slice a6 c.stores.length c6)) = W3 := ⟨_, rfl⟩
  rw [hW3] at hx3 ho3 hz3 ⊢
  have hrs : RunS w W3 W1.heap.size b2 b4 c a5 c5 a6 c6 := ⟨hx3, ho3, ⟨HPL.out.2.2.1, HPL.out.2.2.2.1, by have := HPL.out; omega⟩, by rw [hz3]; exact HZ.out⟩
  have HI0 : Hid (RunI w W3 W1.heap.size b2 b4 (c.run (l.take 0))) := Lib.hid ⟨a5, c5, a6, c6, hrs⟩
  obtain ⟨B, hB⟩ : ∃ B, B = W1.heap.size := ⟨_, rfl⟩
  rw [← hB] at HI0
  clear hW3 hx3 ho3 hz3 hrs p0 p1 p2 f2 HO HX HZ HPL hB
  go_wp2_with fail
  go_loopw [13] (fun i wr => ∃ k : Nat, k ≤ n ∧ i = .int .i64 k ∧ Hid (RunI w wr B b2 b4 (c.run (l.take k)))) (fun i _ => n - (intOf i).toNat)
  case atStart => exact ⟨0, Nat.zero_le _, rfl, HI0⟩
  case round =>
    obtain ⟨k, hk, rfl, hI⟩ := hrel
    by_cases hlt : k < n
    · obtain ⟨ac, cc, ast, cs, hrs⟩ := hI.out
      obtain ⟨b, off, rfl, hat⟩ := (HL.out.below hrs.box.below).get hlt
      have hfew := Cf.run_few HHN.out (l.take k)
      have HSN : Hid (c.run (l.take (k + 1)) = (c.run (l.take k)).next (nth l k)) := Lib.hid (by
        rw [List.take_succ_eq_append_getElem (by rw [HNL.out]; exact hlt), Cf.run_snoc, nth_eq _ (by rw [HNL.out]; exact hlt)])
      obtain ⟨x, hx⟩ : ∃ x, x = nth l k := ⟨_, rfl⟩
      obtain ⟨ck, hck⟩ : ∃ ck, ck = c.run (l.take k) := ⟨_, rfl⟩
      rw [← hx] at hat HSN
      rw [← hck] at hrs hfew HSN
      have m1 := hat.kind
      have m2 := hat.node
      have m3 := hat.birth
      have m4 := hat.epoch
      have hb5 := below_alloc1 wr (.cells #[.int .i64 x.kind, .int .i64 x.node, .int .i64 x.birth, .int .i64 x.epoch] 45)
      have hx5 := cm_box wr x
      clear hat hx hck hI
      have HRS := Lib.hid hrs
      have HFW := Lib.hid hfew
      clear hrs hfew
      go_upto_region 5 with fail
      obtain ⟨W5, hW5⟩ : ∃ W5, wr.alloc (.cells #[.int .i64 x.kind, .int .i64 x.node, .int .i64 x.birth, .int .i64 x.epoch] 45) = W5 := ⟨_, rfl⟩
      obtain ⟨bx, hbx⟩ : ∃ bx, bx = wr.heap.size := ⟨_, rfl⟩
      rw [hW5] at hb5 hx5 ⊢
      rw [← hbx] at hx5 ⊢
      have HS5 := Lib.hid (HRS.out.below hb5)
      have q0 := hx5.kind
      have q1 := hx5.node
      have q2 := hx5.birth
      have q3 := hx5.epoch
      simp only [Nat.zero_add] at q1 q2 q3
      have p0 := HS5.out.box.cf.epoch
      have p1 := HS5.out.box.cf.chain
      have p2 := HS5.out.box.cf.stores
      have hdo := do_any ck ac ast cc cs x W5 HS5.out.own.r HFW.out
      unfold cval xval at hdo
      have HDO := Lib.hid hdo
      clear hW5 hbx hb5 hx5 m1 m2 m3 m4 hdo HRS
      go_wp2_with fail
      refine HDO.out.mono ?_
      rintro e w6 ⟨a7, c7, a8, c8, rfl, hO7, hb7⟩
      have HS6 := Lib.hid (HS5.out.below hb7)
      have HO7 := Lib.hid (hO7.mono HS5.out.base)
      have HNX : Hid (ck.next x = if (ck.step x).2 = 0 then (ck.step x).1 else ck) := Lib.hid rfl
      obtain ⟨d, hd⟩ : ∃ d, d = (ck.step x).1 := ⟨_, rfl⟩
      obtain ⟨er, her⟩ : ∃ er, er = (ck.step x).2 := ⟨_, rfl⟩
      rw [← hd] at HO7 HNX ⊢
      rw [← her] at HNX ⊢
      have hd6 := cf_box w6 d a7 c7 a8 c8
      have hb6 := below_alloc1 w6 (.cells #[.int .i64 d.epoch, .slice a7 d.chain.length c7, .slice a8 d.stores.length c8] 41)
      clear hO7 hb7 hd her HDO p0 p1 p2 q0 q1 q2 q3 HS5
      simp only [cval]
      go_upto_region 6 with fail
      obtain ⟨W7, hW7⟩ : ∃ W7, w6.alloc (.cells #[.int .i64 d.epoch, .slice a7 d.chain.length c7, .slice a8 d.stores.length c8] 41) = W7 := ⟨_, rfl⟩
      obtain ⟨b7, hb7⟩ : ∃ b7, b7 = w6.heap.size := ⟨_, rfl⟩
      rw [hW7] at hd6 hb6 ⊢
      rw [← hb7] at hd6 ⊢
      have HS7 := Lib.hid (HS6.out.below hb6)
      have HO8 := Lib.hid (HO7.out.below hb6)
      have p0 := HS7.out.box.cf.epoch
      have p1 := HS7.out.box.cf.chain
      have p2 := HS7.out.box.cf.stores
      have f2 := HS7.out.box.f2
      have d0 := hd6.epoch
      have d1 := hd6.chain
      have d2 := hd6.stores
      clear hW7 hb7 hd6 hb6 HS6 HO7
      by_cases he : er = 0
      · have t : (er == 0) = true := by simp [he]
        have HNX2 : Hid (c.run (l.take (k + 1)) = d) := Lib.hid (by rw [HSN.out, HNX.out, if_pos he])
        clear he HSN HNX
        go_wp2
        go_roundw
        case rel => exact ⟨k + 1, by omega, by go_num, Lib.hid (by rw [HNX2.out]; exact ⟨a7, c7, a8, c8, HS7.out.cset HO8.out⟩)⟩
        case measure => simp [intOf]; omega
      · have t : (er == 0) = false := by simp [he]
        have HNX2 : Hid (c.run (l.take (k + 1)) = ck) := Lib.hid (by rw [HSN.out, HNX.out, if_neg he])
        clear he HSN HNX
        go_wp2
        go_roundw
        case rel => exact ⟨k + 1, by omega, by go_num, Lib.hid (by rw [HNX2.out]; exact ⟨_, _, _, _, HS7.out⟩)⟩
        case measure => simp [intOf]; omega
    · obtain rfl : k = n := by omega
      obtain ⟨ac, cc, ast, cs, hrs⟩ := hI.out
      have HTK : Hid (l.take k = l) := Lib.hid (List.take_of_length_le (by rw [HNL.out]; exact Nat.le_refl _))
      rw [HTK.out] at hrs
      obtain ⟨d, hd⟩ : ∃ d, d = c.run l := ⟨_, rfl⟩
      rw [← hd] at hrs
      have HD := Lib.hid hd
      have p0 := hrs.box.cf.epoch
      have p1 := hrs.box.cf.chain
      have p2 := hrs.box.cf.stores
      have s0 := hrs.box.res.epoch
      have s1 := hrs.box.res.chain
      have s2 := hrs.box.res.stores
      have f4 := hrs.box.f4
      have hfin := cset_at (c := d) (ac := ac) (cc := cc) (ast := ast) (cs := cs) hrs.box.res
      have hbe := cset_below (c := d) (ac := ac) (cc := cc) (ast := ast) (cs := cs) hrs.box.below hrs.box.place.2.1
      have hown : CfO (cset wr b4 d ac cc ast cs) B d ac cc ast cs := cset_low hrs.own hrs.low.2.1
      have y0 := hfin.epoch
      have y1 := hfin.chain
      have y2 := hfin.stores
      have HOW := Lib.hid (hown.mono hrs.low.2.2)
      unfold cset at y0 y1 y2 hbe HOW
      have HBE := Lib.hid hbe
      clear hd hrs hfin hbe hown HTK hI
      go_wp2
      refine bodyPost_ret (v := .agg #[.int .i64 d.epoch, .slice ac d.chain.length cc, .slice ast d.stores.length cs]) (by simp [results, Try.results23, go_sem, y0, y1, y2]) rfl ?_
      show RetCf w (c.run l) _ _
      rw [← HD.out]
      exact ⟨ac, cc, ast, cs, rfl, HOW.out, HBE.out⟩
end Go.Proofs.Ytincllchoflpmaa
