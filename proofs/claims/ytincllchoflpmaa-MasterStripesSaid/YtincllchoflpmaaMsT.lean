/- Members beside others: member, Head, Tail, Next, Ahead. -/
import Derived.Test.YtincllchoflpmaaMsO
import Derived.Test.YtincllchoflpmaaMsK
namespace Go.Proofs.Ytincllchoflpmaa
open Go.RowKit
set_option linter.unusedVariables false
set_option linter.unusedSimpArgs false

def mb0 : Mb := ⟨0, 0, false⟩
/-- The member in a place. -/
def Ms.mem (l : List Mb) (i : Int) : Mb × Bool := if 0 ≤ i ∧ i < (l.length : Int) then (nth l i.toNat, true) else (mb0, false)
def RetM (w : World) (r : Mb × Bool) (e : Ending) (w' : World) : Prop := e = .returned (.tuple #[mval r.1, .bool r.2]) ∧ Below w.heap.size w w'
def mset (W : World) (b : Nat) (m : Mb) : World := ((W.setCell ⟨b, 0, none⟩ (.int .i64 m.node)).setCell ⟨b, 1, none⟩ (.int .i64 m.birth)).setCell ⟨b, 2, none⟩ (.bool m.whole)
theorem mset_at {w : World} {b : Nat} {m m' : Mb} (h : MbAt w b 0 m') : MbAt (mset w b m) b 0 m := by
  have h0 := h.node
  have h1 := h.birth
  have h2 := h.whole
  simp only [Nat.zero_add] at h1 h2
  unfold mset
  refine ⟨?_, ?_, ?_⟩
  · rw [World.cell?_setCell_other _ _ _ _ (caddr_ne (by decide)), World.cell?_setCell_other _ _ _ _ (caddr_ne (by decide))]
    exact World.cell?_setCell_same' _ _ _ (by rw [h0]; rfl)
  · rw [World.cell?_setCell_other _ _ _ _ (caddr_ne (by decide))]
    exact World.cell?_setCell_same' _ _ _ (by rw [World.cell?_setCell_other _ _ _ _ (caddr_ne (by decide)), h1]; rfl)
  · exact World.cell?_setCell_same' _ _ _ (by rw [World.cell?_setCell_other _ _ _ _ (caddr_ne (by decide)), World.cell?_setCell_other _ _ _ _ (caddr_ne (by decide)), h2]; rfl)
theorem mset_below {w w' : World} {n b : Nat} {m : Mb} (h : Below n w w') (hb : n ≤ b) : Below n w (mset w' b m) :=
  ((h.setCell (p := ⟨b, 0, none⟩) hb _).setCell (p := ⟨b, 1, none⟩) hb _).setCell (p := ⟨b, 2, none⟩) hb _
/-- Two boxes: a configuration, and a member that is told. -/
structure BoxM (w W : World) (b2 b4 : Nat) (c : Cf) (ac : Option Addr) (cc : Nat) (ast : Option Addr) (cs : Nat) : Prop where
  cf : CfAt W b2 c ac cc ast cs
  res : MbAt W b4 0 mb0
  f4 : ∀ j, W.frozen? ⟨b4, j, none⟩ = false
  below : Below w.heap.size w W
  place : w.heap.size ≤ b4 ∧ b2 < W.heap.size ∧ b4 < W.heap.size
theorem BoxM.later {w W W' : World} {b2 b4 : Nat} {c : Cf} {ac ast : Option Addr} {cc cs : Nat} (h : BoxM w W b2 b4 c ac cc ast cs) (hb : Below W.heap.size W W') : BoxM w W' b2 b4 c ac cc ast cs :=
  ⟨h.cf.below hb, h.res.below hb, fun j => (hb.frozen (p := ⟨b4, j, none⟩) h.place.2.2).trans (h.f4 j), h.below.trans (hb.mono h.below.size), by have := hb.size; have := h.place; omega⟩
theorem boxM (w : World) (c : Cf) (ac : Option Addr) (cc : Nat) (ast : Option Addr) (cs : Nat) :
    BoxM w ((w.alloc (.cells #[.int .i64 c.epoch, .slice ac c.chain.length cc, .slice ast c.stores.length cs] 41)).alloc (.cells #[.int .i64 0, .int .i64 0, .bool false] 48)) w.heap.size (w.heap.size + 1) c ac cc ast cs := by
  have hz1 := World.size_alloc w (.cells #[.int .i64 c.epoch, .slice ac c.chain.length cc, .slice ast c.stores.length cs] 41)
  have h1 := cf_box w c ac cc ast cs
  have hb1 := below_alloc1 w (.cells #[.int .i64 c.epoch, .slice ac c.chain.length cc, .slice ast c.stores.length cs] 41)
  obtain ⟨w2, hw2⟩ : ∃ w2, w.alloc (.cells #[.int .i64 c.epoch, .slice ac c.chain.length cc, .slice ast c.stores.length cs] 41) = w2 := ⟨_, rfl⟩
  rw [hw2] at hz1 h1 hb1 ⊢
  have hz3 := World.size_alloc w2 (.cells #[.int .i64 0, .int .i64 0, .bool false] 48)
  have h3 := mb_box w2 mb0
  have hb3 := below_alloc1 w2 (.cells #[.int .i64 0, .int .i64 0, .bool false] 48)
  have hf3 : ∀ j, (w2.alloc (.cells #[.int .i64 0, .int .i64 0, .bool false] 48)).frozen? ⟨w2.heap.size, j, none⟩ = false := fun j => (frozen?_alloc_cells _ _ _ _).trans (by simp [World.frozen?])
  have h3' : MbAt (w2.alloc (.cells #[.int .i64 0, .int .i64 0, .bool false] 48)) w2.heap.size 0 mb0 := h3
  obtain ⟨w3, hw3⟩ : ∃ w3, w2.alloc (.cells #[.int .i64 0, .int .i64 0, .bool false] 48) = w3 := ⟨_, rfl⟩
  rw [hw3] at hz3 h3' hb3 hf3 ⊢
  refine ⟨h1.below hb3, by rw [show w.heap.size + 1 = w2.heap.size by omega]; exact h3', fun j => by rw [show w.heap.size + 1 = w2.heap.size by omega]; exact hf3 j, hb1.trans ((show Below w2.heap.size w2 w3 from hb3).mono hb1.size), by omega⟩
set_option maxRecDepth 8000 in
set_option maxHeartbeats 2000000 in
theorem member_any (c : Cf) (ac ast : Option Addr) (cc cs : Nat) (i : Int) (w : World) (h : CfR w c ac cc ast cs) :
    Calls Try.prog 67 #[cval c ac cc ast cs, .int .i64 i] w (RetM w (Ms.mem c.chain i)) := by
  have hb := boxM w c ac cc ast cs
  have hle := h.chain.le.1
  have HR := Lib.hid h
  clear h
  unfold cval
  go_enter Try.func67, Try.ntmps67
  go_upto_region 1 with fail
  obtain ⟨W1, hW1⟩ : ∃ W1, ((w.alloc (.cells #[.int .i64 c.epoch, .slice ac c.chain.length cc, .slice ast c.stores.length cs] 41)).alloc (.cells #[.int .i64 0, .int .i64 0, .bool false] 48)) = W1 := ⟨_, rfl⟩
  obtain ⟨b2, hb2⟩ : ∃ b, w.heap.size = b := ⟨_, rfl⟩
  rw [hW1] at hb ⊢
  have hb' : BoxM w W1 b2 (b2 + 1) c ac cc ast cs := by rw [← hb2]; exact hb
  rw [hb2]
  obtain ⟨b4, hb4⟩ : ∃ b, b2 + 1 = b := ⟨_, rfl⟩
  rw [hb4] at hb' ⊢
  have HBX := Lib.hid hb'
  have p0 := hb'.cf.epoch
  have p1 := hb'.cf.chain
  have p2 := hb'.cf.stores
  have r0 := hb'.res.node
  have r1 := hb'.res.birth
  have r2 := hb'.res.whole
  simp only [Nat.zero_add, mb0] at r0 r1 r2
  have f4 := hb'.f4
  have HEND : Hid (∀ m, MbAt (mset W1 b4 m) b4 0 m ∧ Below w.heap.size w (mset W1 b4 m)) := Lib.hid fun m => ⟨mset_at hb'.res, mset_below hb'.below hb'.place.1⟩
  have HC := Lib.hid (HR.out.chain.below hb'.below)
  clear hb hb' hb2 hb4 hW1 HR
  obtain ⟨n, hn⟩ : ∃ n, n = c.chain.length := ⟨_, rfl⟩
  have HN := Lib.hid hn
  have HLT : Hid (0 ≤ i → i < (n : Int) → ∃ k : Nat, i = (k : Int) ∧ k < c.chain.length ∧ Ms.mem c.chain i = (nth c.chain k, true)) := Lib.hid fun h1 h2 => ⟨i.toNat, by omega, by omega, by unfold Ms.mem; rw [if_pos ⟨h1, by omega⟩]⟩
  have HNO : Hid (¬ (0 ≤ i ∧ i < (n : Int)) → Ms.mem c.chain i = (mb0, false)) := Lib.hid fun h1 => by unfold Ms.mem; rw [← hn, if_neg h1]
  rw [← hn] at p1 hle HC
  clear hn
  by_cases h0 : i < 0
  · have t : decide (i < (0 : Int)) = true := decide_eq_true h0
    have y := HEND.out mb0
    have HE := Lib.hid y
    have y0 := y.1.node
    have y1 := y.1.birth
    have y2 := y.1.whole
    unfold mset at y0 y1 y2 HE
    simp only [Nat.zero_add, mb0] at y0 y1 y2 HE
    have HV := Lib.hid (HNO.out (by omega))
    clear y h0 HEND HLT HNO
    go_wp2
    refine bodyPost_ret (v := .tuple #[.agg #[.int .i64 0, .int .i64 0, .bool false], .bool false]) (by simp [results, Try.results67, go_sem, y0, y1, y2]) rfl ⟨?_, HE.out.2⟩
    rw [HV.out]
    rfl
  have t : decide (i < (0 : Int)) = false := decide_eq_false h0
  by_cases h1 : i < (n : Int)
  · obtain ⟨k, rfl, hk, hv⟩ := HLT.out (by omega) h1
    have t2 : decide ((n : Int) ≤ (k : Int)) = false := decide_eq_false (by omega)
    obtain ⟨b, off, rfl, hat⟩ := HC.out.get (i := k) (by rw [HN.out]; exact hk)
    obtain ⟨m, hm⟩ : ∃ m, m = nth c.chain k := ⟨_, rfl⟩
    rw [← hm] at hv hat
    have HV := Lib.hid hv
    have g0 := hat.node
    have g1 := hat.birth
    have g2 := hat.whole
    have hlt : k < n := by rw [HN.out]; exact hk
    have y := HEND.out m
    have HE := Lib.hid y
    have y0 := y.1.node
    have y1 := y.1.birth
    have y2 := y.1.whole
    unfold mset at y0 y1 y2 HE
    simp only [Nat.zero_add] at y0 y1 y2
    clear y h0 h1 HEND HLT HNO hv hat hm hk
    go_wp2
    refine bodyPost_ret (v := .tuple #[.agg #[.int .i64 m.node, .int .i64 m.birth, .bool m.whole], .bool true]) (by simp [results, Try.results67, go_sem, y0, y1, y2]) rfl ⟨?_, HE.out.2⟩
    rw [HV.out]
    rfl
  · have t2 : decide ((n : Int) ≤ i) = true := decide_eq_true (by omega)
    have y := HEND.out mb0
    have HE := Lib.hid y
    have y0 := y.1.node
    have y1 := y.1.birth
    have y2 := y.1.whole
    unfold mset at y0 y1 y2 HE
    simp only [Nat.zero_add, mb0] at y0 y1 y2 HE
    have HV := Lib.hid (HNO.out (by omega))
    clear y h0 h1 HEND HLT HNO
    go_wp2
    refine bodyPost_ret (v := .tuple #[.agg #[.int .i64 0, .int .i64 0, .bool false], .bool false]) (by simp [results, Try.results67, go_sem, y0, y1, y2]) rfl ⟨?_, HE.out.2⟩
    rw [HV.out]
    rfl
/-! Head, Tail, Next, Ahead. -/
set_option maxRecDepth 8000 in
set_option maxHeartbeats 2000000 in
theorem head_any (c : Cf) (ac ast : Option Addr) (cc cs : Nat) (w : World) (h : CfR w c ac cc ast cs) :
    Calls Try.prog 25 #[cval c ac cc ast cs] w (RetM w (Ms.mem c.chain 0)) := by
  have hb := boxM w c ac cc ast cs
  have hle := h.chain.le.1
  have HR := Lib.hid h
  clear h
  unfold cval
  go_enter Try.func25, Try.ntmps25
  go_upto_region 1 with fail
  obtain ⟨W1, hW1⟩ : ∃ W1, ((w.alloc (.cells #[.int .i64 c.epoch, .slice ac c.chain.length cc, .slice ast c.stores.length cs] 41)).alloc (.cells #[.int .i64 0, .int .i64 0, .bool false] 48)) = W1 := ⟨_, rfl⟩
  obtain ⟨b2, hb2⟩ : ∃ b, w.heap.size = b := ⟨_, rfl⟩
  rw [hW1] at hb ⊢
  have hb' : BoxM w W1 b2 (b2 + 1) c ac cc ast cs := by rw [← hb2]; exact hb
  rw [hb2]
  obtain ⟨b4, hb4⟩ : ∃ b, b2 + 1 = b := ⟨_, rfl⟩
  rw [hb4] at hb' ⊢
  have HBX := Lib.hid hb'
  have p0 := hb'.cf.epoch
  have p1 := hb'.cf.chain
  have p2 := hb'.cf.stores
  clear hb hb' hb2 hb4 hW1
  have hmm := member_any c ac ast cc cs (0) W1 (HR.out.below HBX.out.below)
  unfold cval at hmm
  have HMM := Lib.hid hmm
  clear hmm
  go_wp2_with fail
  refine HMM.out.mono ?_
  rintro e W2 ⟨rfl, hb⟩
  have hbx := HBX.out.later hb
  obtain ⟨r, hr⟩ : ∃ r, r = Ms.mem c.chain 0 := ⟨_, rfl⟩
  rw [← hr]
  obtain ⟨m, t⟩ := r
  have HV := Lib.hid hr.symm
  have r0 := hbx.res.node
  have r1 := hbx.res.birth
  have r2 := hbx.res.whole
  simp only [Nat.zero_add, mb0] at r0 r1 r2
  have f4 := hbx.f4
  have y : MbAt (mset W2 b4 m) b4 0 m ∧ Below w.heap.size w (mset W2 b4 m) := ⟨mset_at hbx.res, mset_below hbx.below hbx.place.1⟩
  have HE := Lib.hid y
  have y0 := y.1.node
  have y1 := y.1.birth
  have y2 := y.1.whole
  unfold mset at y0 y1 y2 HE
  simp only [Nat.zero_add] at y0 y1 y2
  clear y hr hbx hb HMM
  simp only [mval]
  go_wp2
  refine bodyPost_ret (v := .tuple #[.agg #[.int .i64 m.node, .int .i64 m.birth, .bool m.whole], .bool t]) (by simp [results, Try.results25, go_sem, y0, y1, y2]) rfl ⟨by rw [HV.out]; rfl, HE.out.2⟩
set_option maxRecDepth 8000 in
set_option maxHeartbeats 2000000 in
theorem tail_any (c : Cf) (ac ast : Option Addr) (cc cs : Nat) (w : World) (h : CfR w c ac cc ast cs) :
    Calls Try.prog 26 #[cval c ac cc ast cs] w (RetM w (Ms.mem c.chain ((c.chain.length : Int) - 1))) := by
  have hb := boxM w c ac cc ast cs
  have hle := h.chain.le.1
  have HR := Lib.hid h
  clear h
  unfold cval
  go_enter Try.func26, Try.ntmps26
  go_upto_region 1 with fail
  obtain ⟨W1, hW1⟩ : ∃ W1, ((w.alloc (.cells #[.int .i64 c.epoch, .slice ac c.chain.length cc, .slice ast c.stores.length cs] 41)).alloc (.cells #[.int .i64 0, .int .i64 0, .bool false] 48)) = W1 := ⟨_, rfl⟩
  obtain ⟨b2, hb2⟩ : ∃ b, w.heap.size = b := ⟨_, rfl⟩
  rw [hW1] at hb ⊢
  have hb' : BoxM w W1 b2 (b2 + 1) c ac cc ast cs := by rw [← hb2]; exact hb
  rw [hb2]
  obtain ⟨b4, hb4⟩ : ∃ b, b2 + 1 = b := ⟨_, rfl⟩
  rw [hb4] at hb' ⊢
  have HBX := Lib.hid hb'
  have p0 := hb'.cf.epoch
  have p1 := hb'.cf.chain
  have p2 := hb'.cf.stores
  clear hb hb' hb2 hb4 hW1
  have hmm := member_any c ac ast cc cs ((c.chain.length : Int) - 1) W1 (HR.out.below HBX.out.below)
  unfold cval at hmm
  have HMM := Lib.hid hmm
  clear hmm
  go_wp2_with fail
  refine HMM.out.mono ?_
  rintro e W2 ⟨rfl, hb⟩
  have hbx := HBX.out.later hb
  obtain ⟨r, hr⟩ : ∃ r, r = Ms.mem c.chain ((c.chain.length : Int) - 1) := ⟨_, rfl⟩
  rw [← hr]
  obtain ⟨m, t⟩ := r
  have HV := Lib.hid hr.symm
  have r0 := hbx.res.node
  have r1 := hbx.res.birth
  have r2 := hbx.res.whole
  simp only [Nat.zero_add, mb0] at r0 r1 r2
  have f4 := hbx.f4
  have y : MbAt (mset W2 b4 m) b4 0 m ∧ Below w.heap.size w (mset W2 b4 m) := ⟨mset_at hbx.res, mset_below hbx.below hbx.place.1⟩
  have HE := Lib.hid y
  have y0 := y.1.node
  have y1 := y.1.birth
  have y2 := y.1.whole
  unfold mset at y0 y1 y2 HE
  simp only [Nat.zero_add] at y0 y1 y2
  clear y hr hbx hb HMM
  simp only [mval]
  go_wp2
  refine bodyPost_ret (v := .tuple #[.agg #[.int .i64 m.node, .int .i64 m.birth, .bool m.whole], .bool t]) (by simp [results, Try.results26, go_sem, y0, y1, y2]) rfl ⟨by rw [HV.out]; rfl, HE.out.2⟩
/-- The member behind a node's. -/
def Cf.next1 (c : Cf) (x : Int) : Mb × Bool := if c.place x < 0 then (mb0, false) else Ms.mem c.chain (c.place x + 1)
set_option maxRecDepth 8000 in
set_option maxHeartbeats 2000000 in
theorem next_any (c : Cf) (ac ast : Option Addr) (cc cs : Nat) (x : Int) (w : World) (h : CfR w c ac cc ast cs) :
    Calls Try.prog 27 #[cval c ac cc ast cs, .int .i64 x] w (RetM w (c.next1 x)) := by
  have hb := boxM w c ac cc ast cs
  have hle := h.chain.le.1
  have HR := Lib.hid h
  clear h
  unfold cval
  go_enter Try.func27, Try.ntmps27
  go_upto_region 1 with fail
  obtain ⟨W1, hW1⟩ : ∃ W1, ((w.alloc (.cells #[.int .i64 c.epoch, .slice ac c.chain.length cc, .slice ast c.stores.length cs] 41)).alloc (.cells #[.int .i64 0, .int .i64 0, .bool false] 48)) = W1 := ⟨_, rfl⟩
  obtain ⟨b2, hb2⟩ : ∃ b, w.heap.size = b := ⟨_, rfl⟩
  rw [hW1] at hb ⊢
  have hb' : BoxM w W1 b2 (b2 + 1) c ac cc ast cs := by rw [← hb2]; exact hb
  rw [hb2]
  obtain ⟨b4, hb4⟩ : ∃ b, b2 + 1 = b := ⟨_, rfl⟩
  rw [hb4] at hb' ⊢
  have HBX := Lib.hid hb'
  have p0 := hb'.cf.epoch
  have p1 := hb'.cf.chain
  have p2 := hb'.cf.stores
  clear hb hb' hb2 hb4 hW1
  have hpl := place_any c ac ast cc cs x W1 (HR.out.below HBX.out.below)
  unfold cval at hpl
  have HPL := Lib.hid hpl
  clear hpl
  go_wp2_with fail
  refine HPL.out.mono ?_
  rintro e W2 ⟨rfl, hb⟩
  obtain ⟨q, hq⟩ : ∃ q, q = c.place x := ⟨_, rfl⟩
  have HV : Hid (c.next1 x = if q < 0 then (mb0, false) else Ms.mem c.chain (q + 1)) := Lib.hid (by rw [hq]; rfl)
  rw [← hq]
  have HQB : Hid (-1 ≤ q ∧ q ≤ 9223372036854775806) := Lib.hid (by
    rw [hq, place_at]
    have := Ms.at_le c.chain x
    have := (HR.out.chain).2.1
    have := (HR.out.chain).2.2.1
    simp only [maxLen] at this
    split <;> omega)
  have hbx := HBX.out.later hb
  have HBX2 := Lib.hid hbx
  have p0' := hbx.cf.epoch
  have p1' := hbx.cf.chain
  have p2' := hbx.cf.stores
  clear hbx hq HPL p0 p1 p2 hb
  by_cases hlt : q < 0
  · have t : decide (q < (0 : Int)) = true := decide_eq_true hlt
    have HV2 : Hid (c.next1 x = (mb0, false)) := Lib.hid (by rw [HV.out, if_pos hlt])
    have hbx := HBX2.out
    have r0 := hbx.res.node
    have r1 := hbx.res.birth
    have r2 := hbx.res.whole
    simp only [Nat.zero_add, mb0] at r0 r1 r2
    have f4 := hbx.f4
    have y : MbAt (mset W2 b4 mb0) b4 0 mb0 ∧ Below w.heap.size w (mset W2 b4 mb0) := ⟨mset_at hbx.res, mset_below hbx.below hbx.place.1⟩
    have HE := Lib.hid y
    have y0 := y.1.node
    have y1 := y.1.birth
    have y2 := y.1.whole
    unfold mset at y0 y1 y2 HE
    simp only [Nat.zero_add, mb0] at y0 y1 y2 HE
    clear y hbx hlt HQB
    go_wp2
    refine bodyPost_ret (v := .tuple #[.agg #[.int .i64 0, .int .i64 0, .bool false], .bool false]) (by simp [results, Try.results27, go_sem, y0, y1, y2]) rfl ⟨by rw [HV2.out]; rfl, HE.out.2⟩
  have t : decide (q < (0 : Int)) = false := decide_eq_false hlt
  have HV2 : Hid (c.next1 x = Ms.mem c.chain (q + 1)) := Lib.hid (by rw [HV.out, if_neg hlt])
  have i1 : q + 1 ≤ 9223372036854775807 := by have := HQB.out; omega
  have i2 : -9223372036854775808 ≤ q + 1 := by have := HQB.out; omega
  have hmm := member_any c ac ast cc cs (q + 1) W2 (HR.out.below HBX2.out.below)
  unfold cval at hmm
  have HMM := Lib.hid hmm
  clear hmm hlt
  go_wp2_with fail
  refine HMM.out.mono ?_
  rintro e W3 ⟨rfl, hb⟩
  have hbx := HBX2.out.later hb
  obtain ⟨r, hr⟩ : ∃ r, r = Ms.mem c.chain (q + 1) := ⟨_, rfl⟩
  rw [← hr]
  obtain ⟨m, t⟩ := r
  have HV := Lib.hid hr.symm
  have r0 := hbx.res.node
  have r1 := hbx.res.birth
  have r2 := hbx.res.whole
  simp only [Nat.zero_add, mb0] at r0 r1 r2
  have f4 := hbx.f4
  have y : MbAt (mset W3 b4 m) b4 0 m ∧ Below w.heap.size w (mset W3 b4 m) := ⟨mset_at hbx.res, mset_below hbx.below hbx.place.1⟩
  have HE := Lib.hid y
  have y0 := y.1.node
  have y1 := y.1.birth
  have y2 := y.1.whole
  unfold mset at y0 y1 y2 HE
  simp only [Nat.zero_add] at y0 y1 y2
  clear y hr hbx hb HMM
  simp only [mval]
  go_wp2
  refine bodyPost_ret (v := .tuple #[.agg #[.int .i64 m.node, .int .i64 m.birth, .bool m.whole], .bool t]) (by simp [results, Try.results27, go_sem, y0, y1, y2]) rfl ⟨by rw [HV2.out, HV.out]; rfl, HE.out.2⟩
def Cf.ahead1 (c : Cf) (x : Int) : Mb × Bool := Ms.mem c.chain (c.place x - 1)
set_option maxRecDepth 8000 in
set_option maxHeartbeats 2000000 in
theorem ahead_any (c : Cf) (ac ast : Option Addr) (cc cs : Nat) (x : Int) (w : World) (h : CfR w c ac cc ast cs) :
    Calls Try.prog 28 #[cval c ac cc ast cs, .int .i64 x] w (RetM w (c.ahead1 x)) := by
  have hb := boxM w c ac cc ast cs
  have hle := h.chain.le.1
  have HR := Lib.hid h
  clear h
  unfold cval
  go_enter Try.func28, Try.ntmps28
  go_upto_region 1 with fail
  obtain ⟨W1, hW1⟩ : ∃ W1, ((w.alloc (.cells #[.int .i64 c.epoch, .slice ac c.chain.length cc, .slice ast c.stores.length cs] 41)).alloc (.cells #[.int .i64 0, .int .i64 0, .bool false] 48)) = W1 := ⟨_, rfl⟩
  obtain ⟨b2, hb2⟩ : ∃ b, w.heap.size = b := ⟨_, rfl⟩
  rw [hW1] at hb ⊢
  have hb' : BoxM w W1 b2 (b2 + 1) c ac cc ast cs := by rw [← hb2]; exact hb
  rw [hb2]
  obtain ⟨b4, hb4⟩ : ∃ b, b2 + 1 = b := ⟨_, rfl⟩
  rw [hb4] at hb' ⊢
  have HBX := Lib.hid hb'
  have p0 := hb'.cf.epoch
  have p1 := hb'.cf.chain
  have p2 := hb'.cf.stores
  clear hb hb' hb2 hb4 hW1
  have HCP : Hid (∀ V : BW W1, Calls Try.prog 20 #[.agg #[.int .i64 c.epoch, .slice ac c.chain.length cc, .slice ast c.stores.length cs], .int .i64 x] V.w fun e w' => e = .returned (.int .i64 (c.place x)) ∧ Below V.w.heap.size V.w w') := Lib.hid fun V => place_any c ac ast cc cs x V.w ((HR.out.below HBX.out.below).below V.b)
  obtain ⟨q, hq⟩ : ∃ q, q = c.place x := ⟨_, rfl⟩
  have HQB : Hid (-1 ≤ q ∧ q ≤ 9223372036854775806) := Lib.hid (by
    rw [hq, place_at]
    have := Ms.at_le c.chain x
    have := (HR.out.chain).2.1
    have := (HR.out.chain).2.2.1
    simp only [maxLen] at this
    split <;> omega)
  have HV0 : Hid (c.ahead1 x = Ms.mem c.chain (q - 1)) := Lib.hid (by rw [hq]; rfl)
  rw [← hq] at HCP
  have i1 : q - 1 ≤ 9223372036854775807 := by have := HQB.out; omega
  have i2 : -9223372036854775808 ≤ q - 1 := by have := HQB.out; omega
  have HCM : Hid (∀ V : BW W1, Calls Try.prog 67 #[.agg #[.int .i64 c.epoch, .slice ac c.chain.length cc, .slice ast c.stores.length cs], .int .i64 (q - 1)] V.w (RetM V.w (Ms.mem c.chain (q - 1)))) := Lib.hid fun V => member_any c ac ast cc cs (q - 1) V.w ((HR.out.below HBX.out.below).below V.b)
  clear hq
  refine wp_region_steps [8, 9] 8 8 (by kernel_rfl) (by kernel_rfl) rfl (fun W' => ∃ V : BW W1, W' = V.w) ?_
  have HBC := (Below.refl W1.heap.size W1).drew
  refine anyT_pull [0, 1, 2] 8 5 (by intro c a d v w h; cases d <;> exact h) (by kernel_rfl) ⟨⟨_, HBC⟩, rfl⟩ ?_
  simp only [opsAt, List.filterMap_cons, List.filterMap_nil, List.getElem?_cons_zero, List.getElem?_cons_succ]
  iterate 3
    apply held_step
    · rfl
    · rintro _ ⟨V, rfl⟩
      have m0 := BW.cell p0 V
      have m1 := BW.cell p1 V
      have m2 := BW.cell p2 V
      go_simp
      rfl
  refine held_nil ?_
  refine anyT_one 3 rfl (by kernel_rfl) rfl (fun K hK => ?_)
  go_simp
  refine (HCP.out ⟨_, HBC⟩).mono ?_
  rintro en wn ⟨rfl, hbn⟩
  replace HBC := HBC.trans (hbn.mono HBC.size)
  refine hK _ _ ⟨⟨_, HBC⟩, rfl⟩ ?_
  clear hK hbn
  refine anyT_pull [4] 8 3 (by intro c a d v w h; cases d <;> exact h) (by kernel_rfl) ⟨⟨_, HBC⟩, rfl⟩ ?_
  simp only [opsAt, List.filterMap_cons, List.filterMap_nil, List.getElem?_cons_zero, List.getElem?_cons_succ]
  iterate 1
    apply held_step
    · rfl
    · rintro _ ⟨V, rfl⟩
      go_simp
      rfl
  have hwr : IntKind.i64.wrap (q - 1) = q - 1 := IntWalk.i64_in _ ⟨i2, i1⟩
  simp only [hwr]
  refine held_nil ?_
  refine anyT_one 5 rfl (by kernel_rfl) rfl (fun K hK => ?_)
  go_simp
  refine (HCM.out ⟨_, HBC⟩).mono ?_
  rintro en W2 ⟨rfl, hbn⟩
  replace HBC := HBC.trans (hbn.mono HBC.size)
  refine hK _ _ ⟨⟨_, HBC⟩, rfl⟩ ?_
  clear hK hbn
  refine anyT_pull [6, 7] 8 0 (by intro c a d v w h; cases d <;> exact h) (by kernel_rfl) ⟨⟨_, HBC⟩, rfl⟩ ?_
  simp only [opsAt, List.filterMap_cons, List.filterMap_nil, List.getElem?_cons_zero, List.getElem?_cons_succ]
  iterate 2
    apply held_step
    · rfl
    · rintro _ ⟨V, rfl⟩
      go_simp
      rfl
  refine held_nil ?_
  refine anyT_done (by kernel_rfl) ?_
  simp only [opsAt, List.filterMap_cons, List.filterMap_nil, List.getElem?_cons_zero, List.getElem?_cons_succ]
  have hb := HBC
  clear HBC HCM HCP p0 p1 p2
  have hbx := HBX.out.later hb
  obtain ⟨r, hr⟩ : ∃ r, r = Ms.mem c.chain (q - 1) := ⟨_, rfl⟩
  rw [← hr]
  obtain ⟨m, t⟩ := r
  have HV := Lib.hid hr.symm
  have r0 := hbx.res.node
  have r1 := hbx.res.birth
  have r2 := hbx.res.whole
  simp only [Nat.zero_add, mb0] at r0 r1 r2
  have f4 := hbx.f4
  have y : MbAt (mset W2 b4 m) b4 0 m ∧ Below w.heap.size w (mset W2 b4 m) := ⟨mset_at hbx.res, mset_below hbx.below hbx.place.1⟩
  have HE := Lib.hid y
  have y0 := y.1.node
  have y1 := y.1.birth
  have y2 := y.1.whole
  unfold mset at y0 y1 y2 HE
  simp only [Nat.zero_add] at y0 y1 y2
  clear y hr hbx hb
  simp only [mval]
  go_wp2
  refine bodyPost_ret (v := .tuple #[.agg #[.int .i64 m.node, .int .i64 m.birth, .bool m.whole], .bool t]) (by simp [results, Try.results28, go_sem, y0, y1, y2]) rfl ⟨by rw [HV0.out, HV.out]; rfl, HE.out.2⟩
end Go.Proofs.Ytincllchoflpmaa
