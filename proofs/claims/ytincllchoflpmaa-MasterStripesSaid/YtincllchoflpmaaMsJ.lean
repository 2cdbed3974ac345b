/- The arms of master.Do's switch. -/
import Derived.Test.YtincllchoflpmaaMsI
namespace Go.Proofs.Ytincllchoflpmaa
open Go.RowKit
set_option linter.unusedVariables false

/-- Neither configuration nor arguments are refused. -/
def StepG (c : Cf) (x : Cm) : Prop := c.ok = true ∧ ¬ (x.kind < 1 ∨ 5 < x.kind ∨ Ms.node x.node = false ∨ Ms.born x.birth = false ∨ (c.epoch = 1099511627776 ∧ x.kind ≠ 3))
theorem place_at (c : Cf) (n : Int) : c.place n = if Ms.at c.chain n < c.chain.length then ((Ms.at c.chain n : Nat) : Int) else -1 := rfl
theorem place_lt {c : Cf} {n : Int} (h : 0 ≤ c.place n) : Ms.at c.chain n < c.chain.length ∧ c.place n = ((Ms.at c.chain n : Nat) : Int) := by
  rw [place_at] at h ⊢
  by_cases h1 : Ms.at c.chain n < c.chain.length
  · rw [if_pos h1]; exact ⟨h1, rfl⟩
  · rw [if_neg h1] at h; omega
theorem place_no {c : Cf} {n : Int} (h : ¬ 0 ≤ c.place n) : ¬ Ms.at c.chain n < c.chain.length := fun h1 => by
  rw [place_at, if_pos h1] at h
  omega
theorem step_add_no {c : Cf} {x : Cm} (g : StepG c x) (hk : x.kind = 1) (h : Ms.at c.chain x.node < c.chain.length ∨ c.chain.length = 5) : c.step x = (Ms.zero, 23) := by
  unfold Cf.step
  rw [if_neg (by rw [g.1]; decide), if_neg g.2]
  simp only [hk, if_true, if_pos h]
theorem step_add {c : Cf} {x : Cm} (g : StepG c x) (hk : x.kind = 1) (h : ¬ (Ms.at c.chain x.node < c.chain.length ∨ c.chain.length = 5)) : c.step x = (⟨c.epoch + 1, c.chain ++ [⟨x.node, x.birth, c.chain.isEmpty⟩], c.stores⟩, 0) := by
  unfold Cf.step
  rw [if_neg (by rw [g.1]; decide), if_neg g.2]
  simp only [hk, if_true, if_neg h]
theorem step_drop {c : Cf} {x : Cm} (g : StepG c x) (hk : x.kind = 2) : c.step x = if Ms.at c.chain x.node < c.chain.length ∧ Ms.whole (c.chain.eraseIdx (Ms.at c.chain x.node)) = true then (⟨c.epoch + 1, c.chain.eraseIdx (Ms.at c.chain x.node), c.stores⟩, 0) else (Ms.zero, 23) := by
  unfold Cf.step
  rw [if_neg (by rw [g.1]; decide), if_neg g.2]
  simp only [hk]
  rw [if_neg (by decide)]
  simp only [if_true]
theorem step_whole {c : Cf} {x : Cm} (g : StepG c x) (hk : x.kind = 3) : c.step x = if x.epoch ≠ c.epoch then (Ms.zero, 21) else if Ms.at c.chain x.node < c.chain.length ∧ c.chain.getD (Ms.at c.chain x.node) default = ⟨x.node, x.birth, false⟩ then (⟨c.epoch, c.chain.set (Ms.at c.chain x.node) ⟨x.node, x.birth, true⟩, c.stores⟩, 0) else (Ms.zero, 23) := by
  unfold Cf.step
  rw [if_neg (by rw [g.1]; decide), if_neg g.2]
  simp only [hk]
  rw [if_neg (by decide), if_neg (by decide)]
  simp only [if_true]
theorem step_store {c : Cf} {x : Cm} (g : StepG c x) (hk : x.kind = 4) : c.step x = if Ms.has c.stores x.node = true then (Ms.zero, 23) else (⟨c.epoch + 1, c.chain, c.stores.take (Ms.low c.stores x.node) ++ x.node :: c.stores.drop (Ms.low c.stores x.node)⟩, 0) := by
  unfold Cf.step
  rw [if_neg (by rw [g.1]; decide), if_neg g.2]
  simp only [hk]
  rw [if_neg (by decide), if_neg (by decide), if_neg (by decide)]
  simp only [if_true]
theorem step_unplug {c : Cf} {x : Cm} (g : StepG c x) (hk : x.kind = 5) : c.step x = if Ms.has c.stores x.node = true then (⟨c.epoch + 1, c.chain, c.stores.eraseIdx (Ms.low c.stores x.node)⟩, 0) else (Ms.zero, 23) := by
  unfold Cf.step
  rw [if_neg (by rw [g.1]; decide), if_neg g.2]
  simp only [hk]
  rw [if_neg (by decide), if_neg (by decide), if_neg (by decide), if_neg (by decide)]
theorem own_ne {w : World} {B B' e e' s s' n n' k k' : Nat} {a a' : Option Addr} {cs cs' : List Value} (h : w.ownsRow B e s (.slice a k n) k cs) (h' : w.ownsRow B' e' s' (.slice a' k' n') k' cs') (hne : e ≠ e') : ∀ x y, a = some x → a' = some y → x.block ≠ y.block := by
  rintro x y rfl rfl e1
  rcases h.2 with ⟨h1, _⟩ | ⟨g, cap, cur, h1, _, h2, _⟩
  · cases h1
  · rcases h'.2 with ⟨h3, _⟩ | ⟨g', cap', cur', h3, _, h4, _⟩
    · cases h3
    · cases h1
      cases h3
      have e2 : g = g' := e1
      subst e2
      rw [h2] at h4
      cases h4
      exact hne rfl
theorem own_low {w : World} {B e s n c : Nat} {a : Option Addr} {cs : List Value} (h : w.ownsRow B e s (.slice a n c) n cs) : ∀ x, a = some x → B ≤ x.block := by
  rintro x rfl
  rcases h.2 with ⟨h1, _⟩ | ⟨g, cap, cur, h1, h2, _⟩
  · cases h1
  · cases h1; exact h2
/-- The chain is another one. -/
theorem SwS.chain {w W W' : World} {B b2 b3 b4 : Nat} {c : Cf} {ac ast a' : Option Addr} {cc cs c' n : Nat} {x : Cm} {l : List Mb} (h : SwS w W B b2 b3 b4 c ac cc ast cs x) (ho : Oth ac W W') (hl : AccM W' B a' n c' l) :
    Box3 w W' b2 b3 b4 c ac cc ast cs x ∧ SwS w (W'.setCell ⟨b2, 1, none⟩ (.slice a' n c')) B b2 b3 b4 ⟨c.epoch, l, c.stores⟩ a' c' ast cs x := by
  have hb : Below B W W' := ho.below h.base (own_low h.own.chain.2)
  have h1 := h.box.later2 hb h.low
  have hst : AccI W' B ast c.stores.length cs c.stores := ⟨h.own.stores.1, own_oth h.own.stores.2.1 ho (own_ne h.own.chain.2 h.own.stores.2.1 (by decide)), h.own.stores.2.2⟩
  have hl' : AccM W' B a' l.length c' l := by rw [hl.1]; exact hl
  exact ⟨h1, h1.setB2 1 _ (h1.cf.set1 hl.1 a' c'), (CfO.mk (c := ⟨c.epoch, l, c.stores⟩) hl' hst).setLow (p := ⟨b2, 1, none⟩) h.low.1 _, h.low, by rw [World.size_setCell]; exact Nat.le_trans h.base ho.size⟩
/-- The stores are others. -/
theorem SwS.store {w W W' : World} {B b2 b3 b4 : Nat} {c : Cf} {ac ast a' : Option Addr} {cc cs c' n : Nat} {x : Cm} {l : List Int} (h : SwS w W B b2 b3 b4 c ac cc ast cs x) (ho : Oth ast W W') (hl : AccI W' B a' n c' l) :
    Box3 w W' b2 b3 b4 c ac cc ast cs x ∧ SwS w (W'.setCell ⟨b2, 2, none⟩ (.slice a' n c')) B b2 b3 b4 ⟨c.epoch, c.chain, l⟩ ac cc a' c' x := by
  have hb : Below B W W' := ho.below h.base (own_low h.own.stores.2.1)
  have h1 := h.box.later2 hb h.low
  have hst : AccM W' B ac c.chain.length cc c.chain := ⟨h.own.chain.1, own_oth h.own.chain.2 ho (own_ne h.own.stores.2.1 h.own.chain.2 (by decide))⟩
  have hl' : AccI W' B a' l.length c' l := by rw [hl.1]; exact hl
  exact ⟨h1, h1.setB2 2 _ (h1.cf.set2 hl.1 a' c'), (CfO.mk (c := ⟨c.epoch, c.chain, l⟩) hst hl').setLow (p := ⟨b2, 2, none⟩) h.low.1 _, h.low, by rw [World.size_setCell]; exact Nat.le_trans h.base ho.size⟩
theorem SwS.below {w W W' : World} {B b2 b3 b4 : Nat} {c : Cf} {ac ast : Option Addr} {cc cs : Nat} {x : Cm} (h : SwS w W B b2 b3 b4 c ac cc ast cs x) (hb : Below W.heap.size W W') : SwS w W' B b2 b3 b4 c ac cc ast cs x :=
  ⟨h.box.later hb, h.own.below hb, h.low, Nat.le_trans h.base hb.size⟩

set_option maxRecDepth 8000 in
set_option maxHeartbeats 2000000 in
theorem arm_add {w W : World} {B b2 b3 b4 : Nat} {c : Cf} {ac ast : Option Addr} {cc cs : Nat} {x : Cm} {pl : Int} {lo : Nat} {hs : Bool} {r : Cf × Int} {K1 : Act → World → Prop} (S : SwS w W B b2 b3 b4 c ac cc ast cs x) (G : StepG c x) (hn : c.stores.length ≤ 1000000) (hk : x.kind = 1) (hpl : pl = c.place x.node) (hlo : lo = Ms.low c.stores x.node) (hhs : hs = Ms.has c.stores x.node) (hr : r = c.step x)
    (hK : ∀ a w', Code.wp Try.prog doTail (bodyPost Try.prog Try.f18 (DoP w r)) a w' → K1 a w') {u0 u1 u5 u6 u11 u12 u13 u14 u15 u16 u17 u18 u19 u20 u21 u22 u23 u24 u25 u26 u27 u28 u29 u30 u31 u32 u33 u34 u35 u36 u37 u38 u39 u40 u41 u42 u43 u44 u45 u46 u47 u48 u49 u50 u51 u52 u53 u54 u55 u56 u57 u58 u59 u60 u61 u62 u64 u65 u66 u67 u68 u69 u70 u71 u72 u73 u74 u75 u76 u77 u78 u79 u80 u81 u82 u83 u84 u85 u86 u87 u88 u89 u90 u91 u92 u93 u94 u95 u96 u97 u98 u99 u100 u101 u102 u103 u104 u105 u106 u107 u108 u109 u110 u111 u112 u113 u114 u115 u116 u117 u118 u119 u120 u121 u122 u123 u124 u125 u126 u127 u128 u129 u130 u131 u132 u133 u134 u135 u136 u137 u138 u139 u140 u141 u142 u143 u144 u145 u146 u147 u148 u149 u150 u151 u152 u153 u154 u155 u156 u157 u158 u159 u160 u161 u162 u163 : Value} :
    Code.wp Try.prog doSwitch (Exit.then K1 (bodyPost Try.prog Try.f18 (DoP w r))) ⟨#[u0, u1, .pointer (some ⟨b2, 0, none⟩), .pointer (some ⟨b3, 0, none⟩), .pointer (some ⟨b4, 0, none⟩), u5, u6, .int .i64 pl, .int .i64 (lo : Nat), .bool hs, .int .i64 0, u11, u12, u13, u14, u15, u16, u17, u18, u19, u20, u21, u22, u23, u24, u25, u26, u27, u28, u29, u30, u31, u32, u33, u34, u35, u36, u37, u38, u39, u40, u41, u42, u43, u44, u45, u46, u47, u48, u49, u50, u51, u52, u53, u54, u55, u56, u57, u58, u59, u60, u61, u62, .int .i64 1, u64, u65, u66, u67, u68, u69, u70, u71, u72, u73, u74, u75, u76, u77, u78, u79, u80, u81, u82, u83, u84, u85, u86, u87, u88, u89, u90, u91, u92, u93, u94, u95, u96, u97, u98, u99, u100, u101, u102, u103, u104, u105, u106, u107, u108, u109, u110, u111, u112, u113, u114, u115, u116, u117, u118, u119, u120, u121, u122, u123, u124, u125, u126, u127, u128, u129, u130, u131, u132, u133, u134, u135, u136, u137, u138, u139, u140, u141, u142, u143, u144, u145, u146, u147, u148, u149, u150, u151, u152, u153, u154, u155, u156, u157, u158, u159, u160, u161, u162, u163], []⟩ W := by
  have HOK := Lib.hid ((Cf.ok_iff c).1 G.1)
  have HK := Lib.hid hK
  have HG := Lib.hid G
  have HKD := Lib.hid hk
  have HPL := Lib.hid hpl
  have HLO := Lib.hid (And.intro hlo hhs)
  have HR := Lib.hid hr
  have HS := Lib.hid S
  have HHN := Lib.hid hn
  have p0 := S.box.cf.epoch
  have p1 := S.box.cf.chain
  have p2 := S.box.cf.stores
  have q0 := S.box.cm.kind
  have q1 := S.box.cm.node
  have q2 := S.box.cm.birth
  have q3 := S.box.cm.epoch
  simp only [Nat.zero_add] at q1 q2 q3
  have r0 := S.box.res.epoch
  have r1 := S.box.res.chain
  have r2 := S.box.res.stores
  have f2 := S.box.f2
  have f4 := S.box.f4
  clear hK G hk hpl hlo hhs hr S hn
  have hl5 := HOK.out.len
  by_cases hp0 : 0 ≤ pl
  · have HST : Hid (r = (Ms.zero, 23)) := Lib.hid (by rw [HR.out, step_add_no HG.out HKD.out (.inl (place_lt (by rw [← HPL.out]; exact hp0)).1)])
    have d1 : decide ((0 : Int) ≤ pl) = true := decide_eq_true hp0
    clear hp0
    conv => arg 2; whnf
    go_wp2
    refine HK.out _ _ ?_
    exact tail_err HS.out.box rfl HST.out
  have d1 : decide ((0 : Int) ≤ pl) = false := decide_eq_false hp0
  by_cases h5 : c.chain.length = 5
  · have HST : Hid (r = (Ms.zero, 23)) := Lib.hid (by rw [HR.out, step_add_no HG.out HKD.out (.inr h5)])
    have d2 : ((c.chain.length : Int) == 5) = true := by simp [h5]
    clear hp0 h5
    conv => arg 2; whnf
    go_wp2
    refine HK.out _ _ ?_
    exact tail_err HS.out.box rfl HST.out
  have d2 : ((c.chain.length : Int) == 5) = false := by rw [int_beq]; exact decide_eq_false (by omega)
  have HST : Hid (r = (⟨c.epoch + 1, c.chain ++ [⟨x.node, x.birth, c.chain.isEmpty⟩], c.stores⟩, 0)) := Lib.hid (by
    rw [HR.out, step_add HG.out HKD.out (by rintro (h | h); exact place_no (by rw [← HPL.out]; exact hp0) h; exact h5 h)])
  have HEP : Hid (0 ≤ c.epoch ∧ c.epoch ≤ 1099511627776) := Lib.hid ⟨HOK.out.lo, HOK.out.hi⟩
  obtain ⟨wf, hwf⟩ : ∃ wf, wf = c.chain.isEmpty := ⟨_, rfl⟩
  rw [← hwf] at HST
  have d3 : ((c.chain.length : Int) == 0) = wf := by
    rw [hwf]
    cases c.chain <;> simp
    omega
  have hmv : mv (c.chain ++ [⟨x.node, x.birth, wf⟩]) = mv c.chain ++ [.int .i64 x.node, .int .i64 x.birth, .bool wf] := by rw [mv_app]; rfl
  have HMV := Lib.hid hmv
  obtain ⟨i0, hi0, hz0, hz1, hz2⟩ := info_parts infoMb
  have HI := Lib.hid (And.intro hi0 (And.intro hz0 (And.intro hz1 hz2)))
  have HOWN := Lib.hid (own_below HS.out.own.chain.2 (below_alloc1 W (.cells #[.int .i64 x.node, .int .i64 x.birth, .bool wf] 48)))
  have HROW := Lib.hid (Row.new W #[.int .i64 x.node, .int .i64 x.birth, .bool wf] 48)
  have HBA : Hid (B ≤ (W.alloc (.cells #[.int .i64 x.node, .int .i64 x.birth, .bool wf] 48)).heap.size) := Lib.hid (le_alloc HS.out.base)
  have HEV : Hid (∀ a5 c5 w5, w5.ownsRow B 48 3 (.slice a5 (c.chain.length + 1) c5) (c.chain.length + 1) (mv c.chain ++ [.int .i64 x.node, .int .i64 x.birth, .bool wf]) → Evol (W.alloc (.cells #[.int .i64 x.node, .int .i64 x.birth, .bool wf] 48)) ac w5 a5 →
      Box3 w w5 b2 b3 b4 c ac cc ast cs x ∧ SwS w (w5.setCell ⟨b2, 1, none⟩ (.slice a5 (c.chain.length + 1) c5)) B b2 b3 b4 ⟨c.epoch, c.chain ++ [⟨x.node, x.birth, wf⟩], c.stores⟩ a5 c5 ast cs x) := Lib.hid fun a5 c5 w5 h1 h2 =>
    HS.out.chain ((Oth.of_below (below_alloc1 W _)).trans (Oth.evol h2)) ⟨by simp, by rw [HMV.out]; exact h1⟩
  clear hp0 h5 hwf hmv hi0 hz0 hz1 hz2
  conv => arg 2; whnf
  go_wp2_with (at_builtin; refine wpList_app_own rfl _ _ 38 rfl B 48 i0 (.agg #[.int .i64 0, .int .i64 0, .bool false]) 3 24 Try.underlying38 HI.out.1 HI.out.2.1 HI.out.2.2.1 HI.out.2.2.2 rfl (by decide) ac c.chain.length cc (mv c.chain) rfl HOWN.out (some ⟨W.heap.size, 0, none⟩) 1 1 [.int .i64 x.node, .int .i64 x.birth, .bool wf] rfl HROW.out rfl (by simp; exact ⟨rfl, rfl, rfl⟩) (by omega) (by simp only [maxLen]; omega) HBA.out ?_; intro a5 c5 w5 h5 hev5; obtain ⟨hx5, hs5⟩ := HEV.out a5 c5 w5 h5 hev5; have z1 := hx5.cf.chain; have zf := hx5.f2; have HT := Lib.hid hs5; clear h5 hev5 hx5 hs5)
  refine HK.out _ _ ?_
  exact tail_ok HT.out HEP.out HST.out

set_option maxRecDepth 8000 in
set_option maxHeartbeats 2000000 in
theorem arm_drop {w W : World} {B b2 b3 b4 : Nat} {c : Cf} {ac ast : Option Addr} {cc cs : Nat} {x : Cm} {pl : Int} {lo : Nat} {hs : Bool} {r : Cf × Int} {K1 : Act → World → Prop} (S : SwS w W B b2 b3 b4 c ac cc ast cs x) (G : StepG c x) (hn : c.stores.length ≤ 1000000) (hk : x.kind = 2) (hpl : pl = c.place x.node) (hlo : lo = Ms.low c.stores x.node) (hhs : hs = Ms.has c.stores x.node) (hr : r = c.step x)
    (hK : ∀ a w', Code.wp Try.prog doTail (bodyPost Try.prog Try.f18 (DoP w r)) a w' → K1 a w') {u0 u1 u5 u6 u11 u12 u13 u14 u15 u16 u17 u18 u19 u20 u21 u22 u23 u24 u25 u26 u27 u28 u29 u30 u31 u32 u33 u34 u35 u36 u37 u38 u39 u40 u41 u42 u43 u44 u45 u46 u47 u48 u49 u50 u51 u52 u53 u54 u55 u56 u57 u58 u59 u60 u61 u62 u64 u65 u66 u67 u68 u69 u70 u71 u72 u73 u74 u75 u76 u77 u78 u79 u80 u81 u82 u83 u84 u85 u86 u87 u88 u89 u90 u91 u92 u93 u94 u95 u96 u97 u98 u99 u100 u101 u102 u103 u104 u105 u106 u107 u108 u109 u110 u111 u112 u113 u114 u115 u116 u117 u118 u119 u120 u121 u122 u123 u124 u125 u126 u127 u128 u129 u130 u131 u132 u133 u134 u135 u136 u137 u138 u139 u140 u141 u142 u143 u144 u145 u146 u147 u148 u149 u150 u151 u152 u153 u154 u155 u156 u157 u158 u159 u160 u161 u162 u163 : Value} :
    Code.wp Try.prog doSwitch (Exit.then K1 (bodyPost Try.prog Try.f18 (DoP w r))) ⟨#[u0, u1, .pointer (some ⟨b2, 0, none⟩), .pointer (some ⟨b3, 0, none⟩), .pointer (some ⟨b4, 0, none⟩), u5, u6, .int .i64 pl, .int .i64 (lo : Nat), .bool hs, .int .i64 0, u11, u12, u13, u14, u15, u16, u17, u18, u19, u20, u21, u22, u23, u24, u25, u26, u27, u28, u29, u30, u31, u32, u33, u34, u35, u36, u37, u38, u39, u40, u41, u42, u43, u44, u45, u46, u47, u48, u49, u50, u51, u52, u53, u54, u55, u56, u57, u58, u59, u60, u61, u62, .int .i64 2, u64, u65, u66, u67, u68, u69, u70, u71, u72, u73, u74, u75, u76, u77, u78, u79, u80, u81, u82, u83, u84, u85, u86, u87, u88, u89, u90, u91, u92, u93, u94, u95, u96, u97, u98, u99, u100, u101, u102, u103, u104, u105, u106, u107, u108, u109, u110, u111, u112, u113, u114, u115, u116, u117, u118, u119, u120, u121, u122, u123, u124, u125, u126, u127, u128, u129, u130, u131, u132, u133, u134, u135, u136, u137, u138, u139, u140, u141, u142, u143, u144, u145, u146, u147, u148, u149, u150, u151, u152, u153, u154, u155, u156, u157, u158, u159, u160, u161, u162, u163], []⟩ W := by
  have HOK := Lib.hid ((Cf.ok_iff c).1 G.1)
  have HK := Lib.hid hK
  have HG := Lib.hid G
  have HKD := Lib.hid hk
  have HPL := Lib.hid hpl
  have HLO := Lib.hid (And.intro hlo hhs)
  have HR := Lib.hid hr
  have HS := Lib.hid S
  have HHN := Lib.hid hn
  have p0 := S.box.cf.epoch
  have p1 := S.box.cf.chain
  have p2 := S.box.cf.stores
  have q0 := S.box.cm.kind
  have q1 := S.box.cm.node
  have q2 := S.box.cm.birth
  have q3 := S.box.cm.epoch
  simp only [Nat.zero_add] at q1 q2 q3
  have r0 := S.box.res.epoch
  have r1 := S.box.res.chain
  have r2 := S.box.res.stores
  have f2 := S.box.f2
  have f4 := S.box.f4
  clear hK G hk hpl hlo hhs hr S hn
  have hl5 := HOK.out.len
  have hst := step_drop HG.out HKD.out
  by_cases hp0 : 0 ≤ pl
  case neg =>
    have HST : Hid (r = (Ms.zero, 23)) := Lib.hid (by rw [HR.out, hst, if_neg (fun h => place_no (by rw [← HPL.out]; exact hp0) h.1)])
    have d1 : decide (pl < (0 : Int)) = true := decide_eq_true (by omega)
    clear hp0 hst
    conv => arg 2; whnf
    go_wp2
    refine HK.out _ _ ?_
    exact tail_err HS.out.box rfl HST.out
  have hpp := place_lt (c := c) (n := x.node) (by rw [← HPL.out]; exact hp0)
  rw [← HPL.out] at hpp
  obtain ⟨i, hi⟩ : ∃ i, i = Ms.at c.chain x.node := ⟨_, rfl⟩
  rw [← hi] at hst hpp
  obtain ⟨hlt, hpe⟩ := hpp
  rw [hpe]
  have d1 : decide ((i : Int) < (0 : Int)) = false := decide_eq_false (by omega)
  obtain ⟨g, rfl, hg1, hg2⟩ := own_form HS.out.own.chain.2 (by omega)
  have HD : Hid (Calls Try.prog 59 #[.slice (some ⟨g, 0, none⟩) c.chain.length cc, .int .i64 (i : Int), .int .i64 ((i : Int) + 1)] W fun e w' => e = .returned (.slice (some ⟨g, 0, none⟩) (c.chain.length - 1) cc) ∧ Box3 w w' b2 b3 b4 c (some ⟨g, 0, none⟩) cc ast cs x ∧ SwS w (w'.setCell ⟨b2, 1, none⟩ (.slice (some ⟨g, 0, none⟩) (c.chain.length - 1) cc)) B b2 b3 b4 ⟨c.epoch, c.chain.eraseIdx i, c.stores⟩ (some ⟨g, 0, none⟩) cc ast cs x) := Lib.hid (by
    rw [show ((i : Int) + 1) = ((i + 1 : Nat) : Int) by omega]
    exact (delm_any B g c.chain.length cc i (i + 1) c.chain W HS.out.own.chain HS.out.base hlt rfl (by omega)).mono fun e w' ⟨h1, h2, h3⟩ => ⟨h1, (HS.out.chain h3 h2).1, (HS.out.chain h3 h2).2⟩)
  have HLE : Hid ((c.chain.eraseIdx i).length = c.chain.length - 1) := Lib.hid (List.length_eraseIdx_of_lt hlt)
  have HST : Hid (r = if Ms.whole (c.chain.eraseIdx i) = true then (⟨c.epoch + 1, c.chain.eraseIdx i, c.stores⟩, 0) else (Ms.zero, 23)) := Lib.hid (by
    rw [HR.out, hst]
    by_cases hw : Ms.whole (c.chain.eraseIdx i) = true
    · rw [if_pos ⟨hlt, hw⟩, if_pos hw]
    · rw [if_neg (fun h => hw h.2), if_neg hw])
  have HEP : Hid (0 ≤ c.epoch ∧ c.epoch ≤ 1099511627776) := Lib.hid ⟨HOK.out.lo, HOK.out.hi⟩
  obtain ⟨n, hn⟩ : ∃ n, n = c.chain.length := ⟨_, rfl⟩
  have HN := Lib.hid hn
  rw [← hn] at p1 HD HLE hl5 hlt
  clear hp0 hst hpe hi hn hg1 hg2
  conv => arg 2; whnf
  go_wp2_with fail
  refine HD.out.mono ?_
  rintro e w5 ⟨rfl, hx5, hs5⟩
  have z1 := hx5.cf.chain
  rw [← HN.out] at z1
  have zf := hx5.f2
  have HT := Lib.hid hs5
  clear hx5 hs5 HD p0 p1 p2 q0 q1 q2 q3 r0 r1 r2 f2 f4
  go_upto_region 19 with fail
  obtain ⟨W2, hW2⟩ : ∃ W2, w5.setCell ⟨b2, 1, none⟩ (.slice (some ⟨g, 0, none⟩) (n - 1) cc) = W2 := ⟨_, rfl⟩
  have ht2 := HT.out
  rw [hW2] at ht2 ⊢
  have HT2 := Lib.hid ht2
  have p1 := ht2.box.cf.chain
  simp only [HLE.out] at p1
  obtain ⟨wb, hwb⟩ : ∃ wb, wb = Ms.whole (c.chain.eraseIdx i) := ⟨_, rfl⟩
  have HW := Lib.hid (whole_any (some ⟨g, 0, none⟩) (n - 1) cc (c.chain.eraseIdx i) W2 (by have h9 := ht2.own.chain.ms; simp only [HLE.out] at h9; exact h9))
  rw [← hwb] at HW HST
  clear hW2 ht2 HT z1 zf hwb
  go_wp2_with fail
  refine HW.out.mono ?_
  rintro e w6 ⟨rfl, hb6⟩
  have HT3 := Lib.hid (HT2.out.below hb6)
  clear hb6 HW p1 HT2
  cases wb with
  | true =>
    go_wp2
    refine HK.out _ _ ?_
    exact tail_ok HT3.out HEP.out (by rw [HST.out]; rfl)
  | false =>
    go_wp2
    refine HK.out _ _ ?_
    exact tail_err HT3.out.box rfl (by rw [HST.out]; rfl)

set_option maxRecDepth 8000 in
set_option maxHeartbeats 2000000 in
theorem arm_store {w W : World} {B b2 b3 b4 : Nat} {c : Cf} {ac ast : Option Addr} {cc cs : Nat} {x : Cm} {pl : Int} {lo : Nat} {hs : Bool} {r : Cf × Int} {K1 : Act → World → Prop} (S : SwS w W B b2 b3 b4 c ac cc ast cs x) (G : StepG c x) (hn : c.stores.length ≤ 1000000) (hk : x.kind = 4) (hpl : pl = c.place x.node) (hlo : lo = Ms.low c.stores x.node) (hhs : hs = Ms.has c.stores x.node) (hr : r = c.step x)
    (hK : ∀ a w', Code.wp Try.prog doTail (bodyPost Try.prog Try.f18 (DoP w r)) a w' → K1 a w') {u0 u1 u5 u6 u11 u12 u13 u14 u15 u16 u17 u18 u19 u20 u21 u22 u23 u24 u25 u26 u27 u28 u29 u30 u31 u32 u33 u34 u35 u36 u37 u38 u39 u40 u41 u42 u43 u44 u45 u46 u47 u48 u49 u50 u51 u52 u53 u54 u55 u56 u57 u58 u59 u60 u61 u62 u64 u65 u66 u67 u68 u69 u70 u71 u72 u73 u74 u75 u76 u77 u78 u79 u80 u81 u82 u83 u84 u85 u86 u87 u88 u89 u90 u91 u92 u93 u94 u95 u96 u97 u98 u99 u100 u101 u102 u103 u104 u105 u106 u107 u108 u109 u110 u111 u112 u113 u114 u115 u116 u117 u118 u119 u120 u121 u122 u123 u124 u125 u126 u127 u128 u129 u130 u131 u132 u133 u134 u135 u136 u137 u138 u139 u140 u141 u142 u143 u144 u145 u146 u147 u148 u149 u150 u151 u152 u153 u154 u155 u156 u157 u158 u159 u160 u161 u162 u163 : Value} :
    Code.wp Try.prog doSwitch (Exit.then K1 (bodyPost Try.prog Try.f18 (DoP w r))) ⟨#[u0, u1, .pointer (some ⟨b2, 0, none⟩), .pointer (some ⟨b3, 0, none⟩), .pointer (some ⟨b4, 0, none⟩), u5, u6, .int .i64 pl, .int .i64 (lo : Nat), .bool hs, .int .i64 0, u11, u12, u13, u14, u15, u16, u17, u18, u19, u20, u21, u22, u23, u24, u25, u26, u27, u28, u29, u30, u31, u32, u33, u34, u35, u36, u37, u38, u39, u40, u41, u42, u43, u44, u45, u46, u47, u48, u49, u50, u51, u52, u53, u54, u55, u56, u57, u58, u59, u60, u61, u62, .int .i64 4, u64, u65, u66, u67, u68, u69, u70, u71, u72, u73, u74, u75, u76, u77, u78, u79, u80, u81, u82, u83, u84, u85, u86, u87, u88, u89, u90, u91, u92, u93, u94, u95, u96, u97, u98, u99, u100, u101, u102, u103, u104, u105, u106, u107, u108, u109, u110, u111, u112, u113, u114, u115, u116, u117, u118, u119, u120, u121, u122, u123, u124, u125, u126, u127, u128, u129, u130, u131, u132, u133, u134, u135, u136, u137, u138, u139, u140, u141, u142, u143, u144, u145, u146, u147, u148, u149, u150, u151, u152, u153, u154, u155, u156, u157, u158, u159, u160, u161, u162, u163], []⟩ W := by
  have HOK := Lib.hid ((Cf.ok_iff c).1 G.1)
  have HK := Lib.hid hK
  have HG := Lib.hid G
  have HKD := Lib.hid hk
  have HPL := Lib.hid hpl
  have HLO := Lib.hid (And.intro hlo hhs)
  have HR := Lib.hid hr
  have HS := Lib.hid S
  have HHN := Lib.hid hn
  have p0 := S.box.cf.epoch
  have p1 := S.box.cf.chain
  have p2 := S.box.cf.stores
  have q0 := S.box.cm.kind
  have q1 := S.box.cm.node
  have q2 := S.box.cm.birth
  have q3 := S.box.cm.epoch
  simp only [Nat.zero_add] at q1 q2 q3
  have r0 := S.box.res.epoch
  have r1 := S.box.res.chain
  have r2 := S.box.res.stores
  have f2 := S.box.f2
  have f4 := S.box.f4
  clear hK G hk hpl hlo hhs hr S hn
  have hst := step_store HG.out HKD.out
  have hst16 := HOK.out.rise
  rw [← HLO.out.1, ← HLO.out.2] at hst
  cases hs with
  | true =>
    have HST : Hid (r = (Ms.zero, 23)) := Lib.hid (by rw [HR.out, hst, if_pos rfl])
    clear hst hst16
    conv => arg 2; whnf
    go_wp2
    refine HK.out _ _ ?_
    exact tail_err HS.out.box rfl HST.out
  | false =>
  have HST : Hid (r = (⟨c.epoch + 1, c.chain, c.stores.take lo ++ x.node :: c.stores.drop lo⟩, 0)) := Lib.hid (by rw [HR.out, hst, if_neg (by decide)])
  have HEP : Hid (0 ≤ c.epoch ∧ c.epoch ≤ 1099511627776) := Lib.hid ⟨HOK.out.lo, HOK.out.hi⟩
  have hlo : lo ≤ c.stores.length := by rw [HLO.out.1]; exact Ms.low_le _ _
  have hxn : Ms.node x.node = true := by
    cases h : Ms.node x.node with
    | true => rfl
    | false => exact absurd (.inr (.inr (.inl h))) HG.out.2
  have hx64 : I64 x.node := by
    unfold Ms.node at hxn
    simp at hxn
    exact ⟨by omega, by omega⟩
  have HD : Hid (Calls Try.prog 61 #[.slice ast c.stores.length cs, .int .i64 (lo : Int), .slice (some ⟨W.heap.size, 0, none⟩) 1 1] (W.alloc (.cells #[.int .i64 x.node] 3)) fun e w' => ∃ a' c', e = .returned (.slice a' (c.stores.length + 1) c') ∧ Box3 w w' b2 b3 b4 c ac cc ast cs x ∧ SwS w (w'.setCell ⟨b2, 2, none⟩ (.slice a' (c.stores.length + 1) c')) B b2 b3 b4 ⟨c.epoch, c.chain, c.stores.take lo ++ x.node :: c.stores.drop lo⟩ ac cc a' c' x) := Lib.hid (by
    have hb := below_alloc1 W (.cells #[.int .i64 x.node] 3)
    refine (insi_any B c.stores.length cs lo W.heap.size ast c.stores x.node _ (HS.out.own.stores.below hb) (Nat.le_trans HS.out.base hb.size) hlo (by have := HHN.out; omega) (heap_alloc_new W _) (fun y hy e => ?_) hx64).mono fun e w' ⟨a', c', h1, h2, h3⟩ => ⟨a', c', h1, (HS.out.store ((Oth.of_below hb).trans h3) h2).1, (HS.out.store ((Oth.of_below hb).trans h3) h2).2⟩
    have hyl : y.block < W.heap.size := by
      rcases HS.out.own.stores.2.1.2 with ⟨h1, _⟩ | ⟨g, cap, cur, h1, _, h3, _⟩
      · rw [hy] at h1; cases h1
      · rw [hy] at h1
        cases h1
        exact (Array.getElem?_eq_some_iff.1 h3).1
    omega)
  clear hst hst16 hxn hx64
  conv => arg 2; whnf
  go_wp2_with fail
  refine HD.out.mono ?_
  rintro e w5 ⟨a5, c5, rfl, hx5, hs5⟩
  have z1 := hx5.cf.stores
  have zf := hx5.f2
  have HT := Lib.hid hs5
  clear hx5 hs5 HD p0 p1 p2 q0 q1 q2 q3 r0 r1 r2 f2 f4
  go_wp2
  refine HK.out _ _ ?_
  exact tail_ok HT.out HEP.out HST.out

set_option maxRecDepth 8000 in
set_option maxHeartbeats 2000000 in
theorem arm_unplug {w W : World} {B b2 b3 b4 : Nat} {c : Cf} {ac ast : Option Addr} {cc cs : Nat} {x : Cm} {pl : Int} {lo : Nat} {hs : Bool} {r : Cf × Int} {K1 : Act → World → Prop} (S : SwS w W B b2 b3 b4 c ac cc ast cs x) (G : StepG c x) (hn : c.stores.length ≤ 1000000) (hk : x.kind = 5) (hpl : pl = c.place x.node) (hlo : lo = Ms.low c.stores x.node) (hhs : hs = Ms.has c.stores x.node) (hr : r = c.step x)
    (hK : ∀ a w', Code.wp Try.prog doTail (bodyPost Try.prog Try.f18 (DoP w r)) a w' → K1 a w') {u0 u1 u5 u6 u11 u12 u13 u14 u15 u16 u17 u18 u19 u20 u21 u22 u23 u24 u25 u26 u27 u28 u29 u30 u31 u32 u33 u34 u35 u36 u37 u38 u39 u40 u41 u42 u43 u44 u45 u46 u47 u48 u49 u50 u51 u52 u53 u54 u55 u56 u57 u58 u59 u60 u61 u62 u64 u65 u66 u67 u68 u69 u70 u71 u72 u73 u74 u75 u76 u77 u78 u79 u80 u81 u82 u83 u84 u85 u86 u87 u88 u89 u90 u91 u92 u93 u94 u95 u96 u97 u98 u99 u100 u101 u102 u103 u104 u105 u106 u107 u108 u109 u110 u111 u112 u113 u114 u115 u116 u117 u118 u119 u120 u121 u122 u123 u124 u125 u126 u127 u128 u129 u130 u131 u132 u133 u134 u135 u136 u137 u138 u139 u140 u141 u142 u143 u144 u145 u146 u147 u148 u149 u150 u151 u152 u153 u154 u155 u156 u157 u158 u159 u160 u161 u162 u163 : Value} :
    Code.wp Try.prog doSwitch (Exit.then K1 (bodyPost Try.prog Try.f18 (DoP w r))) ⟨#[u0, u1, .pointer (some ⟨b2, 0, none⟩), .pointer (some ⟨b3, 0, none⟩), .pointer (some ⟨b4, 0, none⟩), u5, u6, .int .i64 pl, .int .i64 (lo : Nat), .bool hs, .int .i64 0, u11, u12, u13, u14, u15, u16, u17, u18, u19, u20, u21, u22, u23, u24, u25, u26, u27, u28, u29, u30, u31, u32, u33, u34, u35, u36, u37, u38, u39, u40, u41, u42, u43, u44, u45, u46, u47, u48, u49, u50, u51, u52, u53, u54, u55, u56, u57, u58, u59, u60, u61, u62, .int .i64 5, u64, u65, u66, u67, u68, u69, u70, u71, u72, u73, u74, u75, u76, u77, u78, u79, u80, u81, u82, u83, u84, u85, u86, u87, u88, u89, u90, u91, u92, u93, u94, u95, u96, u97, u98, u99, u100, u101, u102, u103, u104, u105, u106, u107, u108, u109, u110, u111, u112, u113, u114, u115, u116, u117, u118, u119, u120, u121, u122, u123, u124, u125, u126, u127, u128, u129, u130, u131, u132, u133, u134, u135, u136, u137, u138, u139, u140, u141, u142, u143, u144, u145, u146, u147, u148, u149, u150, u151, u152, u153, u154, u155, u156, u157, u158, u159, u160, u161, u162, u163], []⟩ W := by
  have HOK := Lib.hid ((Cf.ok_iff c).1 G.1)
  have HK := Lib.hid hK
  have HG := Lib.hid G
  have HKD := Lib.hid hk
  have HPL := Lib.hid hpl
  have HLO := Lib.hid (And.intro hlo hhs)
  have HR := Lib.hid hr
  have HS := Lib.hid S
  have HHN := Lib.hid hn
  have p0 := S.box.cf.epoch
  have p1 := S.box.cf.chain
  have p2 := S.box.cf.stores
  have q0 := S.box.cm.kind
  have q1 := S.box.cm.node
  have q2 := S.box.cm.birth
  have q3 := S.box.cm.epoch
  simp only [Nat.zero_add] at q1 q2 q3
  have r0 := S.box.res.epoch
  have r1 := S.box.res.chain
  have r2 := S.box.res.stores
  have f2 := S.box.f2
  have f4 := S.box.f4
  clear hK G hk hpl hlo hhs hr S hn
  have hst := step_unplug HG.out HKD.out
  have hhas := HLO.out.2
  have hloe := HLO.out.1
  rw [← HLO.out.1, ← HLO.out.2] at hst
  cases hs with
  | false =>
    have HST : Hid (r = (Ms.zero, 23)) := Lib.hid (by rw [HR.out, hst, if_neg (by decide)])
    clear hst hhas hloe
    conv => arg 2; whnf
    go_wp2
    refine HK.out _ _ ?_
    exact tail_err HS.out.box rfl HST.out
  | true =>
  have HST : Hid (r = (⟨c.epoch + 1, c.chain, c.stores.eraseIdx lo⟩, 0)) := Lib.hid (by rw [HR.out, hst, if_pos rfl])
  have HEP : Hid (0 ≤ c.epoch ∧ c.epoch ≤ 1099511627776) := Lib.hid ⟨HOK.out.lo, HOK.out.hi⟩
  have hlt : lo < c.stores.length := by
    unfold Ms.has at hhas
    rw [← hloe] at hhas
    have h9 := hhas.symm
    simp only [Bool.and_eq_true, decide_eq_true_eq] at h9
    exact h9.1
  obtain ⟨g, rfl, hg1, hg2⟩ := own_form HS.out.own.stores.2.1 (by omega)
  have HD : Hid (Calls Try.prog 62 #[.slice (some ⟨g, 0, none⟩) c.stores.length cs, .int .i64 (lo : Int), .int .i64 ((lo : Int) + 1)] W fun e w' => e = .returned (.slice (some ⟨g, 0, none⟩) (c.stores.length - 1) cs) ∧ Box3 w w' b2 b3 b4 c ac cc (some ⟨g, 0, none⟩) cs x ∧ SwS w (w'.setCell ⟨b2, 2, none⟩ (.slice (some ⟨g, 0, none⟩) (c.stores.length - 1) cs)) B b2 b3 b4 ⟨c.epoch, c.chain, c.stores.eraseIdx lo⟩ ac cc (some ⟨g, 0, none⟩) cs x) := Lib.hid (by
    rw [show ((lo : Int) + 1) = ((lo + 1 : Nat) : Int) by omega]
    exact (deli_any B g c.stores.length cs lo (lo + 1) c.stores W HS.out.own.stores HS.out.base hlt rfl (by have := HHN.out; omega)).mono fun e w' ⟨h1, h2, h3⟩ => ⟨h1, (HS.out.store h3 h2).1, (HS.out.store h3 h2).2⟩)
  have hln : c.stores.length ≤ 1000000 := HHN.out
  clear hst hhas hloe hg1 hg2
  conv => arg 2; whnf
  go_wp2_with fail
  refine HD.out.mono ?_
  rintro e w5 ⟨rfl, hx5, hs5⟩
  have z1 := hx5.cf.stores
  have zf := hx5.f2
  have HT := Lib.hid hs5
  clear hx5 hs5 HD p0 p1 p2 q0 q1 q2 q3 r0 r1 r2 f2 f4
  go_wp2
  refine HK.out _ _ ?_
  exact tail_ok HT.out HEP.out HST.out
end Go.Proofs.Ytincllchoflpmaa
