/- MasterNext. -/
import Derived.Test.YtincllchoflpmaaMsT
namespace Go.Proofs.Ytincllchoflpmaa
open Go.RowKit
set_option linter.unusedVariables false
set_option linter.unusedSimpArgs false

theorem mem_in {l : List Mb} {k : Nat} (h : k < l.length) : Ms.mem l (k : Int) = (nth l k, true) := by
  unfold Ms.mem
  rw [if_pos ⟨by omega, by omega⟩]
  rfl
theorem mem_out {l : List Mb} {k : Nat} (h : l.length ≤ k) : Ms.mem l (k : Int) = (mb0, false) := by
  unfold Ms.mem
  rw [if_neg (by omega)]
theorem place_nth {c : Cf} (h : c.Ok) {k : Nat} (hk : k < c.chain.length) : c.place (nth c.chain k).node = (k : Int) := by
  have h1 := rank_mem h k hk
  unfold Cf.rank at h1
  rw [place_at, nth_eq _ hk, h1, if_pos hk]
theorem next_nth {c : Cf} (h : c.Ok) {k : Nat} (hk : k < c.chain.length) : c.next1 (nth c.chain k).node = Ms.mem c.chain ((k + 1 : Nat) : Int) := by
  unfold Cf.next1
  rw [place_nth h hk, if_neg (by omega)]
  rfl
theorem ahead_nth {c : Cf} (h : c.Ok) {k : Nat} (hk : k + 1 < c.chain.length) : c.ahead1 (nth c.chain (k + 1)).node = (nth c.chain k, true) := by
  unfold Cf.ahead1
  rw [place_nth h hk, show ((k + 1 : Nat) : Int) - 1 = (k : Int) by omega, mem_in (by omega)]
theorem mem_last {l : List Mb} {k : Nat} (h : k + 1 = l.length) : Ms.mem l ((l.length : Int) - 1) = (nth l k, true) := by
  rw [← h, show ((k + 1 : Nat) : Int) - 1 = (k : Int) by omega, mem_in (by omega)]
/-- Where the walk along a chain stands: all that there was in V is as it was; two boxes of members. -/
structure NxS (V W : World) (b4 b6 : Nat) (l : List Mb) (k : Nat) : Prop where
  low : Below V.heap.size V W
  m : MbAt W b4 0 (Ms.mem l (k : Int)).1
  t : MbAt W b6 0 (Ms.mem l ((l.length : Int) - 1)).1
  f4 : ∀ j, W.frozen? ⟨b4, j, none⟩ = false
  place : V.heap.size ≤ b4 ∧ b4 < b6 ∧ b6 < W.heap.size
theorem NxS.later {V W W' : World} {b4 b6 k : Nat} {l : List Mb} (h : NxS V W b4 b6 l k) (hb : Below W.heap.size W W') : NxS V W' b4 b6 l k :=
  ⟨h.low.trans (hb.mono h.low.size), h.m.below hb, h.t.below hb, fun j => (hb.frozen (p := ⟨b4, j, none⟩) (by have := h.place; show b4 < _; omega)).trans (h.f4 j), by have := hb.size; have := h.place; omega⟩
theorem NxS.set {V W : World} {b4 b6 k k' : Nat} {l : List Mb} (h : NxS V W b4 b6 l k) {m : Mb} (hm : m = (Ms.mem l (k' : Int)).1) : NxS V (mset W b4 m) b4 b6 l k' := by
  subst hm
  have hp := h.place
  have hne : ∀ {j k : Nat}, (⟨b4, j, none⟩ : Addr) ≠ ⟨b6, k, none⟩ := fun e => by cases e; omega
  have hc : ∀ {j : Nat} {v : Value}, W.cell? ⟨b6, j, none⟩ = some v → (mset W b4 (Ms.mem l (k' : Int)).1).cell? ⟨b6, j, none⟩ = some v := fun hv => by
    unfold mset
    rw [World.cell?_setCell_other _ _ _ _ hne, World.cell?_setCell_other _ _ _ _ hne, World.cell?_setCell_other _ _ _ _ hne]
    exact hv
  have hf : ∀ p, (mset W b4 (Ms.mem l (k' : Int)).1).frozen? p = W.frozen? p := fun p => by unfold mset; simp
  have hz : (mset W b4 (Ms.mem l (k' : Int)).1).heap.size = W.heap.size := by unfold mset; simp
  exact ⟨mset_below h.low hp.1, mset_at h.m, ⟨hc h.t.node, hc h.t.birth, hc h.t.whole⟩, fun j => (hf _).trans (h.f4 j), by rw [hz]; exact hp⟩
set_option maxRecDepth 8000 in
set_option maxHeartbeats 10000000 in
theorem masterNext_walk (a : Option Addr) (n cp : Nat) (l : List Cm) (w : World) (hl : Xs w a n cp l) :
    Calls Try.prog 7 #[.slice a n cp] w fun e w' => e = .returned (.bool true) ∧ Below w.heap.size w w' := by
  have HL := Lib.hid hl
  have hle := hl.le.1
  have HKN := Lib.hid (known_any w)
  clear hl
  go_enter Try.func7, Try.ntmps7
  go_wp2_with fail
  refine HKN.out.mono ?_
  rintro e w1 ⟨rfl, hb⟩
  have HB1 := Lib.hid hb
  clear hb HKN
  by_cases hbig : 1000 < n
  · have t : decide ((1000 : Int) < (n : Int)) = true := decide_eq_true (by omega)
    clear hbig
    go_wp2
    go_ret
    exact ⟨rfl, HB1.out⟩
  have t : decide ((1000 : Int) < (n : Int)) = false := decide_eq_false (by omega)
  clear hbig
  have hru := run_any Ms.zero none none 0 0 a n cp l w1 ⟨Ms.nil _, (AccI.nil _ 0).is⟩ (HL.out.below HB1.out) Ms.zero_ok.few
  obtain ⟨c, hc⟩ : ∃ c, c = Ms.zero.run l := ⟨_, rfl⟩
  have HOK : Hid c.Ok := Lib.hid (by rw [hc]; exact Cf.run_ok Ms.zero_ok l)
  rw [← hc] at hru
  have hru' : Calls Try.prog 23 #[.agg #[.int .i64 0, .slice none 0 0, .slice none 0 0], .slice a n cp] w1 (RetCf w1 c) := hru
  have HRU := Lib.hid hru'
  clear hru hru' hc
  go_wp2_with fail
  refine HRU.out.mono ?_
  rintro e w2 ⟨ac, cc, ast, cs, rfl, hO, hb⟩
  have hc3 := cf_box w2 c ac cc ast cs
  have hb3 := below_alloc1 w2 (.cells #[.int .i64 c.epoch, .slice ac c.chain.length cc, .slice ast c.stores.length cs] 41)
  simp only [cval]
  go_upto_region 6 with fail
  obtain ⟨V, hV⟩ : ∃ V, w2.alloc (.cells #[.int .i64 c.epoch, .slice ac c.chain.length cc, .slice ast c.stores.length cs] 41) = V := ⟨_, rfl⟩
  obtain ⟨b3, hb3e⟩ : ∃ b, b = w2.heap.size := ⟨_, rfl⟩
  rw [hV] at hc3 hb3 ⊢
  rw [← hb3e] at hc3 ⊢
  have HBV : Hid (Below w.heap.size w V) := Lib.hid (HB1.out.trans ((hb.trans ((show Below w2.heap.size w2 V from hb3).mono hb.size)).mono HB1.out.size))
  have HV : Hid (CfAt V b3 c ac cc ast cs ∧ CfR V c ac cc ast cs) := Lib.hid ⟨hc3, (hO.below hb3).r⟩
  have p0 := hc3.epoch
  have p1 := hc3.chain
  have p2 := hc3.stores
  clear hc3 hb3 hV hb3e hO hb HRU HB1 t
  have hhd := head_any c ac ast cc cs V HV.out.2
  obtain ⟨h1, hh1⟩ : ∃ r, r = Ms.mem c.chain 0 := ⟨_, rfl⟩
  rw [← hh1] at hhd
  obtain ⟨m1, t1⟩ := h1
  unfold cval at hhd
  have HHD := Lib.hid hhd
  have HH1 := Lib.hid hh1
  clear hhd hh1
  go_wp2_with fail
  refine HHD.out.mono ?_
  rintro e w3 ⟨rfl, hb⟩
  have hm4 := mb_box w3 m1
  have hb4 := below_alloc1 w3 (.cells #[.int .i64 m1.node, .int .i64 m1.birth, .bool m1.whole] 48)
  have hz4 := World.size_alloc w3 (.cells #[.int .i64 m1.node, .int .i64 m1.birth, .bool m1.whole] 48)
  have hf4 : ∀ j, (w3.alloc (.cells #[.int .i64 m1.node, .int .i64 m1.birth, .bool m1.whole] 48)).frozen? ⟨w3.heap.size, j, none⟩ = false := fun j => (frozen?_alloc_cells _ _ _ _).trans (by simp [World.frozen?])
  simp only [mval]
  go_upto_region 7 with fail
  obtain ⟨W4, hW4⟩ : ∃ W, w3.alloc (.cells #[.int .i64 m1.node, .int .i64 m1.birth, .bool m1.whole] 48) = W := ⟨_, rfl⟩
  obtain ⟨b4, hb4e⟩ : ∃ b, b = w3.heap.size := ⟨_, rfl⟩
  rw [hW4] at hm4 hb4 hz4 hf4 ⊢
  rw [← hb4e] at hm4 hf4 ⊢
  have HBV4 : Hid (Below V.heap.size V W4) := Lib.hid (hb.trans ((show Below w3.heap.size w3 W4 from hb4).mono hb.size))
  have HM4 := Lib.hid (And.intro hm4 (And.intro hf4 (show V.heap.size ≤ b4 ∧ b4 < W4.heap.size by have := hb.size; omega)))
  replace p0 := cell_later HBV4.out p0
  replace p1 := cell_later HBV4.out p1
  replace p2 := cell_later HBV4.out p2
  clear hm4 hb4 hz4 hf4 hW4 hb4e hb HHD
  have htl := tail_any c ac ast cc cs W4 (HV.out.2.below HBV4.out)
  obtain ⟨h1, hh1⟩ : ∃ r, r = Ms.mem c.chain ((c.chain.length : Int) - 1) := ⟨_, rfl⟩
  rw [← hh1] at htl
  obtain ⟨m2, t2⟩ := h1
  unfold cval at htl
  have HTL := Lib.hid htl
  have HH2 := Lib.hid hh1
  clear htl hh1
  go_wp2_with fail
  refine HTL.out.mono ?_
  rintro e w5 ⟨rfl, hb⟩
  have hm6 := mb_box w5 m2
  have hb6 := below_alloc1 w5 (.cells #[.int .i64 m2.node, .int .i64 m2.birth, .bool m2.whole] 48)
  have hz6 := World.size_alloc w5 (.cells #[.int .i64 m2.node, .int .i64 m2.birth, .bool m2.whole] 48)
  simp only [mval]
  go_upto_region 8 with fail
  obtain ⟨W6, hW6⟩ : ∃ W, w5.alloc (.cells #[.int .i64 m2.node, .int .i64 m2.birth, .bool m2.whole] 48) = W := ⟨_, rfl⟩
  obtain ⟨b6, hb6e⟩ : ∃ b, b = w5.heap.size := ⟨_, rfl⟩
  rw [hW6] at hm6 hb6 hz6 ⊢
  rw [← hb6e] at hm6 ⊢
  have hb46 : Below W4.heap.size W4 W6 := hb.trans ((show Below w5.heap.size w5 W6 from hb6).mono hb.size)
  have HS : Hid (NxS V W6 b4 b6 c.chain 0) := Lib.hid (by
    have h1 := hb46.size
    have h2 := hb.size
    have h3 := HM4.out.2.2
    refine ⟨HBV4.out.trans (hb46.mono HBV4.out.size), ?_, ?_, fun j => (hb46.frozen (p := ⟨b4, j, none⟩) HM4.out.2.2.2).trans (HM4.out.2.1 j), by omega⟩
    · have e1 : (Ms.mem c.chain ((0 : Nat) : Int)).1 = m1 := by have := HH1.out; rw [show ((0 : Nat) : Int) = 0 from rfl, ← this]
      rw [e1]; exact HM4.out.1.below hb46
    · rw [← HH2.out]; exact hm6)
  replace p0 := cell_later hb46 p0
  replace p1 := cell_later hb46 p1
  replace p2 := cell_later hb46 p2
  obtain ⟨N, hN⟩ : ∃ N, N = c.chain.length := ⟨_, rfl⟩
  have HN := Lib.hid hN
  have hNle : N ≤ 5 := by rw [hN]; exact HOK.out.len
  have ht1 : t1 = decide ((0 : Int) < (N : Int)) := by
    have h1 := HH1.out
    by_cases h0 : 0 < c.chain.length
    · rw [show (0 : Int) = ((0 : Nat) : Int) from rfl, mem_in h0] at h1
      rw [decide_eq_true (by omega)]
      exact congrArg Prod.snd h1
    · rw [show (0 : Int) = ((0 : Nat) : Int) from rfl, mem_out (by omega)] at h1
      rw [decide_eq_false (by omega)]
      exact congrArg Prod.snd h1
  have ht2 : t2 = t1 := by
    rw [ht1]
    have h1 := HH2.out
    rcases Nat.eq_zero_or_pos c.chain.length with h0 | h0
    · unfold Ms.mem at h1
      rw [if_neg (by omega)] at h1
      rw [decide_eq_false (by omega)]
      exact congrArg Prod.snd h1
    · obtain ⟨k, hk⟩ : ∃ k, k + 1 = c.chain.length := ⟨c.chain.length - 1, by omega⟩
      rw [mem_last hk] at h1
      rw [decide_eq_true (by omega)]
      exact congrArg Prod.snd h1
  subst ht2
  have hne1 : (t2 != t2) = false := by cases t2 <;> rfl
  have hne2 : (t2 == decide (0 < N)) = true := by rw [ht1]; simp
  rw [← hN] at p1
  have HT2 := Lib.hid ht1
  clear hm6 hb6 hz6 hW6 hb6e hb46 hb HTL HH1 HH2 HM4 HBV4 hN ht1
  go_wp2_with fail
  go_loopw [5, 8] (fun i5 i8 wr => ∃ k : Nat, k ≤ N ∧ i8 = .int .i64 k ∧ i5 = .bool (decide ((k : Int) < (N : Int))) ∧ Hid (NxS V wr b4 b6 c.chain k)) (fun _ i8 _ => N - (intOf i8).toNat)
  case atStart => exact ⟨0, Nat.zero_le _, rfl, by rw [HT2.out]; rfl, HS⟩
  case round =>
    clear p0 p1 p2 hne1 hne2 HS HT2
    obtain ⟨k, hk, rfl, rfl, hS⟩ := hrel
    have hcf := HV.out.1.below hS.out.low
    have p0 := hcf.epoch
    have p1 := hcf.chain
    have p2 := hcf.stores
    rw [← HN.out] at p1
    clear hcf
    by_cases hlt : k < N
    case neg =>
      obtain rfl : k = N := by omega
      have t1 : decide ((k : Int) < (k : Int)) = false := decide_eq_false (by omega)
      rw [t1]
      have HBE := Lib.hid (HBV.out.trans (hS.out.low.mono HBV.out.size))
      clear hS
      go_wp2
      go_ret
      exact ⟨rfl, HBE.out⟩
    have t1 : decide ((k : Int) < (N : Int)) = true := decide_eq_true (by omega)
    rw [t1]
    obtain ⟨b, off, rfl, hat⟩ := (HV.out.2.below hS.out.low).chain.get (i := k) (by rw [← HN.out]; exact hlt)
    obtain ⟨x, hx⟩ : ∃ x, x = nth c.chain k := ⟨_, rfl⟩
    have hm := hS.out.m
    rw [mem_in (by rw [← HN.out]; exact hlt)] at hm
    have hm' : MbAt wr b4 0 x := by rw [hx]; exact hm
    rw [← hx] at hat
    have HP : Hid (c.place x.node = (k : Int)) := Lib.hid (by rw [hx]; exact place_nth HOK.out (by rw [← HN.out]; exact hlt))
    have HNX : Hid (c.next1 x.node = Ms.mem c.chain ((k + 1 : Nat) : Int)) := Lib.hid (by rw [hx]; exact next_nth HOK.out (by rw [← HN.out]; exact hlt))
    have HX := Lib.hid hx
    clear hm hx
    have u1 := hat.node
    have u2 := hat.birth
    have u3 := hat.whole
    have v1 := hm'.node
    have v2 := hm'.birth
    have v3 := hm'.whole
    simp only [Nat.zero_add] at v2 v3
    have i1 : (0 : Int) ≤ (k : Int) := by omega
    have i2 : (k : Int) < (N : Int) := by omega
    have i3 : decide ((N : Int) ≤ (k : Int)) = false := decide_eq_false (by omega)
    have i4 : decide (N ≤ k) = false := decide_eq_false (by omega)
    have hgu : ∀ (x y : Operand) (xs ys : Array Value) (w : World), (eqGuard .neq 48 x y (.agg xs) (.agg ys)).run Try.prog w = .ok () w := fun x y xs ys w => run_eqGuard_agg w .neq 48 x y xs ys mb_guard
    have hne : ∀ w : World, (binOp .neq 48 (.agg #[.int .i64 x.node, .int .i64 x.birth, .bool x.whole]) (.agg #[.int .i64 x.node, .int .i64 x.birth, .bool x.whole])).run Try.prog w = .ok (.bool false) w := fun w => by
      rw [run_neq_struct, mb_equal x x]
      simp [Result.andThen]
    have hcp : ∀ Z : BW wr, Calls Try.prog 20 #[.agg #[.int .i64 c.epoch, .slice (some ⟨b, off, none⟩) N cc, .slice ast c.stores.length cs], .int .i64 x.node] Z.w fun e w' => e = .returned (.int .i64 (k : Int)) ∧ Below Z.w.heap.size Z.w w' := fun Z => by
      rw [← HP.out, HN.out]
      exact place_any c (some ⟨b, off, none⟩) ast cc cs x.node Z.w ((HV.out.2.below hS.out.low).below Z.b)
    have HCP := Lib.hid hcp
    have hkk : ((k : Int) != (k : Int)) = false := by simp
    clear hcp hat hm'
    go_upto_region 12 with fail
    refine wp_region_class (w0 := wr) (by kernel_rfl) (by kernel_rfl) (Below.refl _ _) ?_
    have l0 := BW.cell p0
    have l1 := BW.cell p1
    have l2 := BW.cell p2
    have l3 := BW.cell u1
    have l4 := BW.cell u2
    have l5 := BW.cell u3
    have l6 := BW.cell v1
    have l7 := BW.cell v2
    have l8 := BW.cell v3
    repeat (first | go_big_quiet_step ((go_at_call 20; exact calls_class (HCP.out _))))
    refine wpQuiet_nil ?_
    intro w7 hb7; replace hb7 := BW.of hb7
    have HS7 := Lib.hid (hS.out.later hb7)
    replace p0 := cell_later hb7 p0
    replace p1 := cell_later hb7 p1
    replace p2 := cell_later hb7 p2
    replace v1 := cell_later hb7 v1
    replace v2 := cell_later hb7 v2
    replace v3 := cell_later hb7 v3
    clear l0 l1 l2 l3 l4 l5 l6 l7 l8 hb7 hS hgu HCP HP u1 u2 u3
    have hnx := next_any c (some ⟨b, off, none⟩) ast cc cs x.node w7 (HV.out.2.below HS7.out.low)
    rw [HNX.out] at hnx
    obtain ⟨r, hr⟩ : ∃ r, r = Ms.mem c.chain ((k + 1 : Nat) : Int) := ⟨_, rfl⟩
    have HR := Lib.hid hr
    rw [← hr] at hnx
    obtain ⟨y, more⟩ := r
    unfold cval at hnx
    rw [← HN.out] at hnx
    have HNX2 := Lib.hid hnx
    clear hnx hr HNX hkk i1 i2 i3 i4 t1
    go_wp2_with fail
    refine HNX2.out.mono ?_
    rintro e w8 ⟨rfl, hb⟩
    have hm9 := mb_box w8 y
    have hb9 := below_alloc1 w8 (.cells #[.int .i64 y.node, .int .i64 y.birth, .bool y.whole] 48)
    simp only [mval]
    go_upto_region 15 with fail
    obtain ⟨W9, hW9⟩ : ∃ W, w8.alloc (.cells #[.int .i64 y.node, .int .i64 y.birth, .bool y.whole] 48) = W := ⟨_, rfl⟩
    obtain ⟨b9, hb9e⟩ : ∃ b, b = w8.heap.size := ⟨_, rfl⟩
    rw [hW9] at hm9 hb9 ⊢
    rw [← hb9e] at hm9 ⊢
    have hb79 : Below w7.heap.size w7 W9 := hb.trans ((show Below w8.heap.size w8 W9 from hb9).mono hb.size)
    have HS9 := Lib.hid (HS7.out.later hb79)
    replace p0 := cell_later hb79 p0
    replace p1 := cell_later hb79 p1
    replace p2 := cell_later hb79 p2
    replace v1 := cell_later hb79 v1
    replace v2 := cell_later hb79 v2
    replace v3 := cell_later hb79 v3
    have z1 := hm9.node
    have z2 := hm9.birth
    have z3 := hm9.whole
    simp only [Nat.zero_add] at z2 z3
    have h4 := HS9.out.f4
    clear hm9 hb9 hW9 hb9e hb79 hb HS7 HNX2
    by_cases hmo : k + 1 < N
    · have hr2 : (y, more) = (nth c.chain (k + 1), true) := by rw [HR.out, mem_in (by rw [← HN.out]; exact hmo)]
      have hy : y = nth c.chain (k + 1) := congrArg Prod.fst hr2
      obtain rfl : more = true := congrArg Prod.snd hr2
      clear hr2
      have hah := ahead_any c (some ⟨b, off, none⟩) ast cc cs y.node W9 (HV.out.2.below HS9.out.low)
      rw [show c.ahead1 y.node = (x, true) by rw [hy, HX.out]; exact ahead_nth HOK.out (by rw [← HN.out]; exact hmo)] at hah
      unfold cval at hah
      rw [← HN.out] at hah
      have HAH := Lib.hid hah
      have HY := Lib.hid hy
      clear hah hy
      go_wp2_with fail
      refine HAH.out.mono ?_
      rintro e w10 ⟨rfl, hb⟩
      have hm11 := mb_box w10 x
      have hb11 := below_alloc1 w10 (.cells #[.int .i64 x.node, .int .i64 x.birth, .bool x.whole] 48)
      simp only [mval]
      go_upto_region 17 with fail
      obtain ⟨W11, hW11⟩ : ∃ W, w10.alloc (.cells #[.int .i64 x.node, .int .i64 x.birth, .bool x.whole] 48) = W := ⟨_, rfl⟩
      obtain ⟨b11, hb11e⟩ : ∃ b, b = w10.heap.size := ⟨_, rfl⟩
      rw [hW11] at hm11 hb11 ⊢
      rw [← hb11e] at hm11 ⊢
      have hb911 : Below W9.heap.size W9 W11 := hb.trans ((show Below w10.heap.size w10 W11 from hb11).mono hb.size)
      have hs11 := HS9.out.later hb911
      have HS12 : Hid (NxS V (mset W11 b4 y) b4 b6 c.chain (k + 1)) := Lib.hid (hs11.set (by rw [mem_in (by rw [← HN.out]; exact hmo)]; exact HY.out))
      unfold mset at HS12
      replace p0 := cell_later hb911 p0
      replace p1 := cell_later hb911 p1
      replace p2 := cell_later hb911 p2
      replace v1 := cell_later hb911 v1
      replace v2 := cell_later hb911 v2
      replace v3 := cell_later hb911 v3
      replace z1 := cell_later hb911 z1
      replace z2 := cell_later hb911 z2
      replace z3 := cell_later hb911 z3
      replace h4 := hs11.f4
      have x1 := hm11.node
      have x2 := hm11.birth
      have x3 := hm11.whole
      simp only [Nat.zero_add] at x2 x3
      have hgu : ∀ (x y : Operand) (xs ys : Array Value) (w : World), (eqGuard .neq 48 x y (.agg xs) (.agg ys)).run Try.prog w = .ok () w := fun x y xs ys w => run_eqGuard_agg w .neq 48 x y xs ys mb_guard
      have hlt2 : decide (((k + 1 : Nat) : Int) < (N : Int)) = true := decide_eq_true (by omega)
      clear hm11 hb11 hW11 hb11e hb911 hb hs11 HAH HS9
      go_wp2_with fail
      go_roundw
      case rel => exact ⟨k + 1, by omega, by go_num, by rw [hlt2], HS12⟩
      case measure => simp [intOf]; omega
    · have hr2 : (y, more) = (mb0, false) := by rw [HR.out, mem_out (by rw [← HN.out]; omega)]
      have hy : y = mb0 := congrArg Prod.fst hr2
      obtain rfl : more = false := congrArg Prod.snd hr2
      clear hr2
      have ht := HS9.out.t
      have hkn : k + 1 = N := by omega
      rw [mem_last (k := k) (by rw [← HN.out]; exact hkn), ← HX.out] at ht
      have x1 := ht.node
      have x2 := ht.birth
      have x3 := ht.whole
      simp only [Nat.zero_add] at x2 x3
      have HS12 : Hid (NxS V (mset W9 b4 y) b4 b6 c.chain (k + 1)) := Lib.hid (HS9.out.set (by rw [mem_out (by rw [← HN.out]; omega)]; exact hy))
      unfold mset at HS12
      have hgu : ∀ (x y : Operand) (xs ys : Array Value) (w : World), (eqGuard .neq 48 x y (.agg xs) (.agg ys)).run Try.prog w = .ok () w := fun x y xs ys w => run_eqGuard_agg w .neq 48 x y xs ys mb_guard
      have hlt2 : decide (((k + 1 : Nat) : Int) < (N : Int)) = false := decide_eq_false (by omega)
      clear ht HS9 hy hkn
      go_wp2_with fail
      go_roundw
      case rel => exact ⟨k + 1, by omega, by go_num, by rw [hlt2], HS12⟩
      case measure => simp [intOf]; omega
end Go.Proofs.Ytincllchoflpmaa
