/- master.Place, master.Check. -/
import Derived.Test.YtincllchoflpmaaMsA
import Derived.Deep.DeepCutAuto
import Derived.Test.YtincllchoflpmaaReads3
namespace Go.Proofs.Ytincllchoflpmaa
open Go.RowKit
set_option linter.unusedVariables false

theorem Ms.chain_snoc : ∀ (pre l : List Mb) (m : Mb), Ms.chainB pre (l ++ [m]) = (Ms.chainB pre l && (Ms.node m.node && Ms.born m.birth && !((pre ++ l).any (fun o => decide (o.node = m.node)))))
  | pre, [], m => by simp [Ms.chainB]
  | pre, x :: l, m => by
    rw [List.cons_append, Ms.chainB, Ms.chainB, Ms.chain_snoc (pre ++ [x]) l m, List.append_assoc, List.singleton_append]
    simp only [Bool.and_assoc]
def Ms.last (p : Option Int) (l : List Int) : Option Int := match l.getLast? with | some x => some x | none => p
theorem Ms.storesB_cons (p : Option Int) (n : Int) (l : List Int) : Ms.storesB p (n :: l) = (Ms.node n && (match p with | none => true | some q => decide (q < n)) && Ms.storesB (some n) l) := by cases p <;> rfl
theorem Ms.stores_snoc : ∀ (p : Option Int) (l : List Int) (n : Int), Ms.storesB p (l ++ [n]) = (Ms.storesB p l && (Ms.node n && (match Ms.last p l with | none => true | some q => decide (q < n))))
  | p, [], n => by rw [List.nil_append, Ms.storesB_cons]; simp [Ms.storesB, Ms.last]
  | p, x :: l, n => by
    rw [List.cons_append, Ms.storesB_cons, Ms.storesB_cons, Ms.stores_snoc (some x) l n, Bool.and_assoc]
    have h : Ms.last p (x :: l) = Ms.last (some x) l := by
      unfold Ms.last
      cases l with
      | nil => rfl
      | cons y l => rw [List.getLast?_cons_cons, List.getLast?_cons]
    rw [h]
    simp only [Bool.and_assoc]
/-- A configuration as a value. -/
def cval (c : Cf) (ac : Option Addr) (cc : Nat) (ast : Option Addr) (cs : Nat) : Value := .agg #[.int .i64 c.epoch, .slice ac c.chain.length cc, .slice ast c.stores.length cs]
/-- A configuration that is read. -/
structure CfR (w : World) (c : Cf) (ac : Option Addr) (cc : Nat) (ast : Option Addr) (cs : Nat) : Prop where
  chain : Ms w ac c.chain.length cc c.chain
  stores : Is w ast c.stores.length cs c.stores
theorem CfR.below {w w' : World} {c : Cf} {ac ast : Option Addr} {cc cs : Nat} (h : CfR w c ac cc ast cs) (hb : Below w.heap.size w w') : CfR w' c ac cc ast cs := ⟨h.chain.below hb, h.stores.below hb⟩
/-- A configuration in cells. -/
structure CfAt (w : World) (b : Nat) (c : Cf) (ac : Option Addr) (cc : Nat) (ast : Option Addr) (cs : Nat) : Prop where
  epoch : w.cell? ⟨b, 0, none⟩ = some (.int .i64 c.epoch)
  chain : w.cell? ⟨b, 1, none⟩ = some (.slice ac c.chain.length cc)
  stores : w.cell? ⟨b, 2, none⟩ = some (.slice ast c.stores.length cs)
theorem CfAt.below {w w' : World} {b : Nat} {c : Cf} {ac ast : Option Addr} {cc cs : Nat} (h : CfAt w b c ac cc ast cs) (hb : Below w.heap.size w w') : CfAt w' b c ac cc ast cs := ⟨cell_later hb h.epoch, cell_later hb h.chain, cell_later hb h.stores⟩
theorem cf_box (w : World) (c : Cf) (ac : Option Addr) (cc : Nat) (ast : Option Addr) (cs : Nat) : CfAt (w.alloc (.cells #[.int .i64 c.epoch, .slice ac c.chain.length cc, .slice ast c.stores.length cs] 41)) w.heap.size c ac cc ast cs := by
  have h := heap_alloc_new w (.cells #[.int .i64 c.epoch, .slice ac c.chain.length cc, .slice ast c.stores.length cs] 41)
  exact ⟨(cell_of_row _ _ 0 _ _ _ h).trans rfl, (cell_of_row _ _ 1 _ _ _ h).trans rfl, (cell_of_row _ _ 2 _ _ _ h).trans rfl⟩
/-- Where a node stands, or -1. -/
def Cf.place (c : Cf) (x : Int) : Int := idxM (fun m => decide (m.node = x)) c.chain
theorem place_any (c : Cf) (ac ast : Option Addr) (cc cs : Nat) (x : Int) (w : World) (h : CfR w c ac cc ast cs) :
    Calls Try.prog 20 #[cval c ac cc ast cs, .int .i64 x] w fun e w' => e = .returned (.int .i64 (c.place x)) ∧ Below w.heap.size w w' := by
  have hmf : ∀ (fn : Fn) (first cap : Array Value) (w : World), (Instr.makeFunc fn first cap).run Try.prog w = .ok (.func fn first cap) w := fun _ _ _ _ => rfl
  have hc := cf_box w c ac cc ast cs
  have hb0 := below_alloc1 w (.cells #[.int .i64 c.epoch, .slice ac c.chain.length cc, .slice ast c.stores.length cs] 41)
  obtain ⟨w1, hw1⟩ : ∃ w1, w.alloc (.cells #[.int .i64 c.epoch, .slice ac c.chain.length cc, .slice ast c.stores.length cs] 41) = w1 := ⟨_, rfl⟩
  have hz := World.size_alloc w (.cells #[.int .i64 c.epoch, .slice ac c.chain.length cc, .slice ast c.stores.length cs] 41)
  rw [hw1] at hc hb0 hz
  have hb1 := below_alloc1 w1 (.cells #[.int .i64 x] 3)
  have hx : (w1.alloc (.cells #[.int .i64 x] 3)).cell? ⟨w1.heap.size, 0, none⟩ = some (.int .i64 x) := (cell_of_row _ _ 0 _ _ _ (heap_alloc_new w1 (.cells #[.int .i64 x] 3))).trans rfl
  obtain ⟨w2, hw2⟩ : ∃ w2, w1.alloc (.cells #[.int .i64 x] 3) = w2 := ⟨_, rfl⟩
  rw [hw2] at hb1 hx
  have hc1 := (hc.below hb1).chain
  have eg := enters_of Try.func66 (by kernel_rfl) rfl
  have hb2 : Below w.heap.size w w2 := hb0.trans ((show Below w1.heap.size w1 w2 from hb1).mono hb0.size)
  have HI := Lib.hid (idx_any 66 #[.pointer (some ⟨w1.heap.size, 0, none⟩)] ac c.chain.length cc c.chain (fun m => decide (m.node = x)) w2 eg (h.chain.below hb2) (fun V m => place1_any m w1.heap.size x V.w (cell_later V.b hx)))
  have HB := Lib.hid hb2
  obtain ⟨g, hg⟩ : ∃ g, g = w1.heap.size := ⟨_, rfl⟩
  clear h hc hb0 hb1 hx hb2
  unfold cval
  go_enter Try.func20, Try.ntmps20
  go_upto_region 1 with fail
  try rw [hw1]
  try rw [hw2]
  try rw [hz]
  rw [hz] at HI
  clear hw1 hw2 hg hz
  go_wp2_with fail
  refine HI.out.mono ?_
  rintro e w' ⟨rfl, hb⟩
  have HB2 := Lib.hid (HB.out.trans (hb.mono HB.out.size))
  clear hb HI
  go_wp2
  go_ret
  exact ⟨rfl, HB2.out⟩
theorem infoMb : (Try.prog.info? 48).map (fun i => (i.zero, i.size, i.bytes)) = some (some (.agg #[.int .i64 0, .int .i64 0, .bool false]), 3, 24) := by kernel_rfl
/-- What Check finds ahead of its loops. -/
def Cf.bad0 (c : Cf) : Bool := !(decide (0 ≤ c.epoch) && decide (c.epoch ≤ 1099511627776) && decide (c.chain.length ≤ 5) && (c.chain.isEmpty || Ms.whole c.chain))
theorem Cf.ok_bad (c : Cf) : c.ok = !(c.bad0 || !Ms.chainB [] c.chain || !Ms.storesB none c.stores) := by
  unfold Cf.ok Cf.bad0
  simp
/-- What Check tells. -/
def Cf.chk (c : Cf) : Int := if c.ok = true then 0 else 1
set_option maxRecDepth 8000 in
set_option maxHeartbeats 4000000 in
theorem check_any (c : Cf) (ac ast : Option Addr) (cc cs : Nat) (w : World) (h : CfR w c ac cc ast cs) :
    Calls Try.prog 19 #[cval c ac cc ast cs] w fun e w' => e = .returned (.int .i64 c.chk) ∧ Below w.heap.size w w' := by
  have hmf : ∀ (fn : Fn) (first cap : Array Value) (w : World), (Instr.makeFunc fn first cap).run Try.prog w = .ok (.func fn first cap) w := fun _ _ _ _ => rfl
  have hc := cf_box w c ac cc ast cs
  have hb0 := below_alloc1 w (.cells #[.int .i64 c.epoch, .slice ac c.chain.length cc, .slice ast c.stores.length cs] 41)
  have hle := h.chain.le.1
  have hle2 := h.stores.le.1
  have HR := Lib.hid (h.below hb0)
  have HOK := Lib.hid c.ok_bad
  unfold cval
  go_enter Try.func19, Try.ntmps19
  go_upto_region 1 with fail
  obtain ⟨w1, hw1⟩ : ∃ w1, w.alloc (.cells #[.int .i64 c.epoch, .slice ac c.chain.length cc, .slice ast c.stores.length cs] 41) = w1 := ⟨_, rfl⟩
  obtain ⟨g, hg⟩ : ∃ g, g = w.heap.size := ⟨_, rfl⟩
  rw [hw1] at hc hb0 HR ⊢
  rw [← hg] at hc ⊢
  have HC := Lib.hid hc
  have HB := Lib.hid hb0
  clear hw1 hg hb0 h
  obtain ⟨n, hn⟩ : ∃ n, n = c.chain.length := ⟨_, rfl⟩
  have c0 := hc.epoch
  have c1 := hc.chain
  have c2 := hc.stores
  rw [← hn] at c1 hle
  obtain ⟨ns, hns⟩ : ∃ ns, ns = c.stores.length := ⟨_, rfl⟩
  rw [← hns] at c2 hle2
  have HN := Lib.hid hn
  have HNS := Lib.hid hns
  obtain ⟨ep, hep⟩ : ∃ ep, ep = c.epoch := ⟨_, rfl⟩
  rw [← hep] at c0
  have HEP := Lib.hid hep
  clear hc hn hns hep
  obtain ⟨b0, hb0⟩ : ∃ b0, b0 = c.bad0 := ⟨_, rfl⟩
  have HB0 := Lib.hid hb0
  clear hb0
  have HBE : Hid (b0 = !(decide (0 ≤ ep) && decide (ep ≤ 1099511627776) && decide (n ≤ 5) && (decide (n = 0) || Ms.whole c.chain))) := Lib.hid (by
    rw [HB0.out, HEP.out, HN.out]
    unfold Cf.bad0
    cases c.chain <;> simp)
  go_cut [3] (fun t wx => t = .bool b0 ∧ Hid (Below w1.heap.size w1 wx))
  case first =>
    have hbe := HBE.out
    by_cases h1 : ep < 0
    · have t1 : decide (ep < (0 : Int)) = true := decide_eq_true h1
      have hv : b0 = true := by rw [hbe, decide_eq_false (by omega)]; rfl
      clear hbe
      go_wp2
      go_meet
      exact ⟨by rw [hv], Lib.hid (Below.refl _ _)⟩
    have t1 : decide (ep < (0 : Int)) = false := decide_eq_false h1
    by_cases h2 : 1099511627776 < ep
    · have t2 : decide ((1099511627776 : Int) < ep) = true := decide_eq_true h2
      have hv : b0 = true := by rw [hbe, decide_eq_true (by omega : 0 ≤ ep), decide_eq_false (by omega)]; rfl
      clear hbe
      go_wp2
      go_meet
      exact ⟨by rw [hv], Lib.hid (Below.refl _ _)⟩
    have t2 : decide ((1099511627776 : Int) < ep) = false := decide_eq_false h2
    by_cases h3 : 5 < n
    · have t3 : decide ((5 : Int) < (n : Int)) = true := decide_eq_true (by omega)
      have hv : b0 = true := by rw [hbe, decide_eq_true (by omega : 0 ≤ ep), decide_eq_true (by omega : ep ≤ 1099511627776), decide_eq_false (by omega : ¬ n ≤ 5)]; rfl
      clear hbe
      go_wp2
      go_meet
      exact ⟨by rw [hv], Lib.hid (Below.refl _ _)⟩
    have t3 : decide ((5 : Int) < (n : Int)) = false := decide_eq_false (by omega)
    by_cases h4 : n = 0
    · have t4 : decide ((0 : Int) < (n : Int)) = false := decide_eq_false (by omega)
      have hv : b0 = false := by rw [hbe, decide_eq_true (by omega : 0 ≤ ep), decide_eq_true (by omega : ep ≤ 1099511627776), decide_eq_true (by omega : n ≤ 5), decide_eq_true h4]; rfl
      clear hbe
      have h4 := Lib.hid h4
      go_wp2
      go_meet
      exact ⟨by rw [hv], Lib.hid (Below.refl _ _)⟩
    have t4 : decide ((0 : Int) < (n : Int)) = true := decide_eq_true (by omega)
    obtain ⟨wb, hwb⟩ : ∃ wb, wb = Ms.whole c.chain := ⟨_, rfl⟩
    have hv : b0 = !wb := by rw [hbe, decide_eq_true (by omega : 0 ≤ ep), decide_eq_true (by omega : ep ≤ 1099511627776), decide_eq_true (by omega : n ≤ 5), decide_eq_false h4, hwb]; rfl
    have HW := Lib.hid (whole_any ac n cc c.chain w1 (by have h9 := HR.out.chain; rw [← HN.out] at h9; exact h9))
    rw [← hwb] at HW
    clear hbe hwb
    go_wp2_with fail
    refine HW.out.mono ?_
    rintro e w2 ⟨rfl, hb2⟩
    have HB2 := Lib.hid hb2
    clear hb2 HW
    cases wb with
    | true =>
      go_wp2
      go_meet
      exact ⟨by rw [hv]; rfl, HB2⟩
    | false =>
      go_wp2
      go_meet
      exact ⟨by rw [hv]; rfl, HB2⟩
  case rest =>
    obtain ⟨rfl, hbx⟩ := hcut
    obtain ⟨W, hW⟩ : ∃ W, W = wc := ⟨_, rfl⟩
    subst hW
    replace c1 := cell_later hbx.out c1
    replace c2 := cell_later hbx.out c2
    have HRW := Lib.hid (HR.out.below hbx.out)
    have HBW := Lib.hid (HB.out.trans (hbx.out.mono HB.out.size))
    have hb5 : b0 = false → n ≤ 5 := fun h => by
      rw [HBE.out] at h
      simp at h
      omega
    have HB5 := Lib.hid hb5
    clear c0 hb5 hbx HB HR
    go_wp2_with fail
    go_loopw [3, 4, 5, 37] (fun v s4 s5 i wr => ∃ k : Nat, k ≤ n ∧ i = .int .i64 k ∧ v = .bool (b0 || !Ms.chainB [] (c.chain.take k)) ∧ Hid (Below W.heap.size W wr)) (fun _ _ _ i _ => n - (intOf i).toNat)
    case atStart => exact ⟨0, Nat.zero_le _, rfl, by simp [Ms.chainB], Lib.hid (Below.refl _ _)⟩
    case round =>
      obtain ⟨k, hk, rfl, rfl, hb⟩ := hrel
      by_cases hlt : k < n
      · obtain ⟨b, off, rfl, hat⟩ := (HRW.out.below hb.out).chain.get (i := k) (by rw [← HN.out]; exact hlt)
        have p1 := hat.node
        have p2 := hat.birth
        have p3 := hat.whole
        have q1 := cell_later hb.out c1
        have hNl := HN.out
        have HSN : Hid ((b0 || !Ms.chainB [] (c.chain.take (k + 1))) = ((b0 || !Ms.chainB [] (c.chain.take k)) || !(Ms.node (nth c.chain k).node && Ms.born (nth c.chain k).birth && !((c.chain.take k).any (fun o => decide (o.node = (nth c.chain k).node)))))) := Lib.hid (by
          rw [List.take_succ_eq_append_getElem (by omega), Ms.chain_snoc, ← nth_eq _ (by omega), List.nil_append, Bool.not_and, Bool.or_assoc])
        have HMK := Lib.hid ((HRW.out.below hb.out).chain.front (k := k) (by rw [← HN.out]; exact hk))
        obtain ⟨m, hm⟩ : ∃ m, m = nth c.chain k := ⟨_, rfl⟩
        rw [← hm] at p1 p2 p3 HSN
        obtain ⟨l, hl⟩ : ∃ l, l = c.chain.take k := ⟨_, rfl⟩
        rw [← hl] at HMK
        have HVB : Hid ((b0 || !Ms.chainB [] (c.chain.take k)) = false → b0 = false) := Lib.hid fun h => by simp at h; exact h.1
        obtain ⟨vb, hvb⟩ : ∃ vb, vb = (b0 || !Ms.chainB [] (c.chain.take k)) := ⟨_, rfl⟩
        rw [← hvb] at HSN HVB ⊢
        rw [← hl] at HSN
        have hz := World.size_alloc wr (.cells #[.int .i64 m.node, .int .i64 m.birth, .bool m.whole] 48)
        have hbz := below_alloc1 wr (.cells #[.int .i64 m.node, .int .i64 m.birth, .bool m.whole] 48)
        have hmb := mb_box wr m
        have HB2 := Lib.hid (hb.out.trans (hbz.mono hb.out.size))
        clear hat hNl hm hl hvb
        cases vb with
        | true =>
          clear hmb hbz hz HVB
          go_wp2
          go_roundw
          case rel => exact ⟨k + 1, by omega, by go_num, by rw [HSN.out]; rfl, HB2⟩
          case measure => simp [intOf]; omega
        | false =>
          have hn5 : n ≤ 5 := HB5.out (HVB.out rfl)
          obtain ⟨i0, hi0, _, hz0, _⟩ := info_parts infoMb
          have hcc : k ≤ cc := by have := HRW.out.chain.2.1; have := HN.out; omega
          have hsl : ∀ W, (Instr.slice 38 (.slice (some ⟨b, off, none⟩) n cc) none (some (.int .i64 (k : Int))) none).run Try.prog W = .ok (.slice (some ⟨b, off, none⟩) k cc) W := fun W => run_slice_h Try.underlying38 hi0 hz0 _ n cc rfl hcc W
          clear hi0 hz0
          go_upto_region 5 with fail
          obtain ⟨W5, hW5⟩ : ∃ W5, wr.alloc (.cells #[.int .i64 m.node, .int .i64 m.birth, .bool m.whole] 48) = W5 := ⟨_, rfl⟩
          obtain ⟨bm, hbm⟩ : ∃ bm, bm = wr.heap.size := ⟨_, rfl⟩
          rw [hW5] at hmb hbz HB2 ⊢
          rw [← hbm] at hmb ⊢
          replace q1 := cell_later hbz q1
          have r1 := hmb.node
          have r2 := hmb.birth
          simp only [Nat.zero_add] at r2
          have eg := enters_of Try.func64 (by kernel_rfl) rfl
          obtain ⟨t3, ht3⟩ : ∃ t3, t3 = l.any (fun o => decide (o.node = m.node)) := ⟨_, rfl⟩
          have HCON : Hid (Calls Try.prog 63 #[.slice (some ⟨b, off, none⟩) k cc, .func (.func 64) #[] #[.pointer (some ⟨bm, 0, none⟩)]] W5 fun e w' => e = .returned (.bool t3) ∧ Below W5.heap.size W5 w') := Lib.hid (by
            rw [ht3]
            exact con_any _ _ _ k cc l _ W5 eg (HMK.out.below hbz) (fun V o => check1_any o m bm V.w (hmb.below V.b)))
          obtain ⟨t1, ht1⟩ : ∃ t1, t1 = Ms.node m.node := ⟨_, rfl⟩
          obtain ⟨t2, ht2⟩ : ∃ t2, t2 = Ms.born m.birth := ⟨_, rfl⟩
          have HNO : Hid (Calls Try.prog 55 #[.int .i64 m.node] W5 fun e w' => e = .returned (.bool t1) ∧ w' = W5) := Lib.hid (by rw [ht1]; exact node_any _ _)
          have HBO : Hid (Calls Try.prog 56 #[.int .i64 m.birth] W5 fun e w' => e = .returned (.bool t2) ∧ w' = W5) := Lib.hid (by rw [ht2]; exact born_any _ _)
          rw [← ht1, ← ht2, ← ht3] at HSN
          clear hW5 hbm hmb hbz hz ht1 ht2 ht3 HMK HVB
          go_wp2_with fail
          refine HNO.out.mono ?_
          rintro e w' ⟨rfl, rfl⟩
          clear HNO
          cases t1 with
          | false =>
            go_wp2
            go_roundw
            case rel => exact ⟨k + 1, by omega, by go_num, by rw [HSN.out]; rfl, HB2⟩
            case measure => simp [intOf]; omega
          | true =>
            go_wp2_with fail
            refine HBO.out.mono ?_
            rintro e w' ⟨rfl, rfl⟩
            clear HBO
            cases t2 with
            | false =>
              go_wp2
              go_roundw
              case rel => exact ⟨k + 1, by omega, by go_num, by rw [HSN.out]; rfl, HB2⟩
              case measure => simp [intOf]; omega
            | true =>
              go_wp2_with fail
              refine HCON.out.mono ?_
              rintro e w6 ⟨rfl, hb6⟩
              have HB6 := Lib.hid (HB2.out.trans (hb6.mono HB2.out.size))
              clear hb6 HCON
              cases t3 with
              | false =>
                go_wp2
                go_roundw
                case rel => exact ⟨k + 1, by omega, by go_num, by rw [HSN.out]; rfl, HB6⟩
                case measure => simp [intOf]; omega
              | true =>
                go_wp2
                go_roundw
                case rel => exact ⟨k + 1, by omega, by go_num, by rw [HSN.out]; rfl, HB6⟩
                case measure => simp [intOf]; omega
      · obtain rfl : k = n := by omega
        have HCK : Hid (Ms.chainB [] (c.chain.take k) = Ms.chainB [] c.chain) := Lib.hid (by rw [List.take_of_length_le (by have := HN.out; omega)])
        rw [HCK.out]
        obtain ⟨b1, hb1⟩ : ∃ b1, b1 = (b0 || !Ms.chainB [] c.chain) := ⟨_, rfl⟩
        rw [← hb1]
        have HB1 := Lib.hid hb1
        have q2 := cell_later hb.out c2
        have HRV := Lib.hid (HRW.out.below hb.out).stores
        have HBV := Lib.hid (HBW.out.trans (hb.out.mono HBW.out.size))
        obtain ⟨V, hV⟩ : ∃ V, V = wr := ⟨_, rfl⟩
        subst hV
        clear hb1 hb HCK HRW c1 c2
        go_wp2_with fail
        go_loopw [3, 6, 7, 68] (fun v s6 s7 i wr => ∃ k : Nat, k ≤ ns ∧ i = .int .i64 k ∧ v = .bool (b1 || !Ms.storesB none (c.stores.take k)) ∧ Hid (Below V.heap.size V wr)) (fun _ _ _ i _ => ns - (intOf i).toNat)
        case atStart => exact ⟨0, Nat.zero_le _, rfl, by simp [Ms.storesB], Lib.hid (Below.refl _ _)⟩
        case round =>
          obtain ⟨j, hj, rfl, rfl, hb⟩ := hrel
          by_cases hlt2 : j < ns
          · obtain ⟨b, off, rfl, hat⟩ := (HRV.out.below hb.out).get (i := j) (by rw [← HNS.out]; exact hlt2)
            have q3 := cell_later hb.out q2
            have hNl := HNS.out
            obtain ⟨vb, hvb⟩ : ∃ vb, vb = (b1 || !Ms.storesB none (c.stores.take j)) := ⟨_, rfl⟩
            have HSN : Hid ((b1 || !Ms.storesB none (c.stores.take (j + 1))) = (vb || !(Ms.node (nth c.stores j) && (decide (j = 0) || decide (nth c.stores (j - 1) < nth c.stores j))))) := Lib.hid (by
              rw [hvb, List.take_succ_eq_append_getElem (by omega), Ms.stores_snoc, ← nth_eq _ (by omega), Bool.not_and, Bool.or_assoc]
              congr 3
              congr 1
              rcases Nat.eq_zero_or_pos j with h0 | h0
              · subst h0
                simp [Ms.last]
              · have hl : Ms.last none (c.stores.take j) = some (nth c.stores (j - 1)) := by
                  unfold Ms.last
                  rw [List.getLast?_eq_getElem?, List.length_take, Nat.min_eq_left (by omega), List.getElem?_take_of_lt (by omega), List.getElem?_eq_getElem (by omega), nth_eq _ (by omega)]
                rw [hl, decide_eq_false (by omega), Bool.false_or])
            rw [← hvb]
            have HPR : Hid (0 < j → ∃ b' off', some (⟨b, off, none⟩ : Addr) = some ⟨b', off', none⟩ ∧ wr.cell? ⟨b', off' + (j - 1), none⟩ = some (.int .i64 (nth c.stores (j - 1)))) := Lib.hid fun h0 => (HRV.out.below hb.out).get (i := j - 1) (by rw [← HNS.out]; omega)
            obtain ⟨x, hx⟩ : ∃ x, x = nth c.stores j := ⟨_, rfl⟩
            obtain ⟨y, hy⟩ : ∃ y, y = nth c.stores (j - 1) := ⟨_, rfl⟩
            rw [← hx] at hat HSN
            rw [← hy] at HPR HSN
            have HBW2 := Lib.hid hb.out
            clear hNl hvb hx hy hb
            cases vb with
            | true =>
              clear HPR
              go_wp2
              go_roundw
              case rel => exact ⟨j + 1, by omega, by go_num, by rw [HSN.out]; rfl, HBW2⟩
              case measure => simp [intOf]; omega
            | false =>
              obtain ⟨t1, ht1⟩ : ∃ t1, t1 = Ms.node x := ⟨_, rfl⟩
              have HNO : Hid (Calls Try.prog 55 #[.int .i64 x] wr fun e w' => e = .returned (.bool t1) ∧ w' = wr) := Lib.hid (by rw [ht1]; exact node_any _ _)
              rw [← ht1] at HSN
              clear ht1
              go_wp2_with fail
              refine HNO.out.mono ?_
              rintro e w' ⟨rfl, rfl⟩
              clear HNO
              cases t1 with
              | false =>
                clear HPR
                go_wp2
                go_roundw
                case rel => exact ⟨j + 1, by omega, by go_num, by rw [HSN.out]; rfl, HBW2⟩
                case measure => simp [intOf]; omega
              | true =>
                rcases Nat.eq_zero_or_pos j with h0 | h0
                · subst h0
                  clear HPR
                  go_wp2
                  go_roundw
                  case rel => exact ⟨0 + 1, by omega, by go_num, by rw [HSN.out]; rfl, HBW2⟩
                  case measure => simp [intOf]; omega
                · obtain ⟨j', rfl⟩ : ∃ j', j = j' + 1 := ⟨j - 1, by omega⟩
                  obtain ⟨b', off', e1, hpr⟩ := HPR.out h0
                  cases e1
                  rw [Nat.add_sub_cancel] at hpr
                  by_cases hxy : x ≤ y
                  · have t2 : decide (x ≤ y) = true := decide_eq_true hxy
                    have hv : decide (y < x) = false := decide_eq_false (by omega)
                    have HV := Lib.hid hv
                    clear HPR hv hxy
                    go_wp2
                    go_roundw
                    case rel => exact ⟨j' + 1 + 1, by omega, by go_num, by rw [HSN.out]; rw [HV.out]; simp, HBW2⟩
                    case measure => simp [intOf]; omega
                  · have t2 : decide (x ≤ y) = false := decide_eq_false hxy
                    have hv : decide (y < x) = true := decide_eq_true (by omega)
                    have HV := Lib.hid hv
                    clear HPR hv hxy
                    go_wp2
                    go_roundw
                    case rel => exact ⟨j' + 1 + 1, by omega, by go_num, by rw [HSN.out]; rw [HV.out]; simp, HBW2⟩
                    case measure => simp [intOf]; omega
          · obtain rfl : j = ns := by omega
            have HFI : Hid (c.ok = !(b1 || !Ms.storesB none (c.stores.take j))) := Lib.hid (by
              rw [HOK.out, HB1.out, HB0.out, List.take_of_length_le (by have := HNS.out; omega)])
            obtain ⟨b2, hb2⟩ : ∃ b2, b2 = (b1 || !Ms.storesB none (c.stores.take j)) := ⟨_, rfl⟩
            rw [← hb2] at HFI ⊢
            have HBF := Lib.hid (HBV.out.trans (hb.out.mono HBV.out.size))
            clear hb2 hb
            cases b2 with
            | true =>
              go_wp2
              go_ret
              exact ⟨by unfold Cf.chk; rw [HFI.out]; rfl, HBF.out⟩
            | false =>
              go_wp2
              go_ret
              exact ⟨by unfold Cf.chk; rw [HFI.out]; rfl, HBF.out⟩
end Go.Proofs.Ytincllchoflpmaa
