/- mem.Put. -/
import Derived.Test.YtgcealgkhlbgmaaMmR
import Derived.Test.YtgcealgkhlbgmaaReads3
import Derived.Test.YtgcealgkhlbgmaaMmL
namespace Go.Proofs.Ytgcealgkhlbgmaa
open Go.RowKit
set_option linter.unusedVariables false

def Ent.cost (e : Ent) : Nat := e.key.length + e.val.length + 16
def Ent.costs (l : List Ent) : Nat := (l.map Ent.cost).sum
theorem sum_set (f : Ent → Nat) (v : Ent) : ∀ (l : List Ent) (j : Nat), j < l.length → ((l.set j v).map f).sum + f (nth l j) = (l.map f).sum + f v
  | [], j, h => by simp at h
  | x :: l, 0, h => by simp [nth]; omega
  | x :: l, j + 1, h => by
    have := sum_set f v l j (by simpa using h)
    simp only [List.set_cons_succ, List.map_cons, List.sum_cons, show nth (x :: l) (j + 1) = nth l j by simp [nth]]
    omega
theorem setv_ents {ns : List Nd} {j : Nat} (v : Ent) (va : Option Addr) (vc : Nat) : (setv ns j v va vc).map Nd.e = (ns.map Nd.e).set j v := by
  unfold setv
  rw [List.map_set]
theorem nth_ents {ns : List Nd} {j : Nat} (hj : j < ns.length) : nth (ns.map Nd.e) j = (nth ns j).e := by
  rw [nth_eq _ hj, nth_eq _ (by simpa using hj), List.getElem_map]
theorem costs_setv {ns : List Nd} {j : Nat} (v : Ent) (va : Option Addr) (vc : Nat) (hj : j < ns.length) : Ent.costs ((setv ns j v va vc).map Nd.e) + (nth ns j).e.cost = Ent.costs (ns.map Nd.e) + v.cost := by
  rw [setv_ents, ← nth_ents hj]
  exact sum_set Ent.cost v _ j (by simpa using hj)
theorem costs_ins {ns : List Nd} (p : Nat) (x : Nd) : Ent.costs ((ins ns p x).map Nd.e) = Ent.costs (ns.map Nd.e) + x.e.cost := by
  unfold ins Ent.costs
  conv => rhs; rw [← List.take_append_drop p ns]
  simp only [List.map_append, List.map_cons, List.sum_append, List.sum_cons]
  omega
theorem le_costs {e : Ent} : ∀ {l : List Ent}, e ∈ l → e.cost ≤ Ent.costs l
  | x :: l, h => by
    unfold Ent.costs
    rw [List.map_cons, List.sum_cons]
    rcases List.mem_cons.1 h with rfl | h
    · omega
    · have := le_costs h
      unfold Ent.costs at this
      omega
theorem cost_le {ns : List Nd} {j : Nat} (hj : j < ns.length) : (nth ns j).e.cost ≤ Ent.costs (ns.map Nd.e) := by
  have := costs_setv (ns := ns) (j := j) { key := [], seq := 0, gone := false, val := [] } none 0 hj
  have h2 : Ent.cost { key := [], seq := 0, gone := false, val := [] } = 16 := rfl
  have h3 : 16 ≤ Ent.costs ((setv ns j { key := [], seq := 0, gone := false, val := [] } none 0).map Nd.e) := by
    have h4 : ({ key := [], seq := 0, gone := false, val := [] } : Ent) ∈ (setv ns j { key := [], seq := 0, gone := false, val := [] } none 0).map Nd.e := by
      rw [setv_ents]
      exact List.mem_set (by simpa using hj) _
    exact le_costs h4
  omega
theorem Tb.resize {w : World} {B tb t0 : Nat} {ns : List Nd} {hg sz sz' : Nat} {ad : Option Addr} {nd cd : Nat} {ld : List Int} (h : Tb w B tb t0 ns hg sz ad nd cd ld) : Tb (w.setCell ⟨tb, 9, none⟩ (.int .i64 (sz' : Nat))) B tb t0 ns hg sz' ad nd cd ld := by
  have k : Keep [tb] w (w.setCell ⟨tb, 9, none⟩ (.int .i64 (sz' : Nat))) := (Keep.refl _ w).set _ (.inr ⟨List.mem_singleton.2 rfl, fun n => by rw [h.size]; exact fun e => by cases e⟩)
  have hc : Ch (w.setCell ⟨tb, 9, none⟩ (.int .i64 (sz' : Nat))) t0 ns := h.sl.ch.keep (tb := tb) k (fun b hb => by
    rw [List.mem_singleton.1 hb]
    exact (List.nodup_cons.1 h.nodup).1)
  have hcell : ∀ j v, j ≠ 9 → w.cell? ⟨tb, j, none⟩ = some v → (w.setCell ⟨tb, 9, none⟩ (.int .i64 (sz' : Nat))).cell? ⟨tb, j, none⟩ = some v := fun j v h9 hv => (World.cell?_setCell_other _ _ _ _ (addr_ne (Ne.symm h9))).trans hv
  refine ⟨⟨hcell 4 _ (by decide) h.sl.head, hcell 5 _ (by decide) h.sl.cmp, hcell 7 _ (by decide) h.sl.count, hc.h0, hc.nd, h.sl.sorted⟩, hcell 6 _ (by decide) h.height, hcell 8 _ (by decide) h.draws, World.cell?_setCell_same' _ _ _ (by rw [h.size]; rfl), fun b hm => ?_, h.nodup, h.ints.keep k (fun x hx hm => h.apart x hx (by rw [List.mem_singleton.1 hm]; simp [blocks])), h.apart, fun x hx => Nat.lt_of_lt_of_le (h.old x hx) k.size⟩
  obtain ⟨h1, h2, h3, h4⟩ := h.own b hm
  exact ⟨h1, Nat.lt_of_lt_of_le h2 k.size, fun j => (k.frz ⟨b, j, none⟩ h2).trans (h3 j), h4.keep h2 k⟩
theorem Tb.notin {w : World} {B tb t0 : Nat} {ns : List Nd} {hg sz : Nat} {ad : Option Addr} {nd cd : Nat} {ld : List Int} (h : Tb w B tb t0 ns hg sz ad nd cd ld) {b n : Nat} {t : TypeId} (hs : w.shape? b = some (t, n)) (ht : t ≠ 64 ∧ t ≠ 60 ∧ t ≠ 74) : b ∉ blocks tb t0 ns := fun hm => by
  obtain ⟨_, _, _, t', n', h1, h2⟩ := h.own b hm
  rw [hs] at h1
  cases h1
  rcases h2 with e | e | e
  · exact ht.1 e
  · exact ht.2.1 e
  · exact ht.2.2 e
theorem put_fin {W4 w5 w9 : World} {S : List Nat} {bo bx : Nat} {v : Ent} {a3 : Option Addr} {c3 : Nat} (hk : Keep S W4 w5) (k9 : Keep [bo] w5 w9) (hbo : W4.heap.size ≤ bo) (hbox : EntAt W4 bx 0 v a3 c3) (hbx : bx ∉ S) (hbx2 : bx < W4.heap.size) : Keep S W4 w9 ∧ EntAt w9 bx 0 v a3 c3 :=
  ⟨hk.trans' k9 (fun g hg => .inr (by rw [List.mem_singleton.1 hg]; exact hbo)), (hbox.keep hk hbx).keep k9 (fun hm => by have := List.mem_singleton.1 hm; omega)⟩
theorem EntAt.setVal {w : World} {b : Nat} {e e' : Ent} {a a' : Option Addr} {c c' : Nat} (h : EntAt w b 0 e a c) (hk : e'.key = e.key) (hq : e'.seq = e.seq) (hg : e'.gone = e.gone) : EntAt (w.setCell ⟨b, 3, none⟩ (.slice a' e'.val.length c')) b 0 e' a' c' := by
  have h0 := h.key
  have h1 := h.seq
  have h2 := h.gone
  have h3 := h.val
  simp only [Nat.zero_add] at h0 h1 h2 h3
  exact ⟨by rw [hk]; exact (World.cell?_setCell_other _ _ _ _ (addr_ne (by decide))).trans h0, by rw [hq]; exact (World.cell?_setCell_other _ _ _ _ (addr_ne (by decide))).trans h1, by rw [hg]; exact (World.cell?_setCell_other _ _ _ _ (addr_ne (by decide))).trans h2, World.cell?_setCell_same' _ _ _ (by rw [h3]; rfl)⟩
/-- What Put leaves. -/
def PutR (w : World) (B tb t0 : Nat) (ns : List Nd) (hg : Nat) (ad : Option Addr) (nd cd : Nat) (ld : List Int) (v : Ent) (e : Ending) (w' : World) : Prop :=
  ∃ va vc ns' hg', e = .returned (.tuple #[]) ∧ (∀ a, va = some a → w.heap.size ≤ a.block ∧ a.block < w'.heap.size) ∧ Keep (blocks tb t0 ns) w w' ∧
    Tb w' B tb t0 ns' hg' (Ent.costs (ns'.map Nd.e)) ad nd cd ld ∧
    ((∃ j, j < ns.length ∧ Ent.cmp (nth ns j).e v = 0 ∧ ns' = setv ns j v va vc ∧ hg' = hg) ∨
     ((∀ j, j < ns.length → Ent.cmp (nth ns j).e v ≠ 0) ∧ hg' = max hg (tower ld ns.length) ∧ ∃ x : Nd, x.e = v ∧ x.va = va ∧ x.vc = vc ∧ x.h = tower ld ns.length ∧ (w.heap.size ≤ x.b ∧ w.heap.size ≤ x.t) ∧ ns' = ins ns (below ns v) x))
set_option maxHeartbeats 4000000 in
theorem tput_any (B tb t0 : Nat) (ns : List Nd) (hg : Nat) (ad : Option Addr) (nd cd : Nat) (ld : List Int) (v : Ent) (va : Option Addr) (vc : Nat) (w : World) (h : Tb w B tb t0 ns hg (Ent.costs (ns.map Nd.e)) ad nd cd ld) (hv : Bs w va v.val.length vc v.val) (hn : ns.length ≤ 1000000000)
    (hk : v.key.length ≤ 1000000000) (hvl : v.val.length ≤ 1000000000) (hs : Ent.costs (ns.map Nd.e) ≤ 1000000000000000)
    (hfew : ∀ e ∈ ns.map Nd.e, e.key.length ≤ 1000000000 ∧ e.val.length ≤ 1000000000) :
    Calls Try.prog 11 #[.pointer (some ⟨tb, 0, none⟩), ev v va vc] w (PutR w B tb t0 ns hg ad nd cd ld v.laid) := by
  have HT := Lib.hid h
  have HV := Lib.hid hv
  have HLT : Hid (∀ b ∈ blocks tb t0 ns, b < w.heap.size) := Lib.hid fun b hb => (h.own b hb).2.1
  have HFEW := Lib.hid hfew
  clear h hv hfew
  unfold ev
  go_enter Try.func11, Try.ntmps11
  go_upto_region 1 with fail
  have hb0 := below_alloc1 w (.cells #[.string (bstr v.key), .int .u64 v.seq, .bool v.gone, .slice va v.val.length vc] 30)
  have hx0 := load_box w v va vc
  have hf0 : ∀ j, (w.alloc (.cells #[.string (bstr v.key), .int .u64 v.seq, .bool v.gone, .slice va v.val.length vc] 30)).frozen? ⟨w.heap.size, j, none⟩ = false := fun j => (frozen?_alloc_cells _ _ _ _).trans (by simp [World.frozen?])
  have hz0 := World.size_alloc w (.cells #[.string (bstr v.key), .int .u64 v.seq, .bool v.gone, .slice va v.val.length vc] 30)
  obtain ⟨W0, hW0⟩ : ∃ W0, w.alloc (.cells #[.string (bstr v.key), .int .u64 v.seq, .bool v.gone, .slice va v.val.length vc] 30) = W0 := ⟨_, rfl⟩
  rw [hW0] at hb0 hx0 hf0 hz0 ⊢
  clear hW0
  have HB0 := Lib.hid hb0
  have HX0 := Lib.hid hx0
  have HZ0 := Lib.hid hz0
  have HV0 := Lib.hid (HV.out.below hb0)
  have v1 := hx0.key
  have v2 := hx0.seq
  have v3 := hx0.gone
  have v4 := hx0.val
  simp at v1 v2 v3 v4
  clear hb0 hx0 hz0 HV
  obtain ⟨gg, hgg⟩ : ∃ gg, gg = v.gone := ⟨_, rfl⟩
  have v3x := v3
  rw [← hgg] at v3
  have HGG := Lib.hid hgg
  have V3X := Lib.hid v3x
  clear hgg v3x
  go_upto_if 7 with fail
  go_cut [] (fun wx => Hid (∃ a2 c2, EntAt wx w.heap.size 0 v.laid a2 c2 ∧ Bs wx a2 v.laid.val.length c2 v.laid.val ∧ Below w.heap.size w wx ∧ w.heap.size < wx.heap.size ∧ ∀ j, wx.frozen? ⟨w.heap.size, j, none⟩ = false))
  case first =>
    rcases Bool.eq_false_or_eq_true gg with hgv | hgv
    · have hgv' : v.gone = true := by rw [← HGG.out]; exact hgv
      have hst : Hid (EntAt (W0.setCell ⟨w.heap.size, 3, none⟩ (.slice none 0 0)) w.heap.size 0 v.laid none 0 ∧ Bs (W0.setCell ⟨w.heap.size, 3, none⟩ (.slice none 0 0)) none 0 0 []) := Lib.hid (by
        have hl : v.laid = { v with val := [] } := by simp [Ent.laid, hgv']
        rw [hl]
        refine ⟨⟨?_, ?_, ?_, ?_⟩, Bs.nil _⟩
        · exact (World.cell?_setCell_other _ _ _ _ (addr_ne (by decide))).trans v1
        · exact (World.cell?_setCell_other _ _ _ _ (addr_ne (by decide))).trans v2
        · exact (World.cell?_setCell_other _ _ _ _ (addr_ne (by decide))).trans V3X.out
        · exact World.cell?_setCell_same' _ _ _ (by rw [v4]; rfl))
      have hl : Hid (v.laid.val = []) := Lib.hid (by simp [Ent.laid, hgv'])
      clear hgv'
      subst hgv
      go_wp2
      go_meet
      exact Lib.hid ⟨none, 0, hst.out.1, by rw [hl.out]; exact hst.out.2, HB0.out.setCell (Nat.le_refl _) _, by rw [World.size_setCell]; have := HZ0.out; omega, fun j => by rw [World.frozen?_setCell]; exact hf0 j⟩
    · have hgv' : v.gone = false := by rw [← HGG.out]; exact hgv
      have hl : Hid (v.laid = v) := Lib.hid (by cases v; simp_all [Ent.laid])
      clear hgv'
      subst hgv
      go_wp2
      go_meet
      exact Lib.hid ⟨va, vc, by rw [hl.out]; exact HX0.out, by rw [hl.out]; exact HV0.out, HB0.out, by have := HZ0.out; omega, hf0⟩
  case rest =>
    obtain ⟨a2, c2, hx2, hv2, hb2, hz2, hf2⟩ := hcut.out
    have hlv : v.laid.val.length ≤ 1000000000 ∧ v.laid.key.length ≤ 1000000000 := ⟨by unfold Ent.laid; show (if v.gone = true then [] else v.val).length ≤ _; split; exact Nat.zero_le _; exact hvl, hk⟩
    clear hcut v1 v2 v3 v4 hf0 HX0 HV0 HB0 HZ0
    have HT2 := Lib.hid (HT.out.below hb2)
    have HX2 := Lib.hid hx2
    have HV2 := Lib.hid hv2
    have HB2 := Lib.hid hb2
    have v4 := hx2.val
    simp at v4
    clear hx2 hv2 hb2
    go_wp2_with fail
    refine (clone_any _ _ _ v.laid.val _ HV2.out hlv.1).mono ?_
    rintro en w3 ⟨a3, n3, c3, rfl, ho, hb3⟩
    obtain rfl : n3 = v.laid.val.length := by have := ho.bs.1; omega
    have hx3 : EntAt w3 w.heap.size 0 v.laid a2 c2 := HX2.out.below hb3
    have hb23 := HB2.out.trans (hb3.mono HB2.out.size)
    have hz3 := hb3.size
    have hf3 : ∀ j, w3.frozen? ⟨w.heap.size, j, none⟩ = false := fun j => (hb3.frozen (p := ⟨w.heap.size, j, none⟩) hz2).trans (hf2 j)
    have hx4 := hx3.setVal (e' := v.laid) (a' := a3) (c' := c3) rfl rfl rfl
    have hb4 := hb23.setCell (p := ⟨w.heap.size, 3, none⟩) (Nat.le_refl _) (.slice a3 v.laid.val.length c3)
    have hv4 : Bs (w3.setCell ⟨w.heap.size, 3, none⟩ (.slice a3 v.laid.val.length c3)) a3 v.laid.val.length c3 v.laid.val := ho.bs.keep (Keep.set (S := [w.heap.size]) (p := ⟨w.heap.size, 3, none⟩) (Keep.refl _ _) _ (.inr ⟨List.mem_singleton.2 rfl, fun n => by have := hx3.val; simp only [Nat.zero_add] at this; rw [this]; exact fun e => by cases e⟩))
    have hnew : ∀ x, a3 = some x → w.heap.size ≤ x.block ∧ x.block < w3.heap.size := fun x hx => ⟨Nat.le_trans (Nat.le_of_lt hz2) (ho.new x hx).1, (ho.new x hx).2⟩
    have q4 := hx3.val
    simp only [Nat.zero_add] at q4
    clear hb3 ho v4 hf2
    have HX4 := Lib.hid hx4
    have HB4 := Lib.hid hb4
    have HV4 := Lib.hid hv4
    have HNEW := Lib.hid hnew
    clear hx4 hb4 hv4 hx3 hb23 hnew
    go_upto_region 4 with fail
    have hz4 := World.size_setCell w3 ⟨w.heap.size, 3, none⟩ (.slice a3 v.laid.val.length c3)
    obtain ⟨W4, hW4⟩ : ∃ W4, w3.setCell ⟨w.heap.size, 3, none⟩ (.slice a3 v.laid.val.length c3) = W4 := ⟨_, rfl⟩
    rw [hW4] at hz4 HX4 HB4 HV4 ⊢
    clear hW4
    have HT4 := Lib.hid (HT.out.below HB4.out)
    have HZ4 := Lib.hid (And.intro hz3 hz4)
    clear hz3 hz4 q4 hf3 HB2 HX2 HV2 HT2
    go_cut [4, 5] (fun p4 t5 wx => ∃ bo : Nat, p4 = .pointer (some ⟨bo, 0, none⟩) ∧ Hid (Keep (blocks tb t0 ns) W4 wx ∧ EntAt wx w.heap.size 0 v.laid a3 c3) ∧
      ((t5 = .bool true ∧ Hid (∃ j, j < ns.length ∧ Ent.cmp (nth ns j).e v.laid = 0 ∧ EntAt wx bo 0 (nth ns j).e (nth ns j).va (nth ns j).vc ∧ Tb wx B tb t0 (setv ns j v.laid a3 c3) hg (Ent.costs (ns.map Nd.e)) ad nd cd ld)) ∨
       (t5 = .bool false ∧ Hid ((∀ j, j < ns.length → Ent.cmp (nth ns j).e v.laid ≠ 0) ∧ ∃ x : Nd, x.e = v.laid ∧ x.va = a3 ∧ x.vc = c3 ∧ x.h = tower ld ns.length ∧ (w.heap.size ≤ x.b ∧ w.heap.size ≤ x.t) ∧ Tb wx B tb t0 (ins ns (below ns v.laid) x) (max hg (tower ld ns.length)) (Ent.costs (ns.map Nd.e)) ad nd cd ld))))
    case first =>
      refine wp_region_steps [12] 12 12 (by kernel_rfl) (by kernel_rfl) rfl (fun W' => EntAt W' w.heap.size 0 v.laid a3 c3) ?_
      refine anyT_pull [0, 1, 2, 4, 5, 3] 12 6 (by intro c a d v w h; cases d <;> exact h) (by kernel_rfl) (HX4.out.below (Below.refl _ _).drew) ?_
      simp only [opsAt, List.filterMap_cons, List.filterMap_nil, List.getElem?_cons_zero, List.getElem?_cons_succ]
      iterate 6
        apply held_step
        · rfl
        · rintro W ⟨q1, q2, q3, q4⟩
          simp at q1 q2 q3 q4
          go_simp
          rfl
      refine held_nil ?_
      have HBXN : Hid (w.heap.size ∉ blocks tb t0 ns) := Lib.hid fun hm => by have := HLT.out _ hm; omega
      have HSX : Hid (∀ x : Nd, ∀ W : World, W.heap.size ≤ x.b ∧ W.heap.size ≤ x.t → W4.heap.size ≤ W.heap.size → w.heap.size ≤ x.b ∧ w.heap.size ≤ x.t) := Lib.hid fun x W h1 h2 => by have := HB4.out.size; omega
      have HBXL : Hid (w.heap.size < W4.heap.size) := Lib.hid (by have := HZ4.out; omega)
      have hzz : EntAt (W4.drew.alloc (.cells #[.string ⟨#[]⟩, .int .u64 0, .bool false, .slice none 0 0] 30)) W4.heap.size 0 default none 0 := load_box W4.drew default none 0
      have HZZ := Lib.hid hzz
      have HNB : Hid (∀ (ns' : List Nd) (hg' sz' : Nat) (W : World) (bo : Nat), W4.heap.size ≤ bo → (W.heap.size ≤ bo ∨ W.shape? bo = some (30, 4)) → Tb W B tb t0 ns' hg' sz' ad nd cd ld → ∀ w9, Keep [bo] W w9 → Tb w9 B tb t0 ns' hg' sz' ad nd cd ld) := Lib.hid fun ns' hg' sz' W bo h0 h1 h2 w9 k9 =>
        h2.keep k9 (fun b hb hm => by
          rw [List.mem_singleton.1 hb] at hm
          rcases h1 with h1 | h1
          · have := (h2.own _ hm).2.1
            omega
          · exact h2.notin h1 ⟨by decide, by decide, by decide⟩ hm) (fun x hx hm => by
          have h3 := HT4.out.old x hx
          have h4 := List.mem_singleton.1 hm
          omega)
      clear hzz
      refine anyT_two 6 10 rfl rfl (by kernel_rfl) rfl rfl (fun K hK => ?_) (fun K hK => ?_)
      · go_simp
        have hpa := put_any B tb t0 ns hg _ ad nd cd ld v.laid a3 c3 W4.drew (HT4.out.below (Below.refl _ _).drew) (HV4.out.below (Below.refl _ _).drew) hn
        unfold ev at hpa
        refine hpa.mono ?_
        clear hpa
        rintro en w5 ⟨hk5, ⟨j, hj, hcj, rfl, hT5⟩ | ⟨hno, rfl, x, hx1, hx2, hx3, hx4, hx5, hT5⟩⟩
        · have hE5 := (HX4.out.below (Below.refl _ _).drew).keep hk5 HBXN.out
          have hzw : W4.heap.size ≤ w5.heap.size := hk5.size
          have hkw : Keep (blocks tb t0 ns) W4 w5 := (Keep.of_below (Below.refl _ _).drew).trans hk5
          refine hK _ _ hE5 ?_
          clear hK
          refine anyT_pull [7, 8, 9] 12 2 (by intro c a d v w h; cases d <;> exact h) (by kernel_rfl) hE5 ?_
          simp only [opsAt, List.filterMap_cons, List.filterMap_nil, List.getElem?_cons_zero, List.getElem?_cons_succ]
          iterate 3
            apply held_step
            · rfl
            · intro W _
              go_simp
              rfl
          refine held_nil ?_
          have hbz := below_alloc1 w5 (.cells #[.string ⟨#[]⟩, .int .u64 0, .bool false, .slice none 0 0] 30)
          have hzz5 : EntAt (w5.alloc (.cells #[.string ⟨#[]⟩, .int .u64 0, .bool false, .slice none 0 0] 30)) w5.heap.size 0 default none 0 := load_box w5 default none 0
          have hff5 : ∀ j, (w5.alloc (.cells #[.string ⟨#[]⟩, .int .u64 0, .bool false, .slice none 0 0] 30)).frozen? ⟨w5.heap.size, j, none⟩ = false := fun j => (frozen?_alloc_cells _ _ _ _).trans (by simp [World.frozen?])
          have hbx5 := hE5.below hbz
          refine anyT_one 10 rfl (by kernel_rfl) rfl (fun K hK => ?_)
          go_simp
          refine hK _ _ hbx5 ?_
          clear hK
          obtain ⟨w6, hw6⟩ : ∃ w6, w5.alloc (.cells #[.string ⟨#[]⟩, .int .u64 0, .bool false, .slice none 0 0] 30) = w6 := ⟨_, rfl⟩
          rw [hw6] at hbz hzz5 hff5 hbx5 ⊢
          clear hw6
          have k9 : Keep [w5.heap.size] w5 (put4 w6 w5.heap.size (nth ns j).e (nth ns j).va (nth ns j).vc) := (Keep.of_below hbz).put4 (e' := default) (a' := none) (c' := 0) (.inl (Nat.le_refl _))
          have h9 : EntAt (put4 w6 w5.heap.size (nth ns j).e (nth ns j).va (nth ns j).vc) w5.heap.size 0 (nth ns j).e (nth ns j).va (nth ns j).vc := put4_at hzz5
          have r0 : w6.cell? ⟨w5.heap.size, 0, none⟩ = some (.string ⟨#[]⟩) := hzz5.key
          have r1 : w6.cell? ⟨w5.heap.size, 1, none⟩ = some (.int .u64 0) := hzz5.seq
          have r2 : w6.cell? ⟨w5.heap.size, 2, none⟩ = some (.bool false) := hzz5.gone
          have r3 : w6.cell? ⟨w5.heap.size, 3, none⟩ = some (.slice none 0 0) := hzz5.val
          obtain ⟨hf1, hf2⟩ := put_fin hkw k9 hzw HX4.out HBXN.out HBXL.out
          have HREL : Hid (Keep (blocks tb t0 ns) W4 (put4 w6 w5.heap.size (nth ns j).e (nth ns j).va (nth ns j).vc) ∧ EntAt (put4 w6 w5.heap.size (nth ns j).e (nth ns j).va (nth ns j).vc) w.heap.size 0 v.laid a3 c3) := Lib.hid ⟨hf1, hf2⟩
          refine anyT_one 11 rfl (by kernel_rfl) rfl (fun K hK => ?_)
          try unfold ev
          go_simp
          refine hK _ _ hf2 ?_
          clear hK
          refine anyT_done (by kernel_rfl) ?_
          simp only [opsAt, List.filterMap_cons, List.filterMap_nil, List.getElem?_cons_zero, List.getElem?_cons_succ]
          go_wp2
          go_meet
          exact ⟨_, rfl, HREL, .inl ⟨rfl, Lib.hid ⟨j, hj, hcj, h9, HNB.out _ _ _ w5 w5.heap.size hzw (.inl (Nat.le_refl _)) hT5 _ k9⟩⟩⟩
        · have hE5 := (HX4.out.below (Below.refl _ _).drew).keep hk5 HBXN.out
          have hzw : W4.heap.size ≤ w5.heap.size := hk5.size
          have hkw : Keep (blocks tb t0 ns) W4 w5 := (Keep.of_below (Below.refl _ _).drew).trans hk5
          refine hK _ _ hE5 ?_
          clear hK
          refine anyT_pull [7, 8, 9] 12 2 (by intro c a d v w h; cases d <;> exact h) (by kernel_rfl) hE5 ?_
          simp only [opsAt, List.filterMap_cons, List.filterMap_nil, List.getElem?_cons_zero, List.getElem?_cons_succ]
          iterate 3
            apply held_step
            · rfl
            · intro W _
              go_simp
              rfl
          refine held_nil ?_
          have hbz := below_alloc1 w5 (.cells #[.string ⟨#[]⟩, .int .u64 0, .bool false, .slice none 0 0] 30)
          have hzz5 : EntAt (w5.alloc (.cells #[.string ⟨#[]⟩, .int .u64 0, .bool false, .slice none 0 0] 30)) w5.heap.size 0 default none 0 := load_box w5 default none 0
          have hff5 : ∀ j, (w5.alloc (.cells #[.string ⟨#[]⟩, .int .u64 0, .bool false, .slice none 0 0] 30)).frozen? ⟨w5.heap.size, j, none⟩ = false := fun j => (frozen?_alloc_cells _ _ _ _).trans (by simp [World.frozen?])
          have hbx5 := hE5.below hbz
          refine anyT_one 10 rfl (by kernel_rfl) rfl (fun K hK => ?_)
          go_simp
          refine hK _ _ hbx5 ?_
          clear hK
          obtain ⟨w6, hw6⟩ : ∃ w6, w5.alloc (.cells #[.string ⟨#[]⟩, .int .u64 0, .bool false, .slice none 0 0] 30) = w6 := ⟨_, rfl⟩
          rw [hw6] at hbz hzz5 hff5 hbx5 ⊢
          clear hw6
          have k9 : Keep [w5.heap.size] w5 (put4 w6 w5.heap.size default none 0) := (Keep.of_below hbz).put4 (e' := default) (a' := none) (c' := 0) (.inl (Nat.le_refl _))
          have h9 : EntAt (put4 w6 w5.heap.size default none 0) w5.heap.size 0 default none 0 := put4_at hzz5
          have r0 : w6.cell? ⟨w5.heap.size, 0, none⟩ = some (.string ⟨#[]⟩) := hzz5.key
          have r1 : w6.cell? ⟨w5.heap.size, 1, none⟩ = some (.int .u64 0) := hzz5.seq
          have r2 : w6.cell? ⟨w5.heap.size, 2, none⟩ = some (.bool false) := hzz5.gone
          have r3 : w6.cell? ⟨w5.heap.size, 3, none⟩ = some (.slice none 0 0) := hzz5.val
          obtain ⟨hf1, hf2⟩ := put_fin hkw k9 hzw HX4.out HBXN.out HBXL.out
          have HREL : Hid (Keep (blocks tb t0 ns) W4 (put4 w6 w5.heap.size default none 0) ∧ EntAt (put4 w6 w5.heap.size default none 0) w.heap.size 0 v.laid a3 c3) := Lib.hid ⟨hf1, hf2⟩
          refine anyT_one 11 rfl (by kernel_rfl) rfl (fun K hK => ?_)
          try unfold ev
          go_simp
          refine hK _ _ hf2 ?_
          clear hK
          refine anyT_done (by kernel_rfl) ?_
          simp only [opsAt, List.filterMap_cons, List.filterMap_nil, List.getElem?_cons_zero, List.getElem?_cons_succ]
          go_wp2
          go_meet
          exact ⟨_, rfl, HREL, .inr ⟨rfl, Lib.hid ⟨hno, x, hx1, hx2, hx3, hx4, HSX.out x _ hx5 (by simp), HNB.out _ _ _ w5 w5.heap.size hzw (.inl (Nat.le_refl _)) hT5 _ k9⟩⟩⟩
      · go_simp
        have hba : Below W4.heap.size W4 (W4.drew.alloc (.cells #[.string ⟨#[]⟩, .int .u64 0, .bool false, .slice none 0 0] 30)) := ((Below.refl W4.heap.size W4).drew).alloc (Nat.le_refl _) _
        have HBA := Lib.hid hba
        have hxa := HX4.out.below hba
        refine hK _ _ hxa ?_
        clear hK hba hxa
        refine anyT_one 6 rfl (by kernel_rfl) rfl (fun K hK => ?_)
        go_simp
        have hpa := put_any B tb t0 ns hg _ ad nd cd ld v.laid a3 c3 (W4.drew.alloc (.cells #[.string ⟨#[]⟩, .int .u64 0, .bool false, .slice none 0 0] 30)) (HT4.out.below HBA.out) (HV4.out.below HBA.out) hn
        unfold ev at hpa
        refine hpa.mono ?_
        clear hpa
        rintro en w5 ⟨hk5, ⟨j, hj, hcj, rfl, hT5⟩ | ⟨hno, rfl, x, hx1, hx2, hx3, hx4, hx5, hT5⟩⟩
        · have hE5 := (HX4.out.below HBA.out).keep hk5 HBXN.out
          have hzw : W4.heap.size + 1 ≤ w5.heap.size := Nat.le_trans (by simp) hk5.size
          have hkw : Keep (blocks tb t0 ns) W4 w5 := (Keep.of_below HBA.out).trans hk5
          have hbo : EntAt w5 W4.heap.size 0 default none 0 := HZZ.out.keep hk5 (fun hm => by have := HLT.out _ hm; have := HBXL.out; omega)
          have hsh : w5.shape? W4.heap.size = some (30, 4) := (hk5.shp W4.heap.size (by simp)).trans (shape_of (heap_alloc_new W4.drew _))
          refine hK _ _ hE5 ?_
          clear hK
          refine anyT_pull [7, 8, 9] 12 1 (by intro c a d v w h; cases d <;> exact h) (by kernel_rfl) hE5 ?_
          simp only [opsAt, List.filterMap_cons, List.filterMap_nil, List.getElem?_cons_zero, List.getElem?_cons_succ]
          iterate 3
            apply held_step
            · rfl
            · intro W _
              go_simp
              rfl
          refine held_nil ?_
          have k9 : Keep [W4.heap.size] w5 (put4 w5 W4.heap.size (nth ns j).e (nth ns j).va (nth ns j).vc) := (Keep.refl _ _).put4 (.inr ⟨List.mem_singleton.2 rfl, hbo⟩)
          have h9 : EntAt (put4 w5 W4.heap.size (nth ns j).e (nth ns j).va (nth ns j).vc) W4.heap.size 0 (nth ns j).e (nth ns j).va (nth ns j).vc := put4_at hbo
          have hff5 : ∀ j, w5.frozen? ⟨W4.heap.size, j, none⟩ = false := fun j => (hk5.frz ⟨W4.heap.size, j, none⟩ (by simp)).trans ((frozen?_alloc_cells _ _ _ _).trans (by simp [World.frozen?]))
          have r0 : w5.cell? ⟨W4.heap.size, 0, none⟩ = some (.string ⟨#[]⟩) := hbo.key
          have r1 : w5.cell? ⟨W4.heap.size, 1, none⟩ = some (.int .u64 0) := hbo.seq
          have r2 : w5.cell? ⟨W4.heap.size, 2, none⟩ = some (.bool false) := hbo.gone
          have r3 : w5.cell? ⟨W4.heap.size, 3, none⟩ = some (.slice none 0 0) := hbo.val
          obtain ⟨hf1, hf2⟩ := put_fin hkw k9 (Nat.le_refl _) HX4.out HBXN.out HBXL.out
          have HREL : Hid (Keep (blocks tb t0 ns) W4 (put4 w5 W4.heap.size (nth ns j).e (nth ns j).va (nth ns j).vc) ∧ EntAt (put4 w5 W4.heap.size (nth ns j).e (nth ns j).va (nth ns j).vc) w.heap.size 0 v.laid a3 c3) := Lib.hid ⟨hf1, hf2⟩
          refine anyT_one 11 rfl (by kernel_rfl) rfl (fun K hK => ?_)
          try unfold ev
          go_simp
          refine hK _ _ hf2 ?_
          clear hK
          refine anyT_done (by kernel_rfl) ?_
          simp only [opsAt, List.filterMap_cons, List.filterMap_nil, List.getElem?_cons_zero, List.getElem?_cons_succ]
          go_wp2
          go_meet
          exact ⟨_, rfl, HREL, .inl ⟨rfl, Lib.hid ⟨j, hj, hcj, h9, HNB.out _ _ _ w5 W4.heap.size (Nat.le_refl _) (.inr hsh) hT5 _ k9⟩⟩⟩
        · have hE5 := (HX4.out.below HBA.out).keep hk5 HBXN.out
          have hzw : W4.heap.size + 1 ≤ w5.heap.size := Nat.le_trans (by simp) hk5.size
          have hkw : Keep (blocks tb t0 ns) W4 w5 := (Keep.of_below HBA.out).trans hk5
          have hbo : EntAt w5 W4.heap.size 0 default none 0 := HZZ.out.keep hk5 (fun hm => by have := HLT.out _ hm; have := HBXL.out; omega)
          have hsh : w5.shape? W4.heap.size = some (30, 4) := (hk5.shp W4.heap.size (by simp)).trans (shape_of (heap_alloc_new W4.drew _))
          refine hK _ _ hE5 ?_
          clear hK
          refine anyT_pull [7, 8, 9] 12 1 (by intro c a d v w h; cases d <;> exact h) (by kernel_rfl) hE5 ?_
          simp only [opsAt, List.filterMap_cons, List.filterMap_nil, List.getElem?_cons_zero, List.getElem?_cons_succ]
          iterate 3
            apply held_step
            · rfl
            · intro W _
              go_simp
              rfl
          refine held_nil ?_
          have k9 : Keep [W4.heap.size] w5 (put4 w5 W4.heap.size default none 0) := (Keep.refl _ _).put4 (.inr ⟨List.mem_singleton.2 rfl, hbo⟩)
          have h9 : EntAt (put4 w5 W4.heap.size default none 0) W4.heap.size 0 default none 0 := put4_at hbo
          have hff5 : ∀ j, w5.frozen? ⟨W4.heap.size, j, none⟩ = false := fun j => (hk5.frz ⟨W4.heap.size, j, none⟩ (by simp)).trans ((frozen?_alloc_cells _ _ _ _).trans (by simp [World.frozen?]))
          have r0 : w5.cell? ⟨W4.heap.size, 0, none⟩ = some (.string ⟨#[]⟩) := hbo.key
          have r1 : w5.cell? ⟨W4.heap.size, 1, none⟩ = some (.int .u64 0) := hbo.seq
          have r2 : w5.cell? ⟨W4.heap.size, 2, none⟩ = some (.bool false) := hbo.gone
          have r3 : w5.cell? ⟨W4.heap.size, 3, none⟩ = some (.slice none 0 0) := hbo.val
          obtain ⟨hf1, hf2⟩ := put_fin hkw k9 (Nat.le_refl _) HX4.out HBXN.out HBXL.out
          have HREL : Hid (Keep (blocks tb t0 ns) W4 (put4 w5 W4.heap.size default none 0) ∧ EntAt (put4 w5 W4.heap.size default none 0) w.heap.size 0 v.laid a3 c3) := Lib.hid ⟨hf1, hf2⟩
          refine anyT_one 11 rfl (by kernel_rfl) rfl (fun K hK => ?_)
          try unfold ev
          go_simp
          refine hK _ _ hf2 ?_
          clear hK
          refine anyT_done (by kernel_rfl) ?_
          simp only [opsAt, List.filterMap_cons, List.filterMap_nil, List.getElem?_cons_zero, List.getElem?_cons_succ]
          go_wp2
          go_meet
          exact ⟨_, rfl, HREL, .inr ⟨rfl, Lib.hid ⟨hno, x, hx1, hx2, hx3, hx4, HSX.out x _ hx5 (by simp), HNB.out _ _ _ w5 W4.heap.size (Nat.le_refl _) (.inr hsh) hT5 _ k9⟩⟩⟩
    case rest =>
      obtain ⟨bo, rfl, hke, halt⟩ := hcut
      have HCL : Hid (v.laid.cost = v.laid.key.length + v.laid.val.length + 16) := Lib.hid rfl
      have HSS := Lib.hid hs
      have HLV := Lib.hid hlv
      clear hs
      have HEND : Hid (∀ (W : World) (ns' : List Nd) (hg' sz : Nat), Keep (blocks tb t0 ns) W4 W → EntAt W w.heap.size 0 v.laid a3 c3 → Tb W B tb t0 ns' hg' sz ad nd cd ld → sz ≤ 1000000000000000 → ∀ w7, Below W.heap.size W w7 →
          Tb (w7.setCell ⟨tb, 9, none⟩ (.int .i64 ((sz + v.laid.cost : Nat) : Int))) B tb t0 ns' hg' (sz + v.laid.cost) ad nd cd ld ∧ Keep (blocks tb t0 ns) w (w7.setCell ⟨tb, 9, none⟩ (.int .i64 ((sz + v.laid.cost : Nat) : Int)))) := Lib.hid fun W ns' hg' sz h1 h2 h3 h4 w7 h7 => by
        have h8 := h3.below h7
        refine ⟨h8.resize, ?_⟩
        have hk7 : Keep (blocks tb t0 ns) w w7 := ((Keep.of_below HB4.out).trans' h1 (fun g hg => .inl hg)).trans (Keep.of_below h7)
        exact hk7.set _ (.inr ⟨by simp [blocks], fun n => by rw [h8.size]; exact fun e => by cases e⟩)
      obtain ⟨hkw, hbx⟩ := hke.out
      clear hke
      have hz5 := hkw.size
      have HKW := Lib.hid hkw
      have HBX := Lib.hid hbx
      rcases halt with ⟨rfl, halt⟩ | ⟨rfl, halt⟩
      · obtain ⟨j, hj, hcj, hbo, hT5⟩ := halt.out
        clear halt
        have q0 := hT5.size
        have q1 := hbo.key
        have q2 := hbo.seq
        have q3 := hbo.gone
        have q4 := hbo.val
        simp only [Nat.zero_add] at q1 q2 q3 q4
        have hcle := cost_le hj
        have hcs := costs_setv v.laid a3 c3 hj
        have HC2 := Lib.hid hcs
        have hco : (nth ns j).e.cost = (nth ns j).e.key.length + (nth ns j).e.val.length + 16 := rfl
        have hbd : (nth ns j).e.key.length ≤ 1000000000 ∧ (nth ns j).e.val.length ≤ 1000000000 := by
          have := HFEW.out _ (List.mem_map.2 ⟨nth ns j, by rw [nth_eq _ hj]; exact List.getElem_mem _, rfl⟩)
          omega
        have HBDD := Lib.hid hbd
        have HT5 := Lib.hid hT5
        have f9 : wc.frozen? ⟨tb, 9, none⟩ = false := (hT5.own tb (by simp [blocks])).2.2.1 9
        obtain ⟨S0, hS0⟩ : ∃ S0, S0 = Ent.costs (ns.map Nd.e) := ⟨_, rfl⟩
        obtain ⟨C0, hC0⟩ : ∃ C0, C0 = (nth ns j).e.cost := ⟨_, rfl⟩
        have hSS := HSS.out
        rw [← hS0] at q0 hcle HT5 HC2 hSS
        rw [← hC0] at hcle HC2
        have HHC : Hid (C0 = (nth ns j).e.key.length + (nth ns j).e.val.length + 16) := Lib.hid (hC0.trans hco)
        clear hbo hT5 hcs hco hbd hS0 hC0 hkw hbx
        go_upto_region 6 with fail
        refine wp_region_order [0, 1, 2] [3, 4] [5] [6, 7, 8, 9] 6 (by intro c a d v w h; cases d <;> exact h) (by kernel_rfl) (by kernel_rfl) (fun W' => ∃ V : BW wc, W' = V.w) ⟨⟨wc.drew, (Below.refl _ _).drew⟩, rfl⟩ ?_
        simp only [opsAt, List.filterMap_cons, List.filterMap_nil, List.getElem?_cons_zero, List.getElem?_cons_succ]
        iterate 3
          apply held_step
          · rfl
          · intro W _
            go_simp
            rfl
        refine held_nil ?_
        iterate 2
          apply held_step
          · rfl
          · rintro _ ⟨V, rfl⟩
            have m0 := BW.cell q0 V
            have m1 := BW.cell q1 V
            have m2 := BW.cell q2 V
            have m3 := BW.cell q3 V
            have m4 := BW.cell q4 V
            go_simp
            rfl
        refine held_nil ?_
        refine walkS_step rfl (fun K hK => ?_)
        go_simp
        have hca := cost_any (nth ns j).e (nth ns j).va (nth ns j).vc wc.drew (by have := HBDD.out; omega) (by have := HBDD.out; omega)
        unfold ev at hca
        refine hca.mono ?_
        clear hca
        rintro en w7 ⟨rfl, hb7⟩
        have hb7' : Below wc.heap.size wc w7 := ((Below.refl wc.heap.size wc).drew).trans hb7
        refine hK _ _ ⟨⟨w7, hb7'⟩, rfl⟩ ?_
        refine walkS_nil ?_
        clear hK hb7
        have hT7 := HT5.out.below hb7'
        have hx7 := HBX.out.below hb7'
        have g0 := hT7.size
        have f9' : w7.frozen? ⟨tb, 9, none⟩ = false := (hT7.own tb (by simp [blocks])).2.2.1 9
        clear q0 q1 q2 q3 q4 f9
        rw [← HHC.out]
        have hsub : (S0 : Int) - (C0 : Int) = ((S0 - C0 : Nat) : Int) := by omega
        have hS1 : S0 - C0 ≤ 1000000000000000 := by omega
        obtain ⟨S1, hS1e⟩ : ∃ S1, S1 = S0 - C0 := ⟨_, rfl⟩
        rw [← hS1e] at hsub hS1
        have HS1E := Lib.hid hS1e
        have HSUB := Lib.hid hsub
        have HCLE := Lib.hid hcle
        have hT8 : Tb (w7.setCell ⟨tb, 9, none⟩ (.int .i64 (S1 : Nat))) B tb t0 (setv ns j v.laid a3 c3) hg S1 ad nd cd ld := hT7.resize
        have hntb : w.heap.size ∉ [tb] := fun hm => by
          have h1 := List.mem_singleton.1 hm
          have h2 := HLT.out tb (by simp [blocks])
          omega
        have hk8 : Keep [tb] w7 (w7.setCell ⟨tb, 9, none⟩ (.int .i64 (S1 : Nat))) := (Keep.refl _ w7).set _ (.inr ⟨List.mem_singleton.2 rfl, fun n => by rw [g0]; exact fun e => by cases e⟩)
        have hx8 := hx7.keep hk8 hntb
        have hkk : Keep (blocks tb t0 ns) W4 (w7.setCell ⟨tb, 9, none⟩ (.int .i64 (S1 : Nat))) := (HKW.out.trans (Keep.of_below hb7')).trans (hk8.more (fun g hg => by rw [List.mem_singleton.1 hg]; simp [blocks]))
        have HT8 := Lib.hid hT8
        have HX8 := Lib.hid hx8
        have HKK := Lib.hid hkk
        clear hS1e hT8 hk8 hx8 hkk hT7 hx7 hb7' HT5 HBX HKW
        go_upto_region 7 with fail
        try rw [HSUB.out]
        clear hsub hcle
        obtain ⟨W8, hW8⟩ : ∃ W8, w7.setCell ⟨tb, 9, none⟩ (.int .i64 (S1 : Nat)) = W8 := ⟨_, rfl⟩
        rw [hW8] at HT8 HX8 HKK ⊢
        clear hW8 g0 f9'
        have q0 := HT8.out.size
        have q1 := HX8.out.key
        have q2 := HX8.out.seq
        have q3 := HX8.out.gone
        have q4 := HX8.out.val
        simp only [Nat.zero_add] at q1 q2 q3 q4
        refine wp_region_order [0, 1, 2] [3, 4] [5] [6, 7, 8, 9] 6 (by intro c a d v w h; cases d <;> exact h) (by kernel_rfl) (by kernel_rfl) (fun W' => ∃ V : BW W8, W' = V.w) ⟨⟨W8.drew, (Below.refl _ _).drew⟩, rfl⟩ ?_
        simp only [opsAt, List.filterMap_cons, List.filterMap_nil, List.getElem?_cons_zero, List.getElem?_cons_succ]
        iterate 3
          apply held_step
          · rfl
          · intro W _
            go_simp
            rfl
        refine held_nil ?_
        iterate 2
          apply held_step
          · rfl
          · rintro _ ⟨V, rfl⟩
            have m0 := BW.cell q0 V
            have m1 := BW.cell q1 V
            have m2 := BW.cell q2 V
            have m3 := BW.cell q3 V
            have m4 := BW.cell q4 V
            go_simp
            rfl
        refine held_nil ?_
        refine walkS_step rfl (fun K hK => ?_)
        go_simp
        have hca := cost_any v.laid a3 c3 W8.drew (by have := HLV.out; omega) (by have := HLV.out; omega)
        unfold ev at hca
        refine hca.mono ?_
        clear hca
        rintro en w7 ⟨rfl, hb7⟩
        have hb7' : Below W8.heap.size W8 w7 := ((Below.refl W8.heap.size W8).drew).trans hb7
        refine hK _ _ ⟨⟨w7, hb7'⟩, rfl⟩ ?_
        refine walkS_nil ?_
        clear hK hb7
        rw [← HCL.out]
        have hT9 := HT8.out.below hb7'
        have g0 := hT9.size
        have f9' : w7.frozen? ⟨tb, 9, none⟩ = false := (hT9.own tb (by simp [blocks])).2.2.1 9
        have HE := Lib.hid (HEND.out W8 _ _ _ HKK.out HX8.out HT8.out hS1 w7 hb7')
        have hz7 := hb7'.size
        have hcc : v.laid.cost ≤ 3000000000 := by have := HLV.out; have := HCL.out; omega
        obtain ⟨C1, hC1⟩ : ∃ C1, C1 = v.laid.cost := ⟨_, rfl⟩
        rw [← hC1] at HE hcc ⊢
        have HC1 := Lib.hid hC1
        clear hT9 hb7' q0 q1 q2 q3 q4 hC1
        go_wp2
        go_end0
        refine ⟨a3, c3, setv ns j v.laid a3 c3, hg, rfl, fun x hx => ⟨(HNEW.out x hx).1, ?_⟩, HE.out.2, ?_, ?_⟩
        · have h1 := (HNEW.out x hx).2
          have h2 := HE.out.2.size
          have h3 := HZ4.out
          have h4 := HKK.out.size
          have h5 := hz7
          rw [World.size_setCell]
          omega
        · have e9 : Ent.costs ((setv ns j v.laid a3 c3).map Nd.e) = S1 + C1 := by have h1 := HC2.out; have h2 := HC1.out; have h3 := HS1E.out; have h4 := HCLE.out; omega
          rw [e9]
          exact HE.out.1
        · exact .inl ⟨j, hj, hcj, rfl, rfl⟩
      · obtain ⟨hno, x, hx1, hx2, hx3, hx4, hx5, hT5⟩ := halt.out
        clear halt
        have hcs := costs_ins (ns := ns) (below ns v.laid) x
        rw [hx1] at hcs
        have HC2 := Lib.hid hcs
        have HT8 := Lib.hid hT5
        have HNO := Lib.hid hno
        have HXX := Lib.hid (And.intro hx1 (And.intro hx2 (And.intro hx3 (And.intro hx4 hx5))))
        have HX8 := Lib.hid hbx
        have HKK := Lib.hid hkw
        obtain ⟨S0, hS0⟩ : ∃ S0, S0 = Ent.costs (ns.map Nd.e) := ⟨_, rfl⟩
        have hSS := HSS.out
        rw [← hS0] at HT8 HC2 hSS
        clear hT5 hcs hS0 hkw hbx hno hx1 hx2 hx3 hx4 hx5
        obtain ⟨W8, rfl⟩ : ∃ W8, W8 = wc := ⟨_, rfl⟩
        go_upto_region 7 with fail
        have q0 := HT8.out.size
        have q1 := HX8.out.key
        have q2 := HX8.out.seq
        have q3 := HX8.out.gone
        have q4 := HX8.out.val
        simp only [Nat.zero_add] at q1 q2 q3 q4
        refine wp_region_order [0, 1, 2] [3, 4] [5] [6, 7, 8, 9] 6 (by intro c a d v w h; cases d <;> exact h) (by kernel_rfl) (by kernel_rfl) (fun W' => ∃ V : BW W8, W' = V.w) ⟨⟨W8.drew, (Below.refl _ _).drew⟩, rfl⟩ ?_
        simp only [opsAt, List.filterMap_cons, List.filterMap_nil, List.getElem?_cons_zero, List.getElem?_cons_succ]
        iterate 3
          apply held_step
          · rfl
          · intro W _
            go_simp
            rfl
        refine held_nil ?_
        iterate 2
          apply held_step
          · rfl
          · rintro _ ⟨V, rfl⟩
            have m0 := BW.cell q0 V
            have m1 := BW.cell q1 V
            have m2 := BW.cell q2 V
            have m3 := BW.cell q3 V
            have m4 := BW.cell q4 V
            go_simp
            rfl
        refine held_nil ?_
        refine walkS_step rfl (fun K hK => ?_)
        go_simp
        have hca := cost_any v.laid a3 c3 W8.drew (by have := HLV.out; omega) (by have := HLV.out; omega)
        unfold ev at hca
        refine hca.mono ?_
        clear hca
        rintro en w7 ⟨rfl, hb7⟩
        have hb7' : Below W8.heap.size W8 w7 := ((Below.refl W8.heap.size W8).drew).trans hb7
        refine hK _ _ ⟨⟨w7, hb7'⟩, rfl⟩ ?_
        refine walkS_nil ?_
        clear hK hb7
        rw [← HCL.out]
        have hT9 := HT8.out.below hb7'
        have g0 := hT9.size
        have f9' : w7.frozen? ⟨tb, 9, none⟩ = false := (hT9.own tb (by simp [blocks])).2.2.1 9
        have HE := Lib.hid (HEND.out W8 _ _ _ HKK.out HX8.out HT8.out hSS w7 hb7')
        have hz7 := hb7'.size
        have hcc : v.laid.cost ≤ 3000000000 := by have := HLV.out; have := HCL.out; omega
        obtain ⟨C1, hC1⟩ : ∃ C1, C1 = v.laid.cost := ⟨_, rfl⟩
        rw [← hC1] at HE hcc ⊢
        have HC1 := Lib.hid hC1
        clear hT9 hb7' q0 q1 q2 q3 q4 hC1
        go_wp2
        go_end0
        refine ⟨a3, c3, ins ns (below ns v.laid) x, max hg (tower ld ns.length), rfl, fun x hx => ⟨(HNEW.out x hx).1, ?_⟩, HE.out.2, ?_, ?_⟩
        · have h1 := (HNEW.out x hx).2
          have h2 := HE.out.2.size
          have h3 := HZ4.out
          have h4 := HKK.out.size
          have h5 := hz7
          rw [World.size_setCell]
          omega
        · have e9 : Ent.costs ((ins ns (below ns v.laid) x).map Nd.e) = S0 + C1 := by have h1 := HC2.out; have h2 := HC1.out; omega
          rw [e9]
          exact HE.out.1
        · exact .inr ⟨HNO.out, rfl, x, HXX.out.1, HXX.out.2.1, HXX.out.2.2.1, HXX.out.2.2.2.1, HXX.out.2.2.2.2, rfl⟩
end Go.Proofs.Ytgcealgkhlbgmaa
