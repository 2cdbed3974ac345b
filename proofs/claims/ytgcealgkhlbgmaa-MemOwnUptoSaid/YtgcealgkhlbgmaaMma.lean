/- The law's all and from. -/
import Derived.Test.YtgcealgkhlbgmaaMmZ
namespace Go.Proofs.Ytgcealgkhlbgmaa
open Go.RowKit
set_option linter.unusedVariables false
attribute [local go_sem] Oper.semAt_some

theorem own_ne {w : World} {B B' e e' s s' n n' k k' : Nat} {a a' : Option Addr} {cs cs' : List Value} (h : w.ownsRow B e s (.slice a k n) k cs) (h' : w.ownsRow B' e' s' (.slice a' k' n') k' cs') (hne : e ≠ e') : ∀ x y, a = some x → a' = some y → x.block ≠ y.block := by
  rintro x y rfl rfl e1
  rcases h.2 with ⟨h1, _⟩ | ⟨g, cap, cur, h1, _, h2, _⟩
  · cases h1
  · rcases h'.2 with ⟨h3, _⟩ | ⟨g', cap', cur', h3, _, h4, _⟩
    · cases h3
    · cases h1
      cases h3
      have e2 : g = g' := e1
      rw [e2, h4] at h2
      simp at h2
      exact hne h2.2.symm
/-- A boxed slice of entries that gathers, its row from B on. -/
def Gt (w : World) (B Bo : Nat) (ls : List Ent) (W : World) : Prop := (∃ a k c, Boxed W Bo 23 (.slice a k c) ∧ AccE W B a k c ls) ∧ Below w.heap.size w W
theorem Gt.turned {w W W' : World} {B Bo : Nat} {ls : List Ent} {row : Option Nat} (h : Gt w B Bo ls W) (hg : W.grownBy W' row) (hr : ∀ r, row = some r → ∃ o : Obj, W.heap[r]? = some o ∧ o.isCells = false) (hB : ∀ r, row = some r → w.heap.size ≤ r) : Gt w B Bo ls W' := by
  obtain ⟨⟨a, k, c, h1, h2⟩, h4⟩ := h
  exact ⟨⟨a, k, c, Boxed.turned h1 hg hr, h2.turned hg hr⟩, h4.grown hg h4.size hB⟩
def entsOt (l : List Ent) (xs : List Ot) : List Ent := xs.map fun x => nth l x.1
theorem entsOt_all {l : List Ent} {xs : List Ot} (h : xs.map Prod.fst = List.range l.length) : entsOt l xs = l := by
  have h1 : entsOt l xs = (List.range l.length).map fun i => nth l i := by
    rw [← h, List.map_map]
    rfl
  rw [h1]
  apply List.ext_getElem
  · simp
  · intro i h2 h3
    rw [List.getElem_map, List.getElem_range, nth_eq _ h3]
theorem below_all {ns : List Nd} (h : ∀ i, i < ns.length → (nth ns i).e.seq ≤ 18446744073709551615) : below ns (keyHi []) = 0 := by
  rcases Nat.eq_zero_or_pos (below ns (keyHi [])) with h0 | h0
  · exact h0
  · have h1 := below_lt (ns := ns) (v := keyHi []) (j := 0) h0
    have h2 := below_le ns (keyHi [])
    have h3 := h 0 (by omega)
    rcases Ent.cmp_lt.1 h1 with h4 | ⟨_, h4⟩
    · exfalso
      revert h4
      show Ent.klt (nth ns 0).e.key [] = true → False
      intro h4
      cases h5 : (nth ns 0).e.key with
      | nil => rw [h5] at h4; cases h4
      | cons a b => rw [h5] at h4; cases h4
    · have h5 : 18446744073709551615 < (nth ns 0).e.seq := h4
      omega
theorem tall_any (tb t0 : Nat) (ns : List Nd) (w : World) (hT : SL w tb t0 ns) (hn : ns.length ≤ 1000000000) (hsq : ∀ i, i < ns.length → (nth ns i).e.seq ≤ 18446744073709551615) :
    Calls Try.prog 21 #[.pointer (some ⟨tb, 0, none⟩)] w (FromP w (ns.map Nd.e)) := by
  have HA := Lib.hid (tfrom_any tb t0 ns [] w hT hn)
  rw [below_all hsq, List.drop_zero] at HA
  clear hT
  go_enter Try.func21, Try.ntmps21
  go_wp2_with fail
  refine HA.out.mono ?_
  rintro e w1 ⟨b, a, k, c, rfl, h0, h1, h2, h3⟩
  have H := Lib.hid (⟨b, a, k, c, rfl, h0, h1, h2, h3⟩ : FromP w (ns.map Nd.e) (.returned (.func (.func 46) #[] #[.pointer (some ⟨b, 0, none⟩)])) w1)
  clear h0 h1 h2 h3 HA
  go_wp2
  go_ret
  exact H.out
set_option maxRecDepth 100000 in
set_option maxHeartbeats 4000000 in
theorem lall_any (tb t0 : Nat) (ns : List Nd) (w : World) (hT : SL w tb t0 ns) (hn : ns.length ≤ 1000000000) (hsq : ∀ i, i < ns.length → (nth ns i).e.seq ≤ 18446744073709551615) (hvl : ∀ i, i < ns.length → (nth ns i).e.val.length ≤ 1000000000) :
    Calls Try.prog 13 #[.pointer (some ⟨tb, 0, none⟩)] w (ColP w (ns.map Nd.e)) := by
  have HT := Lib.hid hT
  have HVL : Hid (∀ e ∈ (ns.map Nd.e), e.val.length ≤ 1000000000) := Lib.hid fun e he => by
    have he' : e ∈ ns.map Nd.e := he
    obtain ⟨x, hx, rfl⟩ := List.mem_map.1 he'
    obtain ⟨j, hj, rfl⟩ := List.mem_iff_getElem.1 hx
    have := hvl j hj
    rwa [nth_eq _ hj] at this
  have hll : ((ns.map Nd.e)).length ≤ ns.length := by simp
  have HC : Hid (∀ W, SL W tb t0 ns → Calls Try.prog 21 #[.pointer (some ⟨tb, 0, none⟩)] W (FromP W (ns.map Nd.e))) := Lib.hid fun W hW => tall_any tb t0 ns W hW hn hsq
  obtain ⟨L, hL⟩ : ∃ L, L = (ns.map Nd.e) := ⟨_, rfl⟩
  rw [← hL] at HVL HC hll ⊢
  clear hT hvl hL
  refine calls_marks Try.func13 rfl ?_
  simp only [Try.ntmps13, List.size_toArray, List.length_cons, List.length_nil, Nat.reduceAdd, Nat.reduceSub, Array.replicate_succ, Array.replicate_zero, List.push_toArray, List.append_toArray, List.nil_append, List.cons_append]
  go_wp2_with fail
  have hb0 := below_alloc1 w (.cells #[.slice none 0 0] 23)
  refine (HC.out _ (HT.out.below hb0)).mono ?_
  rintro e w2 ⟨bx, a, n, c, rfl, hbx, hbox, hacc, hb2⟩
  have hzz : (w.alloc (.cells #[.slice none 0 0] 23)).heap.size = w.heap.size + 1 := by simp
  have hlen : n ≤ 1000000000 := by have := hacc.len; omega
  have hz2 := hb2.size
  have hG0 : Gt w w2.heap.size w.heap.size [] w2 := ⟨⟨none, 0, 0, Boxed.below (Boxed.new w _ _) hb2, AccE.nil _ _⟩, hb0.trans (hb2.mono (by simp))⟩
  have hnl : L.length = n := hacc.len
  have hbo0 : Boxed w2 w.heap.size 23 (.slice none 0 0) := Boxed.below (Boxed.new w _ _) hb2
  have HST := Lib.hid (from2_seq 3 bx w.heap.size a n c L w2 hacc.es (fun i hi => HVL.out _ (by rw [nth_eq _ (by omega)]; exact List.getElem_mem _)) hbox.cell hbo0 (fun x hx e => hacc.not_box hbo0 (by decide) (by rw [hx, ← e]; rfl)))
  have HG0 := Lib.hid hG0
  have HNL := Lib.hid hnl
  clear hG0 hbo0 hbox hacc hbx hb2 hb0 hll hnl
  have eg := enters_of Try.func46 (by kernel_rfl) rfl
  go_wp2_with fail
  refine range_x (gf := 46) (lb := #[.pointer (some ⟨bx, 0, none⟩)]) rfl eg HST.out (fun h k => h.trans k) (fun W l o o' hl h hc hw => KeepB.of_below (below_put (Nat.le_refl _) h) hl) (fun W o hW => KeepB.of_below (below_alloc1 W o) hW) (Below.refl _ _) (fun _ => rfl)
    (fun pre W => Gt w w2.heap.size w.heap.size (entsOt L pre) W ∧ w2.heap.size ≤ W.heap.size ∧ pre.length ≤ n) (fun c pre W => False)
    ?_ (fun _ _ _ _ _ h _ _ => h) OtX.own ⟨HG0.out, Nat.le_refl _, Nat.zero_le _⟩ (fun pre W h => h.2.1) (fun x => #[.string (bstr (nth L x.1).key), .int .u64 (nth L x.1).seq, .bool (nth L x.1).gone, .slice x.2.1 (nth L x.1).val.length x.2.2]) 30 ?_ ?_ ?_
  · rintro s W W' row ⟨h1, h2, h3⟩ hg hr
    exact ⟨h1.turned hg (fun r e => (hr r e).2) (fun r e => by have := (hr r e).1; omega), Nat.le_trans h2 hg.size, h3⟩
  · apply Exists.intro
    apply And.intro
    · intro l x W K b hb hK
      simp only [otv, ev]
      gi_wp2
      exact hK
    · rintro l pre ⟨xi, xa, xc⟩ b W ⟨⟨⟨ao, k, co, hbo, hac⟩, hbel⟩, hb2, hpn⟩ hox hb hc hlen
      have hk : k ≤ 1000000000 := by have := hac.len; simp [entsOt] at this; omega
      have hva := hox.2
      have hne := own_ne (hva : World.ownsRow _ _ _ _ _ _ _) hac.row.choose_spec.1 (by decide)
      have hxe : EntAt W b 0 (nth L xi) xa xc := EntAt.of_cells fun j v hj => by
        rw [cell_of_row _ _ _ _ _ _ hc, Nat.zero_add]
        match j, hj with
        | 0, hj => exact hj
        | 1, hj => exact hj
        | 2, hj => exact hj
        | 3, hj => exact hj
        | j + 4, hj => simp [entCells] at hj
      have n1 := hxe.key
      have n2 := hxe.seq
      have n3 := hxe.gone
      have n4 := hxe.val
      simp at n1 n2 n3 n4
      have cb := hbo.cell
      have fb := hbo.frozen
      have HPRE : Hid (entsOt L (pre ++ [(xi, xa, xc)]) = entsOt L pre ++ [nth L xi]) := Lib.hid (by simp [entsOt])
      have HVA := Lib.hid hva.bs
      have HNE := Lib.hid hne
      have HAC := Lib.hid hac
      have HBO := Lib.hid hbo
      have HBE := Lib.hid hbel
      clear hxe hva hne hac hbo hbel hc hox
      dsimp only
      dsimp only at HVA
      generalize nth L xi = xe at *
      refine wpIn_block ?_
      refine round_lit (fun ⟨_, _, h⟩ => h) (by kernel_rfl) ?_
      go_wp2_with (at_builtin; refine app_ent rfl _ _ rfl w2.heap.size rfl (HAC.out.below (below_alloc1 W _)) rfl (load_box W _ _ _) (HVA.out.below (below_alloc1 W _)) (fun h0 x y hx hy e => HNE.out x y hx hy e) (by omega) (le_alloc (by omega)) ?_; intro a4 c4 w4 h4 hb4 hev4; have hbo4 := Boxed.evol (HBO.out.alloc _) (HAC.out.below (below_alloc1 W _)) (by decide) hev4; have cb4 := hbo4.cell; have fb4 := hbo4.frozen; have HBO4 := Lib.hid hbo4; have H4 := Lib.hid h4; have HB4 := Lib.hid hb4; have HEV4 := Lib.hid hev4; clear hbo4 h4 hb4 hev4)
      have hA3 := HAC.out.below (below_alloc1 W (.cells #[.string (bstr xe.key), .int .u64 xe.seq, .bool xe.gone, .slice xa xe.val.length xc] 30))
      have hkb := ((KeepB.of_below (Bo := w.heap.size) ((below_alloc1 W (.cells #[.string (bstr xe.key), .int .u64 xe.seq, .bool xe.gone, .slice xa xe.val.length xc] 30)).mono hb2) (Nat.le_refl _)).trans (KeepB.of_below HB4.out (Nat.le_refl _))).set 0 (.slice a4 (k + 1) c4)
      have hbw := (((below_alloc1 W _).mono HBE.out.size).trans (HB4.out.mono (by omega))).setCell (p := ⟨w.heap.size, 0, none⟩) (Nat.le_refl _) (.slice a4 (k + 1) c4)
      refine ⟨(((KeepsOthers.alloc _ _).trans (hA3.keeps HEV4.out)).trans (KeepsOthers.setCell _ _ _)).from _, hkb, ⟨⟨a4, k + 1, c4, HBO4.out.set _, ?_⟩, HBE.out.trans hbw⟩, Nat.le_trans hb2 hbw.size, by simp; omega⟩
      rw [HPRE.out]
      exact H4.out.setBox HBO4.out (by decide)
  · rintro D xs W hD hS ⟨⟨⟨ao, k, co, hbo, hac⟩, hbel⟩, hb2, hpn⟩ hK
    have cb := hbo.cell
    have hr : ∀ r, some D = some r → ∃ o : Obj, W.heap[r]? = some o ∧ o.isCells = false := fun r e => by cases e; exact ⟨_, hK, rfl⟩
    have hlast : ColP w L (.returned (.slice ao k co)) (W.putObj D (.deferred none)) := ⟨_, _, _, rfl, by
      have := (hac.mono (B' := w.heap.size) (by omega)).turned (grownBy_putObj' W D (.deferred none)) hr
      rwa [entsOt_all (by rw [HNL.out]; exact hS)] at this, hbel.trans (below_shut (by omega) hK)⟩
    have HL := Lib.hid hlast
    have HK := Lib.hid hK
    clear hlast hK hbo hac hbel
    go_wp2
    refine ret_m1 HK.out (results_tmp rfl _ _ _) ?_
    exact HL.out
  · rintro D c pre W hD hSp hx hK
    exact hx.elim
set_option maxRecDepth 100000 in
set_option maxHeartbeats 4000000 in
theorem lfrom_any (tb t0 : Nat) (ns : List Nd) (key : List UInt8) (w : World) (hT : SL w tb t0 ns) (hn : ns.length ≤ 1000000000) (hvl : ∀ i, i < ns.length → (nth ns i).e.val.length ≤ 1000000000) :
    Calls Try.prog 28 #[.pointer (some ⟨tb, 0, none⟩), .string (bstr key)] w (ColP w ((ns.map Nd.e).drop (below ns (keyHi key)))) := by
  have HT := Lib.hid hT
  have HVL : Hid (∀ e ∈ ((ns.map Nd.e).drop (below ns (keyHi key))), e.val.length ≤ 1000000000) := Lib.hid fun e he => by
    have he' : e ∈ ns.map Nd.e := List.mem_of_mem_drop he
    obtain ⟨x, hx, rfl⟩ := List.mem_map.1 he'
    obtain ⟨j, hj, rfl⟩ := List.mem_iff_getElem.1 hx
    have := hvl j hj
    rwa [nth_eq _ hj] at this
  have hll : (((ns.map Nd.e).drop (below ns (keyHi key)))).length ≤ ns.length := by simp
  have HC : Hid (∀ W, SL W tb t0 ns → Calls Try.prog 39 #[.pointer (some ⟨tb, 0, none⟩), .string (bstr key)] W (FromP W ((ns.map Nd.e).drop (below ns (keyHi key))))) := Lib.hid fun W hW => tfrom_any tb t0 ns key W hW hn
  obtain ⟨L, hL⟩ : ∃ L, L = ((ns.map Nd.e).drop (below ns (keyHi key))) := ⟨_, rfl⟩
  rw [← hL] at HVL HC hll ⊢
  clear hT hvl hL
  refine calls_marks Try.func28 rfl ?_
  simp only [Try.ntmps28, List.size_toArray, List.length_cons, List.length_nil, Nat.reduceAdd, Nat.reduceSub, Array.replicate_succ, Array.replicate_zero, List.push_toArray, List.append_toArray, List.nil_append, List.cons_append]
  go_wp2_with fail
  have hb0 := below_alloc1 w (.cells #[.slice none 0 0] 23)
  refine (HC.out _ (HT.out.below hb0)).mono ?_
  rintro e w2 ⟨bx, a, n, c, rfl, hbx, hbox, hacc, hb2⟩
  have hzz : (w.alloc (.cells #[.slice none 0 0] 23)).heap.size = w.heap.size + 1 := by simp
  have hlen : n ≤ 1000000000 := by have := hacc.len; omega
  have hz2 := hb2.size
  have hG0 : Gt w w2.heap.size w.heap.size [] w2 := ⟨⟨none, 0, 0, Boxed.below (Boxed.new w _ _) hb2, AccE.nil _ _⟩, hb0.trans (hb2.mono (by simp))⟩
  have hnl : L.length = n := hacc.len
  have hbo0 : Boxed w2 w.heap.size 23 (.slice none 0 0) := Boxed.below (Boxed.new w _ _) hb2
  have HST := Lib.hid (from2_seq 3 bx w.heap.size a n c L w2 hacc.es (fun i hi => HVL.out _ (by rw [nth_eq _ (by omega)]; exact List.getElem_mem _)) hbox.cell hbo0 (fun x hx e => hacc.not_box hbo0 (by decide) (by rw [hx, ← e]; rfl)))
  have HG0 := Lib.hid hG0
  have HNL := Lib.hid hnl
  clear hG0 hbo0 hbox hacc hbx hb2 hb0 hll hnl
  have eg := enters_of Try.func46 (by kernel_rfl) rfl
  go_wp2_with fail
  refine range_x (gf := 46) (lb := #[.pointer (some ⟨bx, 0, none⟩)]) rfl eg HST.out (fun h k => h.trans k) (fun W l o o' hl h hc hw => KeepB.of_below (below_put (Nat.le_refl _) h) hl) (fun W o hW => KeepB.of_below (below_alloc1 W o) hW) (Below.refl _ _) (fun _ => rfl)
    (fun pre W => Gt w w2.heap.size w.heap.size (entsOt L pre) W ∧ w2.heap.size ≤ W.heap.size ∧ pre.length ≤ n) (fun c pre W => False)
    ?_ (fun _ _ _ _ _ h _ _ => h) OtX.own ⟨HG0.out, Nat.le_refl _, Nat.zero_le _⟩ (fun pre W h => h.2.1) (fun x => #[.string (bstr (nth L x.1).key), .int .u64 (nth L x.1).seq, .bool (nth L x.1).gone, .slice x.2.1 (nth L x.1).val.length x.2.2]) 30 ?_ ?_ ?_
  · rintro s W W' row ⟨h1, h2, h3⟩ hg hr
    exact ⟨h1.turned hg (fun r e => (hr r e).2) (fun r e => by have := (hr r e).1; omega), Nat.le_trans h2 hg.size, h3⟩
  · apply Exists.intro
    apply And.intro
    · intro l x W K b hb hK
      simp only [otv, ev]
      gi_wp2
      exact hK
    · rintro l pre ⟨xi, xa, xc⟩ b W ⟨⟨⟨ao, k, co, hbo, hac⟩, hbel⟩, hb2, hpn⟩ hox hb hc hlen
      have hk : k ≤ 1000000000 := by have := hac.len; simp [entsOt] at this; omega
      have hva := hox.2
      have hne := own_ne (hva : World.ownsRow _ _ _ _ _ _ _) hac.row.choose_spec.1 (by decide)
      have hxe : EntAt W b 0 (nth L xi) xa xc := EntAt.of_cells fun j v hj => by
        rw [cell_of_row _ _ _ _ _ _ hc, Nat.zero_add]
        match j, hj with
        | 0, hj => exact hj
        | 1, hj => exact hj
        | 2, hj => exact hj
        | 3, hj => exact hj
        | j + 4, hj => simp [entCells] at hj
      have n1 := hxe.key
      have n2 := hxe.seq
      have n3 := hxe.gone
      have n4 := hxe.val
      simp at n1 n2 n3 n4
      have cb := hbo.cell
      have fb := hbo.frozen
      have HPRE : Hid (entsOt L (pre ++ [(xi, xa, xc)]) = entsOt L pre ++ [nth L xi]) := Lib.hid (by simp [entsOt])
      have HVA := Lib.hid hva.bs
      have HNE := Lib.hid hne
      have HAC := Lib.hid hac
      have HBO := Lib.hid hbo
      have HBE := Lib.hid hbel
      clear hxe hva hne hac hbo hbel hc hox
      dsimp only
      dsimp only at HVA
      generalize nth L xi = xe at *
      refine wpIn_block ?_
      refine round_lit (fun ⟨_, _, h⟩ => h) (by kernel_rfl) ?_
      go_wp2_with (at_builtin; refine app_ent rfl _ _ rfl w2.heap.size rfl (HAC.out.below (below_alloc1 W _)) rfl (load_box W _ _ _) (HVA.out.below (below_alloc1 W _)) (fun h0 x y hx hy e => HNE.out x y hx hy e) (by omega) (le_alloc (by omega)) ?_; intro a4 c4 w4 h4 hb4 hev4; have hbo4 := Boxed.evol (HBO.out.alloc _) (HAC.out.below (below_alloc1 W _)) (by decide) hev4; have cb4 := hbo4.cell; have fb4 := hbo4.frozen; have HBO4 := Lib.hid hbo4; have H4 := Lib.hid h4; have HB4 := Lib.hid hb4; have HEV4 := Lib.hid hev4; clear hbo4 h4 hb4 hev4)
      have hA3 := HAC.out.below (below_alloc1 W (.cells #[.string (bstr xe.key), .int .u64 xe.seq, .bool xe.gone, .slice xa xe.val.length xc] 30))
      have hkb := ((KeepB.of_below (Bo := w.heap.size) ((below_alloc1 W (.cells #[.string (bstr xe.key), .int .u64 xe.seq, .bool xe.gone, .slice xa xe.val.length xc] 30)).mono hb2) (Nat.le_refl _)).trans (KeepB.of_below HB4.out (Nat.le_refl _))).set 0 (.slice a4 (k + 1) c4)
      have hbw := (((below_alloc1 W _).mono HBE.out.size).trans (HB4.out.mono (by omega))).setCell (p := ⟨w.heap.size, 0, none⟩) (Nat.le_refl _) (.slice a4 (k + 1) c4)
      refine ⟨(((KeepsOthers.alloc _ _).trans (hA3.keeps HEV4.out)).trans (KeepsOthers.setCell _ _ _)).from _, hkb, ⟨⟨a4, k + 1, c4, HBO4.out.set _, ?_⟩, HBE.out.trans hbw⟩, Nat.le_trans hb2 hbw.size, by simp; omega⟩
      rw [HPRE.out]
      exact H4.out.setBox HBO4.out (by decide)
  · rintro D xs W hD hS ⟨⟨⟨ao, k, co, hbo, hac⟩, hbel⟩, hb2, hpn⟩ hK
    have cb := hbo.cell
    have hr : ∀ r, some D = some r → ∃ o : Obj, W.heap[r]? = some o ∧ o.isCells = false := fun r e => by cases e; exact ⟨_, hK, rfl⟩
    have hlast : ColP w L (.returned (.slice ao k co)) (W.putObj D (.deferred none)) := ⟨_, _, _, rfl, by
      have := (hac.mono (B' := w.heap.size) (by omega)).turned (grownBy_putObj' W D (.deferred none)) hr
      rwa [entsOt_all (by rw [HNL.out]; exact hS)] at this, hbel.trans (below_shut (by omega) hK)⟩
    have HL := Lib.hid hlast
    have HK := Lib.hid hK
    clear hlast hK hbo hac hbel
    go_wp2
    refine ret_m1 HK.out (results_tmp rfl _ _ _) ?_
    exact HL.out
  · rintro D c pre W hD hSp hx hK
    exact hx.elim
end Go.Proofs.Ytgcealgkhlbgmaa
