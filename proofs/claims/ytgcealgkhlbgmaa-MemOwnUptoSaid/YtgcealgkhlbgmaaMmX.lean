/- mem.Get. -/
import Derived.Test.YtgcealgkhlbgmaaMmW
import Derived.Test.YtgcealgkhlbgmaaRangeB
namespace Go.Proofs.Ytgcealgkhlbgmaa
open Go.RowKit
set_option linter.unusedVariables false
attribute [local go_sem] Oper.semAt_some

theorem from_any (tb : Nat) (v : Ent) (va : Option Addr) (vc : Nat) (w : World) :
    Calls Try.prog 37 #[.pointer (some ⟨tb, 0, none⟩), ev v va vc] w fun e w' => e = .returned (.func (.func 44) #[] #[.pointer (some ⟨w.heap.size, 0, none⟩), .pointer (some ⟨w.heap.size + 1, 0, none⟩)]) ∧
      w' = (w.alloc (.cells #[.pointer (some ⟨tb, 0, none⟩)] 73)).alloc (.cells #[.string (bstr v.key), .int .u64 v.seq, .bool v.gone, .slice va v.val.length vc] 30) := by
  unfold ev
  go_enter Try.func37, Try.ntmps37
  go_wp2
  go_ret
  exact ⟨by simp, rfl⟩
/-- The sequence from v on. -/
theorem from_stops (m tb t0 : Nat) (ns : List Nd) (v : Ent) (va : Option Addr) (vc : Nat) (B1 B2 : Nat) (wS w : World) (hT : SL wS tb t0 ns) (hV : Bs wS va v.val.length vc v.val) (hSW : Below wS.heap.size wS w) (hB1 : w.cell? ⟨B1, 0, none⟩ = some (.pointer (some ⟨tb, 0, none⟩))) (hB2 : EntAt w B2 0 v va vc) :
    SeqStopsK Fence.wide (m + 1) Try.prog 44 #[.pointer (some ⟨B1, 0, none⟩), .pointer (some ⟨B2, 0, none⟩)] (ixv (ns := ns)) (Below wS.heap.size) (fun xs : List (Ix ns) => xs.map Subtype.val = List.range' (below ns v) (ns.length - below ns v)) (fun pre => pre.map Subtype.val = List.range' (below ns v) pre.length) ns.length w :=
  fun l J Jx W hb hJ _ hY h0 => from1_in m l B1 B2 tb t0 ns v va vc wS hT hV J Jx W (hSW.trans (hb.mono hSW.size)) hJ hY (cell_later hb hB1) (hB2.below hb) h0
/-- What Get leaves in its results' cells, and its key's box. -/
structure GB (w : World) (key : List UInt8) (W : World) : Prop where
  below : Below w.heap.size w W
  key : W.heap[w.heap.size]? = some (.cells #[.string (bstr key)] 9)
  r6 : W.heap[w.heap.size + 1]? = some (.cells #[.string ⟨#[]⟩, .int .u64 0, .bool false, .slice none 0 0] 30)
  r7 : W.heap[w.heap.size + 2]? = some (.cells #[.bool false] 4)
def GD (w : World) (x : Ent) (W : World) : Prop := ∃ a c, Below w.heap.size w W ∧ EntAt W (w.heap.size + 1) 0 x a c ∧ W.cell? ⟨w.heap.size + 2, 0, none⟩ = some (.bool true) ∧ Own W w.heap.size a x.val.length c x.val
theorem cells_turned {W W' : World} {row : Option Nat} {b : Nat} {cs : Array Value} {t : TypeId} {fr : Nat × Nat} (h : W.heap[b]? = some (.cells cs t fr)) (hg : W.grownBy W' row) (hr : ∀ r, row = some r → ∃ o : Obj, W.heap[r]? = some o ∧ o.isCells = false) : W'.heap[b]? = some (.cells cs t fr) := by
  refine (hg.block b (Array.getElem?_eq_some_iff.1 h).1 (fun e' => ?_)).trans h
  obtain ⟨o, ho, hoc⟩ := hr b e'.symm
  rw [h] at ho
  cases ho
  cases hoc
theorem EntAt.turned {W W' : World} {b o : Nat} {e : Ent} {a : Option Addr} {c : Nat} {row : Option Nat} (h : EntAt W b o e a c) (hg : W.grownBy W' row) (hr : ∀ r, row = some r → ∃ o : Obj, W.heap[r]? = some o ∧ o.isCells = false) : EntAt W' b o e a c :=
  ⟨cell_kept h.key hg hr, cell_kept h.seq hg hr, cell_kept h.gone hg hr, cell_kept h.val hg hr⟩
theorem GB.turned {w W W' : World} {key : List UInt8} {row : Option Nat} (h : GB w key W) (hg : W.grownBy W' row) (hr : ∀ r, row = some r → ∃ o : Obj, W.heap[r]? = some o ∧ o.isCells = false) (hB : ∀ r, row = some r → w.heap.size ≤ r) : GB w key W' :=
  ⟨h.below.grown hg h.below.size hB, cells_turned h.key hg hr, cells_turned h.r6 hg hr, cells_turned h.r7 hg hr⟩
theorem GD.turned {w W W' : World} {x : Ent} {row : Option Nat} (h : GD w x W) (hg : W.grownBy W' row) (hr : ∀ r, row = some r → ∃ o : Obj, W.heap[r]? = some o ∧ o.isCells = false) (hB : ∀ r, row = some r → w.heap.size ≤ r) : GD w x W' := by
  obtain ⟨a, c, h1, h2, h3, h4⟩ := h
  exact ⟨a, c, h1.grown hg h1.size hB, h2.turned hg hr, cell_kept h3 hg hr, own_turned h4 hg hr⟩
def GetP (w : World) (ns : List Nd) (key : List UInt8) (p : Nat) (e : Ending) (w' : World) : Prop :=
  Below w.heap.size w w' ∧ ((p < ns.length ∧ (nth ns p).e.key = key ∧ ∃ a c, e = .returned (.tuple #[ev (nth ns p).e a c, .bool true]) ∧ Own w' w.heap.size a (nth ns p).e.val.length c (nth ns p).e.val) ∨
    (¬ (p < ns.length ∧ (nth ns p).e.key = key) ∧ e = .returned (.tuple #[.agg #[.string ⟨#[]⟩, .int .u64 0, .bool false, .slice none 0 0], .bool false])))
theorem get_end {w W : World} {key : List UInt8} {D : Nat} (hgb : GB w key W) (hK : W.heap[D]? = some (.deferred (some []))) (hD : w.heap.size ≤ D) :
    ((put4 W (w.heap.size + 1) default none 0).setCell ⟨w.heap.size + 2, 0, none⟩ (.bool false)).heap[D]? = some (.deferred (some [])) ∧
    EntAt (((put4 W (w.heap.size + 1) default none 0).setCell ⟨w.heap.size + 2, 0, none⟩ (.bool false)).putObj D (.deferred none)) (w.heap.size + 1) 0 default none 0 ∧
    (((put4 W (w.heap.size + 1) default none 0).setCell ⟨w.heap.size + 2, 0, none⟩ (.bool false)).putObj D (.deferred none)).cell? ⟨w.heap.size + 2, 0, none⟩ = some (.bool false) ∧
    Below w.heap.size w (((put4 W (w.heap.size + 1) default none 0).setCell ⟨w.heap.size + 2, 0, none⟩ (.bool false)).putObj D (.deferred none)) := by
  have hko : KeepsOthers W ((put4 W (w.heap.size + 1) default none 0).setCell ⟨w.heap.size + 2, 0, none⟩ (.bool false)) := by
    unfold put4
    exact ((((KeepsOthers.setCell _ _ _).trans (KeepsOthers.setCell _ _ _)).trans (KeepsOthers.setCell _ _ _)).trans (KeepsOthers.setCell _ _ _)).trans (KeepsOthers.setCell _ _ _)
  have h1 := hko.same D _ hK rfl
  have hr : ∀ r, some D = some r → ∃ o : Obj, ((put4 W (w.heap.size + 1) default none 0).setCell ⟨w.heap.size + 2, 0, none⟩ (.bool false)).heap[r]? = some o ∧ o.isCells = false := fun r e => by cases e; exact ⟨_, h1, rfl⟩
  have h7 : (put4 W (w.heap.size + 1) default none 0).cell? ⟨w.heap.size + 2, 0, none⟩ = some (.bool false) := by
    rw [put4_other (fun j _ e => by have h9 : w.heap.size + 1 = w.heap.size + 2 := congrArg Addr.block e; omega), cell_of_row _ _ 0 _ _ _ hgb.r7]
    rfl
  have h6 : EntAt W (w.heap.size + 1) 0 default none 0 := ⟨cell_of_row _ _ 0 _ _ _ hgb.r6, cell_of_row _ _ 1 _ _ _ hgb.r6, cell_of_row _ _ 2 _ _ _ hgb.r6, cell_of_row _ _ 3 _ _ _ hgb.r6⟩
  have hb : Below w.heap.size w ((put4 W (w.heap.size + 1) default none 0).setCell ⟨w.heap.size + 2, 0, none⟩ (.bool false)) := by
    unfold put4
    exact ((((hgb.below.setCell (p := ⟨w.heap.size + 1, 0, none⟩) (Nat.le_succ _) _).setCell (p := ⟨w.heap.size + 1, 1, none⟩) (Nat.le_succ _) _).setCell (p := ⟨w.heap.size + 1, 2, none⟩) (Nat.le_succ _) _).setCell (p := ⟨w.heap.size + 1, 3, none⟩) (Nat.le_succ _) _).setCell (p := ⟨w.heap.size + 2, 0, none⟩) (by show w.heap.size ≤ w.heap.size + 2; omega) _
  refine ⟨h1, ?_, ?_, hb.trans (below_shut hD h1)⟩
  · refine EntAt.turned ?_ (grownBy_putObj' _ D _) hr
    exact (put4_at h6).keep (Keep.set (S := [w.heap.size + 2]) (p := ⟨w.heap.size + 2, 0, none⟩) (Keep.refl _ _) _ (.inr ⟨List.mem_singleton.2 rfl, fun n => by rw [h7]; exact fun e => by cases e⟩)) (fun hm => by have := List.mem_singleton.1 hm; omega)
  · refine cell_kept ?_ (grownBy_putObj' _ D _) hr
    exact World.cell?_setCell_same' _ _ _ (by rw [h7]; rfl)
def key0 (key : List UInt8) (up : Nat) : Ent := { key := key, seq := up, gone := false, val := [] }
set_option maxRecDepth 100000 in
set_option maxHeartbeats 4000000 in
theorem get_any (B tb t0 : Nat) (ns : List Nd) (hg sz : Nat) (ad : Option Addr) (nd cd : Nat) (ld : List Int) (key : List UInt8) (up : Nat) (w : World) (h : Tb w B tb t0 ns hg sz ad nd cd ld) (hvl : ∀ i, i < ns.length → (nth ns i).e.val.length ≤ 1000000000) :
    Calls Try.prog 20 #[.pointer (some ⟨tb, 0, none⟩), .string (bstr key), .int .u64 up] w (GetP w ns key (below ns (key0 key up))) := by
  have HT := Lib.hid h.sl
  have HVL := Lib.hid hvl
  clear h hvl
  obtain ⟨p, hp⟩ : ∃ p, p = below ns (key0 key up) := ⟨_, rfl⟩
  rw [← hp]
  have HPE := Lib.hid hp
  clear hp
  refine calls_marks Try.func20 rfl ?_
  simp only [Try.ntmps20, List.size_toArray, List.length_cons, List.length_nil, Nat.reduceAdd, Nat.reduceSub, Array.replicate_succ, Array.replicate_zero, List.push_toArray, List.append_toArray, List.nil_append, List.cons_append]
  go_upto_region 1 with fail
  have hgb : GB w key (((w.alloc (.cells #[.string (bstr key)] 9)).alloc (.cells #[.string ⟨#[]⟩, .int .u64 0, .bool false, .slice none 0 0] 30)).alloc (.cells #[.bool false] 4)) := by
    have h0 := heap_alloc_new w (.cells #[.string (bstr key)] 9)
    have h1 := heap_alloc_new (w.alloc (.cells #[.string (bstr key)] 9)) (.cells #[.string ⟨#[]⟩, .int .u64 0, .bool false, .slice none 0 0] 30)
    have h2 := heap_alloc_new ((w.alloc (.cells #[.string (bstr key)] 9)).alloc (.cells #[.string ⟨#[]⟩, .int .u64 0, .bool false, .slice none 0 0] 30)) (.cells #[.bool false] 4)
    rw [World.size_alloc] at h1
    rw [World.size_alloc, World.size_alloc] at h2
    refine ⟨(((Below.refl _ _).alloc (Nat.le_refl _) _).alloc (by simp) _).alloc (by simp; omega) _, ?_, ?_, h2⟩
    · exact (Below.heap_alloc _ _ _ (by simp; omega)).trans ((Below.heap_alloc _ _ _ (by simp)).trans h0)
    · exact (Below.heap_alloc _ _ _ (by simp)).trans h1
  have hz0 : (((w.alloc (.cells #[.string (bstr key)] 9)).alloc (.cells #[.string ⟨#[]⟩, .int .u64 0, .bool false, .slice none 0 0] 30)).alloc (.cells #[.bool false] 4)).heap.size = w.heap.size + 3 := by simp
  obtain ⟨W0, hW0⟩ : ∃ W0, ((w.alloc (.cells #[.string (bstr key)] 9)).alloc (.cells #[.string ⟨#[]⟩, .int .u64 0, .bool false, .slice none 0 0] 30)).alloc (.cells #[.bool false] 4) = W0 := ⟨_, rfl⟩
  rw [hW0] at hgb hz0 ⊢
  clear hW0
  have k0 := cell_of_row _ _ 0 _ _ _ hgb.key
  have HGB := Lib.hid hgb
  have HZ0 := Lib.hid hz0
  clear hgb hz0
  simp at k0
  refine wp_then_only ?_
  refine wp_region_order [0, 1, 2, 4] [3, 5] [] [6] 6 (by intro c a d v w h; exact h.elim) (by kernel_rfl) (by kernel_rfl) (fun W' => ∃ V : BW W0, W' = V.w) ⟨⟨W0.drew, (Below.refl _ _).drew⟩, rfl⟩ ?_
  simp only [opsAt, List.filterMap_cons, List.filterMap_nil, List.getElem?_cons_zero, List.getElem?_cons_succ]
  iterate 4
    apply held_step
    · rfl
    · intro W _
      go_simp
      rfl
  refine held_nil ?_
  iterate 2
    apply held_step
    · rfl
    · rintro _ ⟨V, rfl⟩
      have m1 := BW.cell k0 V
      go_simp
      rfl
  refine held_nil ?_
  refine walkS_nil ?_
  go_wp2_with fail
  have hfa := from_any tb (key0 key up) none 0 W0.drew
  unfold ev at hfa
  refine hfa.mono ?_
  clear hfa
  rintro e w2 ⟨rfl, hw2⟩
  have hb2 : Below W0.heap.size W0 w2 := by rw [hw2]; exact ((Below.refl W0.heap.size W0).drew.alloc (Nat.le_refl _) _).alloc (by simp) _
  have hB1 : w2.cell? ⟨W0.heap.size, 0, none⟩ = some (.pointer (some ⟨tb, 0, none⟩)) := by
    rw [hw2]
    exact cell_later (below_alloc1 _ _) (cell_of_row _ _ 0 _ _ _ (heap_alloc_new W0.drew (.cells #[.pointer (some ⟨tb, 0, none⟩)] 73)))
  have hB2 : EntAt w2 (W0.heap.size + 1) 0 (key0 key up) none 0 := by
    rw [hw2]
    have := load_box (W0.drew.alloc (.cells #[.pointer (some ⟨tb, 0, none⟩)] 73)) (key0 key up) none 0
    rwa [World.size_alloc] at this
  clear hw2
  have hGB2 : GB w key w2 := by
    have hz := HZ0.out
    have hg := HGB.out
    exact ⟨hg.below.trans (hb2.mono hg.below.size), (hb2.block _ (by omega)).trans hg.key, (hb2.block _ (by omega)).trans hg.r6, (hb2.block _ (by omega)).trans hg.r7⟩
  have HG2 := Lib.hid hGB2
  have hz2 : w.heap.size + 3 ≤ w2.heap.size := by have := hb2.size; have := HZ0.out; omega
  have eg := enters_of Try.func44 (by kernel_rfl) rfl
  have hst := from_stops 3 tb t0 ns (key0 key up) none 0 W0.heap.size (W0.heap.size + 1) w w2 HT.out (Bs.nil _) hGB2.below hB1 hB2
  rw [← HPE.out] at hst
  have HST := Lib.hid hst
  have HB2 := Lib.hid hb2
  clear hb2 hB1 hB2 hGB2 hst k0
  go_wp2_with fail
  refine range_box (gf := 44) (lb := #[.pointer (some ⟨W0.heap.size, 0, none⟩), .pointer (some ⟨W0.heap.size + 1, 0, none⟩)]) rfl eg HST.out (fun h k => h.trans k)
    (fun W l o o' hl h hc hw => belowK_b (by omega) W l o o' hl h hc hw) (Below.refl _ _) (fun _ => rfl) (fun W o hW => (Below.refl _ _).alloc (by omega) o)
    (fun pre W => pre = [] ∧ GB w key W ∧ w2.heap.size ≤ W.heap.size)
    (fun c pre W => (c = .exit 0 ∧ GB w key W ∧ ∃ x : Ix ns, pre = [x] ∧ (nth ns x.1).e.key ≠ key) ∨ (c = .ret ∧ ∃ x : Ix ns, pre = [x] ∧ (nth ns x.1).e.key = key ∧ GD w (nth ns x.1).e W))
    ?_ ?_ ⟨rfl, HG2.out, Nat.le_refl _⟩ (fun pre W h => h.2.2) (fun x => #[.string (bstr (nth ns x.1).e.key), .int .u64 (nth ns x.1).e.seq, .bool (nth ns x.1).e.gone, .slice (nth ns x.1).va (nth ns x.1).e.val.length (nth ns x.1).vc]) 30 ?_ ?_ ?_
  · rintro s W W' row ⟨h1, h2, h3⟩ hg hr
    exact ⟨h1, h2.turned hg (fun r e => (hr r e).2) (fun r e => by have := (hr r e).1; omega), Nat.le_trans h3 hg.size⟩
  · rintro c s W W' row hs hg hr
    rcases hs with ⟨h1, h2, h3⟩ | ⟨h1, x, h2, h3, h4⟩
    · exact .inl ⟨h1, h2.turned hg (fun r e => (hr r e).2) (fun r e => by have := (hr r e).1; omega), h3⟩
    · exact .inr ⟨h1, x, h2, h3, h4.turned hg (fun r e => (hr r e).2) (fun r e => by have := (hr r e).1; omega)⟩
  · apply Exists.intro
    apply And.intro
    · intro l x W K b hb hK
      simp only [ixv, ev]
      gi_wp2
      exact hK
    · rintro l pre x b W hl hr ⟨rfl, hgb, hsz⟩ hb hc hlen
      have hx := x.2
      have hvl := HVL.out x.1 x.2
      have hnd := (HT.out.below hgb.below).nd x.1 x.2
      have HND := Lib.hid hnd.1.val
      have hxe : EntAt W b 0 (nth ns x.1).e (nth ns x.1).va (nth ns x.1).vc := EntAt.of_cells fun j v hj => by
        rw [cell_of_row _ _ _ _ _ _ hc, Nat.zero_add]
        match j, hj with
        | 0, hj => exact hj
        | 1, hj => exact hj
        | 2, hj => exact hj
        | 3, hj => exact hj
        | j + 4, hj => simp [entCells] at hj
      have n1 := hxe.key
      have n2 := hxe.seq
      have n3 := hxe.gone
      have n4 := hxe.val
      have k0 := cell_of_row _ _ 0 _ _ _ hgb.key
      simp at n1 n2 n3 n4 k0
      clear hnd hxe
      by_cases hk : (nth ns x.1).e.key = key
      · have t1 : ((bstr (nth ns x.1).e.key).toList != (bstr key).toList) = false := by simp only [bne, bstr_beq]; simp [hk]
        have t2 : ((bstr (nth ns x.1).e.key).toList == (bstr key).toList) = true := by rw [bstr_beq]; exact decide_eq_true hk
        have HK := Lib.hid hk
        have HGBW := Lib.hid hgb
        clear hk hc hgb
        gi_wp2_with fail
        refine ⟨trivial, ?_⟩
        have hap := apart_any (nth ns x.1).e (nth ns x.1).va (nth ns x.1).vc W HND.out hvl
        unfold ev at hap
        refine (calls_in hap).mono ?_
        clear hap
        rintro en w3 ⟨a3, c3, rfl, ho3, hb3⟩
        have hgw := HGBW.out
        have hws := hgw.below.size
        have h6 := (hb3.block (w.heap.size + 1) (by omega)).trans hgw.r6
        have h7 := (hb3.block (w.heap.size + 2) (by omega)).trans hgw.r7
        have r0 := cell_of_row _ _ 0 _ _ _ h6
        have r1 := cell_of_row _ _ 1 _ _ _ h6
        have r2 := cell_of_row _ _ 2 _ _ _ h6
        have r3 := cell_of_row _ _ 3 _ _ _ h6
        have r4 := cell_of_row _ _ 0 _ _ _ h7
        have f6 : ∀ j, w3.frozen? ⟨w.heap.size + 1, j, none⟩ = false := fun j => by simp [World.frozen?, h6]
        have f7 : ∀ j, w3.frozen? ⟨w.heap.size + 1 + 1, j, none⟩ = false := fun j => by simp [World.frozen?, h7]
        have hz : EntAt w3 (w.heap.size + 1) 0 default none 0 := ⟨r0, r1, r2, r3⟩
        simp at r0 r1 r2 r3 r4
        have HO3 := Lib.hid ho3
        have HB3 := Lib.hid hb3
        have HZ := Lib.hid hz
        have H7 := Lib.hid h7
        have HWS := Lib.hid hws
        clear ho3 hb3 hgw h6 h7 hz n1 n2 n3 n4 k0 hws
        simp only [ev]
        gi_wp2
        have hws := HWS.out
        have hko : KeepsOthers W ((put4 w3 (w.heap.size + 1) (nth ns x.1).e a3 c3).setCell ⟨w.heap.size + 2, 0, none⟩ (.bool true)) := by
          unfold put4
          exact (((((keeps_below HB3.out).trans (KeepsOthers.setCell _ _ _)).trans (KeepsOthers.setCell _ _ _)).trans (KeepsOthers.setCell _ _ _)).trans (KeepsOthers.setCell _ _ _)).trans (KeepsOthers.setCell _ _ _)
        have hk3 : ∀ g, W.heap.size ≤ g → ((put4 w3 (w.heap.size + 1) (nth ns x.1).e a3 c3).setCell ⟨w.heap.size + 2, 0, none⟩ (.bool true)).heap[g]? = w3.heap[g]? := fun g hg => by
          unfold put4
          rw [Below.heap_setCell _ _ _ _ (by show g ≠ w.heap.size + 2; omega), Below.heap_setCell _ _ _ _ (by show g ≠ w.heap.size + 1; omega), Below.heap_setCell _ _ _ _ (by show g ≠ w.heap.size + 1; omega), Below.heap_setCell _ _ _ _ (by show g ≠ w.heap.size + 1; omega), Below.heap_setCell _ _ _ _ (by show g ≠ w.heap.size + 1; omega)]
        have hb9 : Below w.heap.size w ((put4 w3 (w.heap.size + 1) (nth ns x.1).e a3 c3).setCell ⟨w.heap.size + 2, 0, none⟩ (.bool true)) := by
          unfold put4
          have h0 := HGBW.out.below.trans (HB3.out.mono HGBW.out.below.size)
          exact ((((h0.setCell (p := ⟨w.heap.size + 1, 0, none⟩) (Nat.le_succ _) _).setCell (p := ⟨w.heap.size + 1, 1, none⟩) (Nat.le_succ _) _).setCell (p := ⟨w.heap.size + 1, 2, none⟩) (Nat.le_succ _) _).setCell (p := ⟨w.heap.size + 1, 3, none⟩) (Nat.le_succ _) _).setCell (p := ⟨w.heap.size + 2, 0, none⟩) (by show w.heap.size ≤ w.heap.size + 2; omega) _
        refine ⟨hko.from _, .inr ⟨rfl, x, rfl, HK.out, a3, c3, hb9, ?_, ?_, ?_⟩⟩
        · have h0 : EntAt (put4 w3 (w.heap.size + 1) (nth ns x.1).e a3 c3) (w.heap.size + 1) 0 (nth ns x.1).e a3 c3 := put4_at HZ.out
          exact h0.keep (Keep.set (S := [w.heap.size + 2]) (p := ⟨w.heap.size + 2, 0, none⟩) (Keep.refl _ _) _ (.inr ⟨List.mem_singleton.2 rfl, fun n => by rw [put4_other (fun j _ e => by have h9 : w.heap.size + 1 = w.heap.size + 2 := congrArg Addr.block e; omega), cell_of_row _ _ 0 _ _ _ H7.out]; exact fun e => by cases e⟩)) (fun hm => by have := List.mem_singleton.1 hm; omega)
        · have h9 : (put4 w3 (w.heap.size + 1) (nth ns x.1).e a3 c3).cell? ⟨w.heap.size + 2, 0, none⟩ = some (.bool false) := by
            rw [put4_other (fun j _ e => by have h9 : w.heap.size + 1 = w.heap.size + 2 := congrArg Addr.block e; omega), cell_of_row _ _ 0 _ _ _ H7.out]
            rfl
          exact World.cell?_setCell_same' _ _ _ (by show ((put4 w3 (w.heap.size + 1) (nth ns x.1).e a3 c3).cell? ⟨w.heap.size + 2, 0, none⟩).isSome = true; rw [h9]; rfl)
        · exact own_mono (own_keep (HO3.out : World.ownsRow _ _ _ _ _ _ _) hk3) hws
      · have t1 : ((bstr (nth ns x.1).e.key).toList != (bstr key).toList) = true := by simp only [bne, bstr_beq]; simp [hk]
        have t2 : ((bstr (nth ns x.1).e.key).toList == (bstr key).toList) = false := by rw [bstr_beq]; exact decide_eq_false hk
        have HK := Lib.hid hk
        have HGBW := Lib.hid hgb
        clear hk hc hgb
        gi_wp2_with fail
        exact ⟨KeepsFrom.refl _ _, .inl ⟨rfl, HGBW.out, x, rfl, HK.out⟩⟩
  · rintro D xs W hD hS ⟨rfl, hgb, hsz⟩ hK
    have hpe : ¬ p < ns.length := fun hlt => by
      have := congrArg List.length hS
      simp at this
      omega
    replace hpe : ¬ (p < ns.length ∧ (nth ns p).e.key = key) := fun h => hpe h.1
    have HGBW := Lib.hid hgb
    have r0 := cell_of_row _ _ 0 _ _ _ hgb.r6
    have r1 := cell_of_row _ _ 1 _ _ _ hgb.r6
    have r2 := cell_of_row _ _ 2 _ _ _ hgb.r6
    have r3 := cell_of_row _ _ 3 _ _ _ hgb.r6
    have r4 := cell_of_row _ _ 0 _ _ _ hgb.r7
    have f6 : ∀ j, W.frozen? ⟨w.heap.size + 1, j, none⟩ = false := fun j => by simp [World.frozen?, hgb.r6]
    have f7 : ∀ j, W.frozen? ⟨w.heap.size + 1 + 1, j, none⟩ = false := fun j => by simp [World.frozen?, hgb.r7]
    simp at r0 r1 r2 r3 r4
    have HKK := Lib.hid hK
    have HPN := Lib.hid hpe
    clear hgb hK hpe
    go_wp2
    obtain ⟨e1, e2, e3, e4⟩ := get_end HGBW.out HKK.out (Nat.le_trans HG2.out.below.size hD)
    have q0 := e2.key
    have q1 := e2.seq
    have q2 := e2.gone
    have q3 := e2.val
    generalize hwf : World.setCell _ ⟨w.heap.size + 1 + 1, 0, none⟩ _ = wf
    have hwf2 : (put4 W (w.heap.size + 1) default none 0).setCell ⟨w.heap.size + 2, 0, none⟩ (.bool false) = wf := hwf
    rw [hwf2] at e1 e3 e4 q0 q1 q2 q3
    have q0' : (wf.putObj D (.deferred none)).cell? ⟨w.heap.size + 1, 0, none⟩ = some (.string ⟨#[]⟩) := q0
    have q1' : (wf.putObj D (.deferred none)).cell? ⟨w.heap.size + 1, 1, none⟩ = some (.int .u64 0) := q1
    have q2' : (wf.putObj D (.deferred none)).cell? ⟨w.heap.size + 1, 2, none⟩ = some (.bool false) := q2
    have q3' : (wf.putObj D (.deferred none)).cell? ⟨w.heap.size + 1, 3, none⟩ = some (.slice none 0 0) := q3
    have e3' : (wf.putObj D (.deferred none)).cell? ⟨w.heap.size + 1 + 1, 0, none⟩ = some (.bool false) := e3
    clear hwf hwf2 e2 q0 q1 q2 q3
    refine ret_m1 e1 (v := .tuple #[.agg #[.string ⟨#[]⟩, .int .u64 0, .bool false, .slice none 0 0], .bool false]) ?_ ⟨e4, .inr ⟨HPN.out, rfl⟩⟩
    simp [results, Try.results20, go_sem, q0', q1', q2', q3', e3, e3']
  · rintro D c pre W hD hSp hx hK
    rcases hx with ⟨rfl, hgb, x, rfl, hne⟩ | ⟨rfl, x, rfl, hke, hgd⟩
    · have hpe : ¬ (p < ns.length ∧ (nth ns p).e.key = key) := fun h => by
        have hx := hSp
        simp at hx
        rw [hx] at hne
        exact hne h.2
      have HGBW := Lib.hid hgb
      have r0 := cell_of_row _ _ 0 _ _ _ hgb.r6
      have r1 := cell_of_row _ _ 1 _ _ _ hgb.r6
      have r2 := cell_of_row _ _ 2 _ _ _ hgb.r6
      have r3 := cell_of_row _ _ 3 _ _ _ hgb.r6
      have r4 := cell_of_row _ _ 0 _ _ _ hgb.r7
      have f6 : ∀ j, W.frozen? ⟨w.heap.size + 1, j, none⟩ = false := fun j => by simp [World.frozen?, hgb.r6]
      have f7 : ∀ j, W.frozen? ⟨w.heap.size + 1 + 1, j, none⟩ = false := fun j => by simp [World.frozen?, hgb.r7]
      simp at r0 r1 r2 r3 r4
      have HKK := Lib.hid hK
      have HPN := Lib.hid hpe
      clear hgb hK hpe
      go_wp2
      obtain ⟨e1, e2, e3, e4⟩ := get_end HGBW.out HKK.out (Nat.le_trans HG2.out.below.size hD)
      have q0 := e2.key
      have q1 := e2.seq
      have q2 := e2.gone
      have q3 := e2.val
      generalize hwf : World.setCell _ ⟨w.heap.size + 1 + 1, 0, none⟩ _ = wf
      have hwf2 : (put4 W (w.heap.size + 1) default none 0).setCell ⟨w.heap.size + 2, 0, none⟩ (.bool false) = wf := hwf
      rw [hwf2] at e1 e3 e4 q0 q1 q2 q3
      have q0' : (wf.putObj D (.deferred none)).cell? ⟨w.heap.size + 1, 0, none⟩ = some (.string ⟨#[]⟩) := q0
      have q1' : (wf.putObj D (.deferred none)).cell? ⟨w.heap.size + 1, 1, none⟩ = some (.int .u64 0) := q1
      have q2' : (wf.putObj D (.deferred none)).cell? ⟨w.heap.size + 1, 2, none⟩ = some (.bool false) := q2
      have q3' : (wf.putObj D (.deferred none)).cell? ⟨w.heap.size + 1, 3, none⟩ = some (.slice none 0 0) := q3
      have e3' : (wf.putObj D (.deferred none)).cell? ⟨w.heap.size + 1 + 1, 0, none⟩ = some (.bool false) := e3
      clear hwf hwf2 e2 q0 q1 q2 q3
      refine ret_m1 e1 (v := .tuple #[.agg #[.string ⟨#[]⟩, .int .u64 0, .bool false, .slice none 0 0], .bool false]) ?_ ⟨e4, .inr ⟨HPN.out, rfl⟩⟩
      simp [results, Try.results20, go_sem, q0', q1', q2', q3', e3, e3']
    · have hpx : x.1 = p := by simpa using hSp
      have hpl : p < ns.length := by rw [← hpx]; exact x.2
      rw [hpx] at hke hgd
      obtain ⟨a, c, g1, g2, g3, g4⟩ := hgd
      have hr : ∀ r, some D = some r → ∃ o : Obj, W.heap[r]? = some o ∧ o.isCells = false := fun r e => by cases e; exact ⟨_, hK, rfl⟩
      have q := EntAt.turned g2 (grownBy_putObj' W D (.deferred none)) hr
      have q0 := q.key
      have q1 := q.seq
      have q2 := q.gone
      have q3 := q.val
      have q4 := cell_kept g3 (grownBy_putObj' W D (.deferred none)) hr
      have q4' : (W.putObj D (.deferred none)).cell? ⟨w.heap.size + 1 + 1, 0, none⟩ = some (.bool true) := q4
      simp at q0 q1 q2 q3
      have HG4 := Lib.hid (own_turned (g4 : World.ownsRow _ _ _ _ _ _ _) (grownBy_putObj' W D (.deferred none)) hr)
      have HBF := Lib.hid (g1.trans (below_shut (Nat.le_trans HG2.out.below.size hD) hK : Below w.heap.size W (W.putObj D (.deferred none))))
      have HKE := Lib.hid hke
      have HKK := Lib.hid hK
      clear q g1 g2 g3 g4 hke hK
      go_wp2
      refine ret_m1 HKK.out (v := .tuple #[ev (nth ns p).e a c, .bool true]) ?_ ⟨HBF.out, .inl ⟨hpl, HKE.out, a, c, rfl, HG4.out⟩⟩
      simp [results, Try.results20, go_sem, ev, q0, q1, q2, q3, q4, q4']
end Go.Proofs.Ytgcealgkhlbgmaa
