/- Cold stripes: pointers that are made. -/
import Derived.Test.YtfgifndpglgjkaaGreatDoorZCdF
import Derived.Test.YtfgifndpglgjkaaGreatDoorZQRsL
set_option linter.unusedVariables false
set_option linter.unusedSimpArgs false
set_option maxRecDepth 100000
set_option linter.unusedVariables false
set_option linter.unusedSimpArgs false
namespace Go.Proofs.YtfgifndpglgjkaaGreatDoor
open Go.RowKit

theorem cells9 {w : World} {b : Nat} {t : TypeId} {v0 v1 v2 v3 v4 v5 v6 v7 v8 : Value} (h : w.heap[b]? = some (.cells #[v0, v1, v2, v3, v4, v5, v6, v7, v8] t (0, 0))) :
    w.cell? ⟨b, 0, none⟩ = some v0 ∧ w.cell? ⟨b, 1, none⟩ = some v1 ∧ w.cell? ⟨b, 2, none⟩ = some v2 ∧ w.cell? ⟨b, 3, none⟩ = some v3 ∧ w.cell? ⟨b, 4, none⟩ = some v4 ∧ w.cell? ⟨b, 5, none⟩ = some v5 ∧ w.cell? ⟨b, 6, none⟩ = some v6 ∧ w.cell? ⟨b, 7, none⟩ = some v7 ∧ w.cell? ⟨b, 8, none⟩ = some v8 ∧ ∀ j, w.frozen? ⟨b, j, none⟩ = false :=
  ⟨(cell_of_row _ _ 0 _ _ _ h).trans rfl, (cell_of_row _ _ 1 _ _ _ h).trans rfl, (cell_of_row _ _ 2 _ _ _ h).trans rfl, (cell_of_row _ _ 3 _ _ _ h).trans rfl, (cell_of_row _ _ 4 _ _ _ h).trans rfl, (cell_of_row _ _ 5 _ _ _ h).trans rfl, (cell_of_row _ _ 6 _ _ _ h).trans rfl, (cell_of_row _ _ 7 _ _ _ h).trans rfl, (cell_of_row _ _ 8 _ _ _ h).trans rfl, fun j => by simp [World.frozen?, h]⟩
theorem heap_setC {w : World} {bk j : Nat} {cs : Array Value} {t : TypeId} {v : Value} (h : w.heap[bk]? = some (.cells cs t (0, 0))) : (w.setCell ⟨bk, j, none⟩ v).heap[bk]? = some (.cells (cs.setIfInBounds j v) t (0, 0)) := by
  show (w.heap.modify bk _)[bk]? = _
  obtain ⟨hlt, hk⟩ := Array.getElem?_eq_some_iff.1 h
  rw [Array.getElem?_eq_getElem (by rw [Array.size_modify]; exact hlt), Array.getElem_modify_self, hk]
  rfl
/-- Nine cells are written anew. -/
theorem set9 {w : World} {b : Nat} {t : TypeId} {x0 x1 x2 x3 x4 x5 x6 x7 x8 : Value} (v0 v1 v2 v3 v4 v5 v6 v7 v8 : Value) (h : w.heap[b]? = some (.cells #[x0, x1, x2, x3, x4, x5, x6, x7, x8] t (0, 0))) {B : Nat} (hB : B ≤ b) :
    (((((((((w.setCell ⟨b, 0, none⟩ v0).setCell ⟨b, 1, none⟩ v1).setCell ⟨b, 2, none⟩ v2).setCell ⟨b, 3, none⟩ v3).setCell ⟨b, 4, none⟩ v4).setCell ⟨b, 5, none⟩ v5).setCell ⟨b, 6, none⟩ v6).setCell ⟨b, 7, none⟩ v7).setCell ⟨b, 8, none⟩ v8).heap[b]? = some (.cells #[v0, v1, v2, v3, v4, v5, v6, v7, v8] t (0, 0)) ∧
    (B ≤ w.heap.size → Below B w (((((((((w.setCell ⟨b, 0, none⟩ v0).setCell ⟨b, 1, none⟩ v1).setCell ⟨b, 2, none⟩ v2).setCell ⟨b, 3, none⟩ v3).setCell ⟨b, 4, none⟩ v4).setCell ⟨b, 5, none⟩ v5).setCell ⟨b, 6, none⟩ v6).setCell ⟨b, 7, none⟩ v7).setCell ⟨b, 8, none⟩ v8)) ∧
    ∀ g, g ≠ b → (((((((((w.setCell ⟨b, 0, none⟩ v0).setCell ⟨b, 1, none⟩ v1).setCell ⟨b, 2, none⟩ v2).setCell ⟨b, 3, none⟩ v3).setCell ⟨b, 4, none⟩ v4).setCell ⟨b, 5, none⟩ v5).setCell ⟨b, 6, none⟩ v6).setCell ⟨b, 7, none⟩ v7).setCell ⟨b, 8, none⟩ v8).heap[g]? = w.heap[g]? := by
  have a1 : (w.setCell ⟨b, 0, none⟩ v0).heap[b]? = some (.cells #[v0, x1, x2, x3, x4, x5, x6, x7, x8] t (0, 0)) := heap_setC h
  have a2 : ((w.setCell ⟨b, 0, none⟩ v0).setCell ⟨b, 1, none⟩ v1).heap[b]? = some (.cells #[v0, v1, x2, x3, x4, x5, x6, x7, x8] t (0, 0)) := heap_setC a1
  have a3 : (((w.setCell ⟨b, 0, none⟩ v0).setCell ⟨b, 1, none⟩ v1).setCell ⟨b, 2, none⟩ v2).heap[b]? = some (.cells #[v0, v1, v2, x3, x4, x5, x6, x7, x8] t (0, 0)) := heap_setC a2
  have a4 : ((((w.setCell ⟨b, 0, none⟩ v0).setCell ⟨b, 1, none⟩ v1).setCell ⟨b, 2, none⟩ v2).setCell ⟨b, 3, none⟩ v3).heap[b]? = some (.cells #[v0, v1, v2, v3, x4, x5, x6, x7, x8] t (0, 0)) := heap_setC a3
  have a5 : (((((w.setCell ⟨b, 0, none⟩ v0).setCell ⟨b, 1, none⟩ v1).setCell ⟨b, 2, none⟩ v2).setCell ⟨b, 3, none⟩ v3).setCell ⟨b, 4, none⟩ v4).heap[b]? = some (.cells #[v0, v1, v2, v3, v4, x5, x6, x7, x8] t (0, 0)) := heap_setC a4
  have a6 : ((((((w.setCell ⟨b, 0, none⟩ v0).setCell ⟨b, 1, none⟩ v1).setCell ⟨b, 2, none⟩ v2).setCell ⟨b, 3, none⟩ v3).setCell ⟨b, 4, none⟩ v4).setCell ⟨b, 5, none⟩ v5).heap[b]? = some (.cells #[v0, v1, v2, v3, v4, v5, x6, x7, x8] t (0, 0)) := heap_setC a5
  have a7 : (((((((w.setCell ⟨b, 0, none⟩ v0).setCell ⟨b, 1, none⟩ v1).setCell ⟨b, 2, none⟩ v2).setCell ⟨b, 3, none⟩ v3).setCell ⟨b, 4, none⟩ v4).setCell ⟨b, 5, none⟩ v5).setCell ⟨b, 6, none⟩ v6).heap[b]? = some (.cells #[v0, v1, v2, v3, v4, v5, v6, x7, x8] t (0, 0)) := heap_setC a6
  have a8 : ((((((((w.setCell ⟨b, 0, none⟩ v0).setCell ⟨b, 1, none⟩ v1).setCell ⟨b, 2, none⟩ v2).setCell ⟨b, 3, none⟩ v3).setCell ⟨b, 4, none⟩ v4).setCell ⟨b, 5, none⟩ v5).setCell ⟨b, 6, none⟩ v6).setCell ⟨b, 7, none⟩ v7).heap[b]? = some (.cells #[v0, v1, v2, v3, v4, v5, v6, v7, x8] t (0, 0)) := heap_setC a7
  have a9 : (((((((((w.setCell ⟨b, 0, none⟩ v0).setCell ⟨b, 1, none⟩ v1).setCell ⟨b, 2, none⟩ v2).setCell ⟨b, 3, none⟩ v3).setCell ⟨b, 4, none⟩ v4).setCell ⟨b, 5, none⟩ v5).setCell ⟨b, 6, none⟩ v6).setCell ⟨b, 7, none⟩ v7).setCell ⟨b, 8, none⟩ v8).heap[b]? = some (.cells #[v0, v1, v2, v3, v4, v5, v6, v7, v8] t (0, 0)) := heap_setC a8
  refine ⟨a9, fun h0 => ?_, fun g hg => ?_⟩
  · have b1 := Below.setCell (p := ⟨b, 0, none⟩) (Below.refl B w) hB v0
    have b2 := b1.setCell (p := ⟨b, 1, none⟩) hB v1
    have b3 := b2.setCell (p := ⟨b, 2, none⟩) hB v2
    have b4 := b3.setCell (p := ⟨b, 3, none⟩) hB v3
    have b5 := b4.setCell (p := ⟨b, 4, none⟩) hB v4
    have b6 := b5.setCell (p := ⟨b, 5, none⟩) hB v5
    have b7 := b6.setCell (p := ⟨b, 6, none⟩) hB v6
    have b8 := b7.setCell (p := ⟨b, 7, none⟩) hB v7
    have b9 := b8.setCell (p := ⟨b, 8, none⟩) hB v8
    exact b9
  · rw [Below.heap_setCell _ _ _ _ hg, Below.heap_setCell _ _ _ _ hg, Below.heap_setCell _ _ _ _ hg, Below.heap_setCell _ _ _ _ hg, Below.heap_setCell _ _ _ _ hg, Below.heap_setCell _ _ _ _ hg, Below.heap_setCell _ _ _ _ hg, Below.heap_setCell _ _ _ _ hg, Below.heap_setCell _ _ _ _ hg]
theorem two_boxC (w : World) (o p : Obj) : Below w.heap.size w ((w.alloc o).alloc p) := ((Below.refl _ _).alloc (Nat.le_refl _) _).alloc (le_alloc (Nat.le_refl _)) _
theorem AccI.keep {w w' : World} {B n c : Nat} {a : Option Addr} {l : List Int} (h : AccI w B a n c l) (k : ∀ g, B ≤ g → w'.heap[g]? = w.heap[g]?) : AccI w' B a n c l := ⟨h.1, own_keep h.2.1 k, h.2.2⟩
def Cd.hv (bk key : List UInt8) (v : Nat) (size : Int) : Value := .agg #[.string (bstr bk), .string (bstr key), .int .u64 v, .int .i64 size]
def Cd.zeroC : Array Value := #[.string ⟨#[]⟩, .string ⟨#[]⟩, .int .u64 0, .int .u64 0, .int .i64 0, .int .i64 0, .int .i64 0, .int .u32 0, .slice none 0 0]
/-- The pointer of an object. -/
def Cd.mk (bk key : List UInt8) (v : Nat) (k m size : Int) (d : List UInt8) (l : List Int) : Cd.Full := ⟨bk, key, v, ⟨v, k, m, size, Codec.sum d⟩, l⟩
/-- A pointer is told, nodes of the call's own; or none. -/
def RetPt (w : World) (q : Cd.Full) (nn : Nat) (er : Int) (e : Ending) (w' : World) : Prop := ∃ a c, e = .returned (.tuple #[Cd.pv q a nn c, .int .i64 er]) ∧ AccI w' w.heap.size a nn c q.nodes ∧ Below w.heap.size w w'
def Cd.zero : Cd.Full := ⟨[], [], 0, ⟨0, 0, 0, 0, 0⟩, []⟩
set_option maxHeartbeats 4000000 in
theorem point_yes (bk key : List UInt8) (v K M : Nat) (ad : Option Addr) (nd cd : Nat) (d : List UInt8) (an : Option Addr) (nn cn : Nat) (l : List Int) (w : World) (hd : Bs w ad nd cd d) (hl : Is w an nn cn l) (hnd : nd ≤ 100000000) (h1 : 1 ≤ K) (h2 : K + M ≤ 255) (hnn : nn = K + M) (hall : l.all Cd.node = true) :
    Calls Tryz.prog 8 #[Cd.hv bk key v nd, .slice ad nd cd, .int .i64 K, .int .i64 M, .slice an nn cn] w (RetPt w (Cd.mk bk key v K M nd d l) nn 0) := by
  have hle := hd.le.1
  have hb0 := two_boxC w (.cells #[.string (bstr bk), .string (bstr key), .int .u64 v, .int .i64 nd] 24) (.cells Cd.zeroC 31)
  have hg0 : ((w.alloc (.cells #[.string (bstr bk), .string (bstr key), .int .u64 v, .int .i64 nd] 24)).alloc (.cells Cd.zeroC 31)).heap[w.heap.size]? = some (.cells #[.string (bstr bk), .string (bstr key), .int .u64 v, .int .i64 nd] 24 (0, 0)) :=
    (Below.heap_alloc _ _ _ (by simp)).trans (heap_alloc_new w _)
  have hg1 : ((w.alloc (.cells #[.string (bstr bk), .string (bstr key), .int .u64 v, .int .i64 nd] 24)).alloc (.cells Cd.zeroC 31)).heap[w.heap.size + 1]? = some (.cells Cd.zeroC 31 (0, 0)) := by
    have := heap_alloc_new (w.alloc (.cells #[.string (bstr bk), .string (bstr key), .int .u64 v, .int .i64 nd] 24)) (.cells Cd.zeroC 31)
    rwa [World.size_alloc] at this
  have hsz : ((w.alloc (.cells #[.string (bstr bk), .string (bstr key), .int .u64 v, .int .i64 nd] 24)).alloc (.cells Cd.zeroC 31)).heap.size = w.heap.size + 2 := by simp
  unfold Cd.zeroC at hb0 hg0 hg1 hsz
  have t1 : ((nn : Int) != (K : Int) + (M : Int)) = false := by rw [bne_eq_false_iff_eq]; omega
  have t2 : decide ((268435456 : Int) < (nd : Int)) = false := decide_eq_false (by omega)
  have t3 : ((nd : Int) != (nd : Int)) = false := by simp
  have hnb : nn ≤ 255 := by omega
  have HD : Hid (∀ W, Below w.heap.size w W → Bs W ad nd cd d) := Lib.hid fun W k => hd.below k
  have HL : Hid (∀ W, Below w.heap.size w W → Is W an nn cn l) := Lib.hid fun W k => hl.below k
  have HAL := Lib.hid hall
  clear hd hl hnn hall
  unfold Cd.hv
  go_enter Tryz.func8, Tryz.ntmps8
  go_upto_region 1 with fail
  generalize (w.alloc (.cells #[.string (bstr bk), .string (bstr key), .int .u64 v, .int .i64 nd] 24)).alloc (.cells #[.string ⟨#[]⟩, .string ⟨#[]⟩, .int .u64 0, .int .u64 0, .int .i64 0, .int .i64 0, .int .i64 0, .int .u32 0, .slice none 0 0] 31) = w1 at *
  have HB1 := Lib.hid hb0
  have HG0 := Lib.hid hg0
  have HG1 := Lib.hid hg1
  have HS1 := Lib.hid hsz
  clear hb0 hg0 hg1 hsz
  go_wp2_with fail
  refine (new_any K M w1 h1 h2).mono ?_
  rintro e w2 ⟨⟨bc, rfl, _⟩, hb2⟩
  have HB2 := Lib.hid (HB1.out.trans (hb2.mono HB1.out.size))
  have HG02 := Lib.hid ((hb2.block _ (by rw [HS1.out]; omega)).trans HG0.out)
  have HG12 := Lib.hid ((hb2.block _ (by rw [HS1.out]; omega)).trans HG1.out)
  have HZ2 : Hid (w.heap.size + 2 ≤ w2.heap.size) := Lib.hid (by have := hb2.size; rw [HS1.out] at this; exact this)
  clear hb2
  obtain ⟨c0, c1, c2, c3⟩ : w2.cell? ⟨w.heap.size, 0, none⟩ = some (.string (bstr bk)) ∧ w2.cell? ⟨w.heap.size, 1, none⟩ = some (.string (bstr key)) ∧ w2.cell? ⟨w.heap.size, 2, none⟩ = some (.int .u64 v) ∧ w2.cell? ⟨w.heap.size, 3, none⟩ = some (.int .i64 nd) :=
    ⟨(cell_of_row _ _ 0 _ _ _ HG02.out).trans rfl, (cell_of_row _ _ 1 _ _ _ HG02.out).trans rfl, (cell_of_row _ _ 2 _ _ _ HG02.out).trans rfl, (cell_of_row _ _ 3 _ _ _ HG02.out).trans rfl⟩
  go_wp2_with fail
  refine (contn_any an nn cn l w2 (HL.out w2 HB2.out) (by omega)).mono ?_
  rintro e w3 ⟨rfl, hb3⟩
  rw [HAL.out]
  have d0 := cell_later hb3 c0
  have d1 := cell_later hb3 c1
  have d2 := cell_later hb3 c2
  have d3 := cell_later hb3 c3
  have HB3 := Lib.hid (HB2.out.trans (hb3.mono HB2.out.size))
  have HG13 := Lib.hid ((hb3.block _ (by have := HZ2.out; omega)).trans HG12.out)
  have HZ3 : Hid (w.heap.size + 2 ≤ w3.heap.size) := Lib.hid (by have := hb3.size; have := HZ2.out; omega)
  clear hb3 c0 c1 c2 c3
  go_upto_region 4 with fail
  have p0 := BW.cell d0
  have p1 := BW.cell d1
  have p2 := BW.cell d2
  have p3 := BW.cell d3
  refine wp_region_steps [18, 19] 18 18 (by kernel_rfl) (by kernel_rfl) rfl (fun W' => ∃ V : BW w3, W' = V.w) ?_
  have HBD : Hid (Below w3.heap.size w3 w3.drew) := Lib.hid (Below.refl _ _).drew
  generalize hwE : w3.drew = wE at *
  refine anyT_pull [0, 1, 2, 3, 4, 5, 6, 7, 8, 9, 10, 11, 12, 15] 18 4 (by intro c a d v w h; cases d <;> exact h) (by kernel_rfl) ⟨⟨_, HBD.out⟩, rfl⟩ ?_
  simp only [opsAt, List.filterMap_cons, List.filterMap_nil, List.getElem?_cons_zero, List.getElem?_cons_succ]
  iterate 14
    apply held_step
    · kernel_rfl
    · rintro _ ⟨V, rfl⟩
      have q0 := p0 V
      have q1 := p1 V
      have q2 := p2 V
      have q3 := p3 V
      go_simp
      rfl
  refine held_nil ?_
  apply anyT_one 13
  · rfl
  · kernel_rfl
  · kernel_rfl
  intro K' hK
  go_simp
  have HBF := Lib.hid (HBD.out.trans ((below_alloc1 wE (.cells #[.slice ad nd cd] 25)).mono HBD.out.size))
  have HO := Lib.hid (Bss.one (HD.out wE (HB3.out.trans (HBD.out.mono HB3.out.size))))
  refine hK _ _ ⟨⟨_, HBF.out⟩, rfl⟩ ?_
  clear hK
  generalize hwF : wE.alloc (.cells #[.slice ad nd cd] 25) = wF at *
  apply anyT_one 14
  · rfl
  · kernel_rfl
  · kernel_rfl
  intro K' hK
  go_simp
  refine (sum_any _ 1 1 [d] wF HO.out).mono ?_
  rintro e wG ⟨rfl, hbg⟩
  rw [show ([d] : List (List UInt8)).flatten = d by simp]
  have HBG := Lib.hid (HBF.out.trans (hbg.mono HBF.out.size))
  refine hK _ _ ⟨⟨_, HBG.out⟩, rfl⟩ ?_
  clear hK hbg
  apply anyT_one 16
  · rfl
  · kernel_rfl
  · kernel_rfl
  intro K' hK
  go_simp
  refine (clonei_any an nn cn l wG (HL.out wG (HB3.out.trans (HBG.out.mono HB3.out.size))) (by omega)).mono ?_
  rintro e wH ⟨a7, c7, rfl, ha7, hbh⟩
  have HBH := Lib.hid (HBG.out.trans (hbh.mono HBG.out.size))
  have HA7 := Lib.hid (ha7.mono (B' := w.heap.size + 2) (by have := HBG.out.size; have := HZ3.out; omega))
  refine hK _ _ ⟨⟨_, HBH.out⟩, rfl⟩ ?_
  clear hK hbh ha7
  refine anyT_pull [17] 18 0 (by intro c a d v w h; cases d <;> exact h) (by kernel_rfl) ⟨⟨_, HBH.out⟩, rfl⟩ ?_
  simp only [opsAt, List.filterMap_cons, List.filterMap_nil, List.getElem?_cons_zero, List.getElem?_cons_succ]
  apply held_step
  · kernel_rfl
  · rintro _ ⟨V, rfl⟩
    go_simp
    rfl
  refine held_nil ?_
  refine anyT_done (by kernel_rfl) ?_
  simp only [opsAt, List.filterMap_cons, List.filterMap_nil, List.getElem?_cons_zero, List.getElem?_cons_succ]
  have HGH := Lib.hid ((HBH.out.block _ (by have := HZ3.out; omega)).trans HG13.out)
  have HBW := Lib.hid (HB3.out.trans (HBH.out.mono HB3.out.size))
  obtain ⟨k0, k1, k2, k3, k4, k5, k6, k7, k8, kf⟩ := cells9 HGH.out
  clear p0 p1 p2 p3 d0 d1 d2 d3 hwE hwF
  go_wp2
  obtain ⟨hs, hbb, hkk⟩ := set9 (.string (bstr bk)) (.string (bstr key)) (.int .u64 v) (.int .u64 v) (.int .i64 K) (.int .i64 M) (.int .i64 nd) (.int .u32 (n32 (Codec.sum d))) (.slice a7 nn c7) HGH.out (Nat.le_succ w.heap.size)
  have hb9 := HBW.out.trans (hbb HBW.out.size)
  have ha9 := (HA7.out.keep (fun g hg => hkk g (by omega))).mono (B' := w.heap.size) (by omega)
  generalize World.setCell _ _ _ = W9 at *
  obtain ⟨q0, q1, q2, q3, q4, q5, q6, q7, q8, _⟩ := cells9 hs
  exact bodyPost_ret (v := .tuple #[Cd.pv (Cd.mk bk key v K M nd d l) a7 nn c7, .int .i64 0]) (by simp [results, Tryz.results8, go_sem, Cd.pv, Cd.mk, q0, q1, q2, q3, q4, q5, q6, q7, q8]) rfl ⟨a7, c7, rfl, ha9, hb9⟩
end Go.Proofs.YtfgifndpglgjkaaGreatDoor
