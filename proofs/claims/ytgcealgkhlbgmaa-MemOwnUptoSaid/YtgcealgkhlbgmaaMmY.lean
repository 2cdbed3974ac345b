/- Collect of the sequence over a list; mem.From. -/
import Derived.Test.YtgcealgkhlbgmaaMmX
import Derived.Test.YtgcealgkhlbgmaaRangeX
namespace Go.Proofs.Ytgcealgkhlbgmaa
open Go.RowKit
set_option linter.unusedVariables false
attribute [local go_sem] Oper.semAt_some

/-- A boxed slice of entries that gathers. -/
def Gat (w : World) (Bo : Nat) (ls : List Ent) (W : World) : Prop := (∃ a k c, Boxed W Bo 23 (.slice a k c) ∧ AccE W w.heap.size a k c ls) ∧ Below w.heap.size w W
theorem Gat.turned {w W W' : World} {Bo : Nat} {ls : List Ent} {row : Option Nat} (h : Gat w Bo ls W) (hg : W.grownBy W' row) (hr : ∀ r, row = some r → ∃ o : Obj, W.heap[r]? = some o ∧ o.isCells = false) (hB : ∀ r, row = some r → w.heap.size ≤ r) : Gat w Bo ls W' := by
  obtain ⟨⟨a, k, c, h1, h2⟩, h4⟩ := h
  exact ⟨⟨a, k, c, Boxed.turned h1 hg hr, h2.turned hg hr⟩, h4.grown hg h4.size hB⟩
theorem Gat.below {w W W' : World} {Bo : Nat} {ls : List Ent} (h : Gat w Bo ls W) (hb : Below W.heap.size W W') : Gat w Bo ls W' := by
  obtain ⟨⟨a, k, c, h1, h2⟩, h4⟩ := h
  exact ⟨⟨a, k, c, Boxed.below h1 hb, h2.below hb⟩, h4.trans (hb.mono h4.size)⟩
def entsOf {ns : List Nd} (xs : List (Ix ns)) : List Ent := xs.map fun x => (nth ns x.1).e
theorem entsOf_all {ns : List Nd} {xs : List (Ix ns)} {p : Nat} (hp : p ≤ ns.length) (h : xs.map Subtype.val = List.range' p (ns.length - p)) : entsOf xs = (ns.map Nd.e).drop p := by
  have h1 : entsOf xs = (List.range' p (ns.length - p)).map fun i => (nth ns i).e := by
    rw [← h, List.map_map]
    rfl
  rw [h1]
  apply List.ext_getElem
  · simp
  · intro i h2 h3
    simp at h2
    rw [List.getElem_map, List.getElem_drop, List.getElem_map, List.getElem_range']
    rw [nth_eq _ (by omega)]
    simp
/-- What a row of entries that was gathered holds. -/
def ColP (w : World) (l : List Ent) (e : Ending) (w' : World) : Prop := ∃ a k c, e = .returned (.slice a k c) ∧ AccE w' w.heap.size a k c l ∧ Below w.heap.size w w'
set_option maxRecDepth 100000 in
set_option maxHeartbeats 4000000 in
theorem appseq_any (tb t0 : Nat) (ns : List Nd) (v : Ent) (va : Option Addr) (vc : Nat) (B1 B2 : Nat) (w : World) (hT : SL w tb t0 ns) (hV : Bs w va v.val.length vc v.val) (hB1 : w.cell? ⟨B1, 0, none⟩ = some (.pointer (some ⟨tb, 0, none⟩))) (hB2 : EntAt w B2 0 v va vc) (hn : ns.length ≤ 1000000000) :
    Calls Try.prog 49 #[.slice none 0 0, .func (.func 44) #[] #[.pointer (some ⟨B1, 0, none⟩), .pointer (some ⟨B2, 0, none⟩)]] w (ColP w ((ns.map Nd.e).drop (below ns v))) := by
  have HT := Lib.hid hT
  have hb0 := below_alloc1 w (.cells #[.slice none 0 0] 23)
  have HST := Lib.hid (from_stops 3 tb t0 ns v va vc B1 B2 w (w.alloc (.cells #[.slice none 0 0] 23)) hT hV hb0 (cell_later hb0 hB1) (hB2.below hb0))
  obtain ⟨p, hp⟩ : ∃ p, p = below ns v := ⟨_, rfl⟩
  have hpl : p ≤ ns.length := by rw [hp]; exact below_le ns v
  rw [← hp] at HST ⊢
  clear hT hV hB1 hB2 hp
  have hG0 : Gat w w.heap.size [] (w.alloc (.cells #[.slice none 0 0] 23)) := ⟨⟨none, 0, 0, Boxed.new w _ _, AccE.nil _ _⟩, hb0⟩
  have HG0 := Lib.hid hG0
  have HB0 := Lib.hid hb0
  clear hG0 hb0
  have eg := enters_of Try.func44 (by kernel_rfl) rfl
  refine calls_marks Try.func49 rfl ?_
  simp only [Try.ntmps49, List.size_toArray, List.length_cons, List.length_nil, Nat.reduceAdd, Nat.reduceSub, Array.replicate_succ, Array.replicate_zero, List.push_toArray, List.append_toArray, List.nil_append, List.cons_append]
  go_wp2_with fail
  have hzz : (w.alloc (.cells #[.slice none 0 0] 23)).heap.size = w.heap.size + 1 := by simp
  refine range_box (gf := 44) (lb := #[.pointer (some ⟨B1, 0, none⟩), .pointer (some ⟨B2, 0, none⟩)]) rfl eg HST.out (fun h k => h.trans k)
    (fun W l o o' hl h hc hw => belowK_b (by omega) W l o o' hl h hc hw) (Below.refl _ _) (fun _ => rfl) (fun W o hW => (Below.refl _ _).alloc (by omega) o)
    (fun pre W => Gat w w.heap.size (entsOf pre) W ∧ w.heap.size + 1 ≤ W.heap.size) (fun c pre W => False)
    ?_ (fun _ _ _ _ _ h _ _ => h) ⟨HG0.out, by omega⟩ (fun pre W h => by rw [hzz]; exact h.2) (fun x => #[.string (bstr (nth ns x.1).e.key), .int .u64 (nth ns x.1).e.seq, .bool (nth ns x.1).e.gone, .slice (nth ns x.1).va (nth ns x.1).e.val.length (nth ns x.1).vc]) 30 ?_ ?_ ?_
  · rintro s W W' row ⟨h1, h2⟩ hg hr
    exact ⟨h1.turned hg (fun r e => (hr r e).2) (fun r e => by have := (hr r e).1; omega), Nat.le_trans h2 hg.size⟩
  · apply Exists.intro
    apply And.intro
    · intro l x W K b hb hK
      simp only [ixv, ev]
      gi_wp2
      exact hK
    · rintro l pre x b W hl hr ⟨⟨⟨ao, k, co, hbo, hac⟩, hbel⟩, hsz⟩ hb hc hlen
      have hx := x.2
      have hk : k ≤ 1000000000 := by have := hac.len; simp [entsOf] at this; omega
      have hnd := (HT.out.below hbel).nd x.1 x.2
      have hva := hnd.1.val
      have hold := fun h0 => (HT.out.nd x.1 x.2).1.val.old h0
      have hxe : EntAt W b 0 (nth ns x.1).e (nth ns x.1).va (nth ns x.1).vc := EntAt.of_cells fun j v hj => by
        rw [cell_of_row _ _ _ _ _ _ hc, Nat.zero_add]
        match j, hj with
        | 0, hj => exact hj
        | 1, hj => exact hj
        | 2, hj => exact hj
        | 3, hj => exact hj
        | j + 4, hj => simp [entCells] at hj
      have n1 := hxe.key
      have n2 := hxe.seq
      have n3 := hxe.gone
      have n4 := hxe.val
      simp at n1 n2 n3 n4
      have cb := hbo.cell
      have fb := hbo.frozen
      have HPRE : Hid (entsOf (pre ++ [x]) = entsOf pre ++ [(nth ns x.1).e]) := Lib.hid (by simp [entsOf])
      have HVA := Lib.hid hva
      have HOLD := Lib.hid hold
      have HAC := Lib.hid hac
      have HBO := Lib.hid hbo
      have HBE := Lib.hid hbel
      clear hnd hxe hva hold hac hbo hbel hc
      generalize (nth ns x.1).e = xe at *
      generalize (nth ns x.1).va = xa at *
      generalize (nth ns x.1).vc = xc at *
      refine wpIn_block ?_
      refine round_lit (fun ⟨_, _, h⟩ => h) (by kernel_rfl) ?_
      go_wp2_with (at_builtin; refine app_ent rfl _ _ rfl w.heap.size rfl (HAC.out.below (below_alloc1 W _)) rfl (load_box W _ _ _) (HVA.out.below (below_alloc1 W _)) (fun h0 x y hx hy e => by have h1 := HOLD.out h0 x hx; have h2 := (HAC.out.new y hy).1; omega) (by omega) (le_alloc (by omega)) ?_; intro a4 c4 w4 h4 hb4 hev4; have hbo4 := Boxed.evol (HBO.out.alloc _) (HAC.out.below (below_alloc1 W _)) (by decide) hev4; have cb4 := hbo4.cell; have fb4 := hbo4.frozen; have HBO4 := Lib.hid hbo4; have H4 := Lib.hid h4; have HB4 := Lib.hid hb4; have HEV4 := Lib.hid hev4; clear hbo4 h4 hb4 hev4)
      have hA3 := HAC.out.below (below_alloc1 W (.cells #[.string (bstr xe.key), .int .u64 xe.seq, .bool xe.gone, .slice xa xe.val.length xc] 30))
      have hbw := (((below_alloc1 W _).mono HBE.out.size).trans HB4.out).setCell (p := ⟨w.heap.size, 0, none⟩) (Nat.le_refl _) (.slice a4 (k + 1) c4)
      refine ⟨(((KeepsOthers.alloc _ _).trans (hA3.keeps HEV4.out)).trans (KeepsOthers.setCell _ _ _)).from _, hbw, ⟨⟨a4, k + 1, c4, HBO4.out.set _, ?_⟩, HBE.out.trans hbw⟩, Nat.le_trans hsz hbw.size⟩
      rw [HPRE.out]
      exact H4.out.setBox HBO4.out (by decide)
  · rintro D xs W hD hS ⟨⟨⟨ao, k, co, hbo, hac⟩, hbel⟩, hsz⟩ hK
    have cb := hbo.cell
    have hr : ∀ r, some D = some r → ∃ o : Obj, W.heap[r]? = some o ∧ o.isCells = false := fun r e => by cases e; exact ⟨_, hK, rfl⟩
    have hlast : ColP w ((ns.map Nd.e).drop p) (.returned (.slice ao k co)) (W.putObj D (.deferred none)) := ⟨_, _, _, rfl, by rw [← entsOf_all hpl hS]; exact hac.turned (grownBy_putObj' W D _) hr, hbel.trans (below_shut (by omega) hK)⟩
    have HL := Lib.hid hlast
    have HK := Lib.hid hK
    clear hlast hK hbo hac hbel
    go_wp2
    refine ret_m1 HK.out (results_tmp rfl _ _ _) ?_
    exact HL.out
  · rintro D c pre W hD hSp hx hK
    exact hx.elim
theorem collect_any (tb t0 : Nat) (ns : List Nd) (v : Ent) (va : Option Addr) (vc : Nat) (B1 B2 : Nat) (w : World) (hT : SL w tb t0 ns) (hV : Bs w va v.val.length vc v.val) (hB1 : w.cell? ⟨B1, 0, none⟩ = some (.pointer (some ⟨tb, 0, none⟩))) (hB2 : EntAt w B2 0 v va vc) (hn : ns.length ≤ 1000000000) :
    Calls Try.prog 45 #[.func (.func 44) #[] #[.pointer (some ⟨B1, 0, none⟩), .pointer (some ⟨B2, 0, none⟩)]] w (ColP w ((ns.map Nd.e).drop (below ns v))) := by
  have HA := Lib.hid (appseq_any tb t0 ns v va vc B1 B2 w hT hV hB1 hB2 hn)
  clear hT hV hB1 hB2
  go_enter Try.func45, Try.ntmps45
  go_wp2_with fail
  refine HA.out.mono ?_
  rintro e w1 ⟨a, k, c, rfl, h1, h2⟩
  have H := Lib.hid (⟨a, k, c, rfl, h1, h2⟩ : ColP w ((ns.map Nd.e).drop (below ns v)) (.returned (.slice a k c)) w1)
  clear h1 h2 HA
  go_wp2
  go_ret
  exact H.out
/-- The sequence that From tells: its captured slice. -/
def FromP (w : World) (l : List Ent) (e : Ending) (w' : World) : Prop := ∃ b a k c, e = .returned (.func (.func 46) #[] #[.pointer (some ⟨b, 0, none⟩)]) ∧ w.heap.size ≤ b ∧ Boxed w' b 23 (.slice a k c) ∧ AccE w' w.heap.size a k c l ∧ Below w.heap.size w w'
def keyHi (key : List UInt8) : Ent := key0 key 18446744073709551615
set_option maxHeartbeats 4000000 in
theorem tfrom_any (tb t0 : Nat) (ns : List Nd) (key : List UInt8) (w : World) (hT : SL w tb t0 ns) (hn : ns.length ≤ 1000000000) :
    Calls Try.prog 39 #[.pointer (some ⟨tb, 0, none⟩), .string (bstr key)] w (FromP w ((ns.map Nd.e).drop (below ns (keyHi key)))) := by
  have HT := Lib.hid hT
  clear hT
  go_enter Try.func39, Try.ntmps39
  go_wp2_with fail
  have hfa := from_any tb (keyHi key) none 0 w
  unfold ev at hfa
  refine hfa.mono ?_
  clear hfa
  rintro e w2 ⟨rfl, hw2⟩
  have hb2 : Below w.heap.size w w2 := by rw [hw2]; exact ((Below.refl w.heap.size w).alloc (Nat.le_refl _) _).alloc (by simp) _
  have hB1 : w2.cell? ⟨w.heap.size, 0, none⟩ = some (.pointer (some ⟨tb, 0, none⟩)) := by
    rw [hw2]
    exact cell_later (below_alloc1 _ _) (cell_of_row _ _ 0 _ _ _ (heap_alloc_new w (.cells #[.pointer (some ⟨tb, 0, none⟩)] 73)))
  have hB2 : EntAt w2 (w.heap.size + 1) 0 (keyHi key) none 0 := by
    rw [hw2]
    have := load_box (w.alloc (.cells #[.pointer (some ⟨tb, 0, none⟩)] 73)) (keyHi key) none 0
    rwa [World.size_alloc] at this
  clear hw2
  have HCO := Lib.hid (collect_any tb t0 ns (keyHi key) none 0 w.heap.size (w.heap.size + 1) w2 (HT.out.below hb2) (Bs.nil _) hB1 hB2 hn)
  have HB2 := Lib.hid hb2
  clear hB1 hB2 hb2
  go_wp2_with fail
  refine HCO.out.mono ?_
  rintro e w3 ⟨a, k, c, rfl, h1, h2⟩
  have HX : Hid (FromP w ((ns.map Nd.e).drop (below ns (keyHi key))) (.returned (.func (.func 46) #[] #[.pointer (some ⟨w3.heap.size, 0, none⟩)])) (w3.alloc (.cells #[.slice a k c] 23))) :=
    Lib.hid ⟨_, a, k, c, rfl, by have := h2.size; have := HB2.out.size; omega, Boxed.new w3 _ _, (h1.mono HB2.out.size).below (below_alloc1 _ _), (HB2.out.trans (h2.mono HB2.out.size)).trans ((below_alloc1 _ _).mono (by have := h2.size; have := HB2.out.size; omega))⟩
  clear h1 h2 HCO
  go_wp2
  go_ret
  exact HX.out
end Go.Proofs.Ytgcealgkhlbgmaa
