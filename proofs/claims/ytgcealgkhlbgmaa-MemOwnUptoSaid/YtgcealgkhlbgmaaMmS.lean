/- A skip list of entries: what it is in memory; ahead. -/
import Derived.Test.YtgcealgkhlbgmaaMmH
import Derived.Test.YtgcealgkhlbgmaaRange
import Derived.Deep.LoopGhost
import Derived.Deep.DeepCutAuto
namespace Go.Proofs.Ytgcealgkhlbgmaa
open Go.RowKit
set_option linter.unusedVariables false

theorem load_box (w : World) (x : Ent) (a : Option Addr) (c : Nat) : EntAt (w.alloc (.cells #[.string (bstr x.key), .int .u64 x.seq, .bool x.gone, .slice a x.val.length c] 30)) w.heap.size 0 x a c :=
  ⟨cell_of_row _ _ 0 #[.string (bstr x.key), .int .u64 x.seq, .bool x.gone, .slice a x.val.length c] 30 (0, 0) (heap_alloc_new w _), cell_of_row _ _ 1 #[.string (bstr x.key), .int .u64 x.seq, .bool x.gone, .slice a x.val.length c] 30 (0, 0) (heap_alloc_new w _),
   cell_of_row _ _ 2 #[.string (bstr x.key), .int .u64 x.seq, .bool x.gone, .slice a x.val.length c] 30 (0, 0) (heap_alloc_new w _), cell_of_row _ _ 3 #[.string (bstr x.key), .int .u64 x.seq, .bool x.gone, .slice a x.val.length c] 30 (0, 0) (heap_alloc_new w _)⟩
/-- A node: its block, its tower's block, how high, its entry. -/
structure Nd where
  b : Nat
  t : Nat
  h : Nat
  e : Ent
  va : Option Addr
  vc : Nat
instance : Inhabited Nd := ⟨⟨0, 0, 0, default, none, 0⟩⟩
abbrev ptr (o : Option Nat) : Value := .pointer (o.map fun b => ⟨b, 0, none⟩)
/-- The first node that is higher than k. -/
def nxt (k : Nat) : List Nd → Option Nat
  | [] => none
  | x :: r => if k < x.h then some x.b else nxt k r
theorem nxt_cases (k : Nat) : ∀ l : List Nd, (nxt k l = none ∧ ∀ j, j < l.length → (nth l j).h ≤ k) ∨ ∃ j, j < l.length ∧ nxt k l = some (nth l j).b ∧ k < (nth l j).h ∧ ∀ i, i < j → (nth l i).h ≤ k
  | [] => .inl ⟨rfl, fun j hj => by simp at hj⟩
  | x :: r => by
    by_cases h : k < x.h
    · exact .inr ⟨0, by simp, by simp [nxt, h, nth], by simpa [nth] using h, fun i hi => by omega⟩
    · rcases nxt_cases k r with ⟨h1, h2⟩ | ⟨j, h1, h2, h3, h4⟩
      · refine .inl ⟨by simp [nxt, h, h1], fun j hj => ?_⟩
        cases j with
        | zero => simp only [nth_zero']; omega
        | succ j => simp only [nth_cons']; exact h2 j (by simpa using hj)
      · refine .inr ⟨j + 1, by simpa using h1, by simp only [nth_cons']; simp [nxt, h, h2], by simpa only [nth_cons'] using h3, fun i hi => ?_⟩
        cases i with
        | zero => simp only [nth_zero']; omega
        | succ i => simp only [nth_cons']; exact h4 i (by omega)
where
  nth_zero' {x : Nd} {r : List Nd} : nth (x :: r) 0 = x := rfl
  nth_cons' {x : Nd} {r : List Nd} {i : Nat} : nth (x :: r) (i + 1) = nth r i := by simp [nth]
theorem nth_drop' (l : List Nd) (i j : Nat) : nth (l.drop i) j = nth l (i + j) := by simp [nth, List.getElem?_drop]
/-- From place i on. -/
theorem nxt_from (k : Nat) (l : List Nd) (i : Nat) : (nxt k (l.drop i) = none ∧ ∀ j, i ≤ j → j < l.length → (nth l j).h ≤ k) ∨ ∃ j, i ≤ j ∧ j < l.length ∧ nxt k (l.drop i) = some (nth l j).b ∧ k < (nth l j).h ∧ ∀ m, i ≤ m → m < j → (nth l m).h ≤ k := by
  rcases nxt_cases k (l.drop i) with ⟨h1, h2⟩ | ⟨j, h1, h2, h3, h4⟩
  · refine .inl ⟨h1, fun j hj hl => ?_⟩
    have := h2 (j - i) (by rw [List.length_drop]; omega)
    rwa [nth_drop', show i + (j - i) = j by omega] at this
  · rw [List.length_drop] at h1
    rw [nth_drop'] at h2 h3
    refine .inr ⟨i + j, by omega, by omega, h2, h3, fun m h5 h6 => ?_⟩
    have := h4 (m - i) (by omega)
    rwa [nth_drop', show i + (m - i) = m by omega] at this
def Twr (w : World) (t h : Nat) (rest : List Nd) : Prop := ∀ k, k < h → w.cell? ⟨t, k, none⟩ = some (ptr (nxt k rest))
theorem Twr.below {w w' : World} {t h : Nat} {rest : List Nd} (k : Twr w t h rest) (hb : Below w.heap.size w w') : Twr w' t h rest := fun i hi => cell_later hb (k i hi)
structure NdAt (w : World) (x : Nd) : Prop where
  ent : EntAt w x.b 0 x.e x.va x.vc
  nx : w.cell? ⟨x.b, 4, none⟩ = some (.slice (some ⟨x.t, 0, none⟩) x.h x.h)
  val : Bs w x.va x.e.val.length x.vc x.e.val
  h1 : 1 ≤ x.h
  h2 : x.h ≤ 12
theorem NdAt.below {w w' : World} {x : Nd} (h : NdAt w x) (hb : Below w.heap.size w w') : NdAt w' x := ⟨h.ent.below hb, cell_later hb h.nx, h.val.below hb, h.h1, h.h2⟩
/-- A skip list that is read: its head lies in block tb, the head's tower in block t0. -/
structure SL (w : World) (tb t0 : Nat) (ns : List Nd) : Prop where
  head : w.cell? ⟨tb, 4, none⟩ = some (.slice (some ⟨t0, 0, none⟩) 12 12)
  cmp : w.cell? ⟨tb, 5, none⟩ = some (.func (.func 31) #[] #[])
  count : w.cell? ⟨tb, 7, none⟩ = some (.int .i64 ns.length)
  h0 : Twr w t0 12 ns
  nd : ∀ i, i < ns.length → NdAt w (nth ns i) ∧ Twr w (nth ns i).t (nth ns i).h (ns.drop (i + 1))
  sorted : (ns.map Nd.e).Pairwise Ent.lt
theorem SL.below {w w' : World} {tb t0 : Nat} {ns : List Nd} (h : SL w tb t0 ns) (hb : Below w.heap.size w w') : SL w' tb t0 ns :=
  ⟨cell_later hb h.head, cell_later hb h.cmp, cell_later hb h.count, h.h0.below hb, fun i hi => ⟨(h.nd i hi).1.below hb, (h.nd i hi).2.below hb⟩, h.sorted⟩
/-- Places: 0 is the head. -/
def bk (tb : Nat) (ns : List Nd) (i : Nat) : Nat := if i = 0 then tb else (nth ns (i - 1)).b
def tw (t0 : Nat) (ns : List Nd) (i : Nat) : Nat := if i = 0 then t0 else (nth ns (i - 1)).t
def ht (ns : List Nd) (i : Nat) : Nat := if i = 0 then 12 else (nth ns (i - 1)).h
theorem SL.place {w : World} {tb t0 : Nat} {ns : List Nd} (h : SL w tb t0 ns) {i : Nat} (hi : i ≤ ns.length) :
    w.cell? ⟨bk tb ns i, 4, none⟩ = some (.slice (some ⟨tw t0 ns i, 0, none⟩) (ht ns i) (ht ns i)) ∧ ht ns i ≤ 12 ∧ ∀ k, k < ht ns i → w.cell? ⟨tw t0 ns i, k, none⟩ = some (ptr (nxt k (ns.drop i))) := by
  unfold bk tw ht
  by_cases e : i = 0
  · subst e
    exact ⟨h.head, Nat.le_refl _, h.h0⟩
  · rw [if_neg e, if_neg e, if_neg e]
    obtain ⟨h1, h2⟩ := h.nd (i - 1) (by omega)
    rw [show i - 1 + 1 = i by omega] at h2
    exact ⟨h1.nx, h1.h2, h2⟩
/-- How many are below v. -/
def below (ns : List Nd) (v : Ent) : Nat := ns.findIdx (fun x => !decide (Ent.cmp x.e v = -1))
theorem below_le (ns : List Nd) (v : Ent) : below ns v ≤ ns.length := List.findIdx_le_length
theorem below_lt {ns : List Nd} {v : Ent} {j : Nat} (h : j < below ns v) : Ent.cmp (nth ns j).e v = -1 := by
  have hl := below_le ns v
  have := List.not_of_lt_findIdx h
  rw [nth_eq _ (by omega)]
  simpa using this
theorem below_ge {ns : List Nd} {v : Ent} (hs : (ns.map Nd.e).Pairwise Ent.lt) {j : Nat} (hj : j < ns.length) (h : below ns v ≤ j) : ¬ Ent.cmp (nth ns j).e v = -1 := by
  have hp : below ns v < ns.length := by omega
  have h0 : ¬ Ent.cmp (nth ns (below ns v)).e v = -1 := by
    have := List.findIdx_getElem (w := hp)
    rw [nth_eq _ hp]
    unfold below
    simpa using this
  by_cases e : j = below ns v
  · rw [e]; exact h0
  · intro hc
    refine h0 (Ent.cmp_lt.2 (Ent.lt_trans ?_ (Ent.cmp_lt.1 hc)))
    have := List.pairwise_iff_getElem.1 hs (below ns v) j (by simpa using hp) (by simpa using hj) (by omega)
    simpa [nth_eq _ hp, nth_eq _ hj] using this
/-- i is the last place at level k that is no further than p. -/
structure Out (w : World) (g m : Nat) (B : Nat → Nat) : Prop where
  cell : ∀ j, j < 12 → w.cell? ⟨g, j, none⟩ = some (if m ≤ j then ptr (some (B j)) else ptr none)
  frz : ∀ j, w.frozen? ⟨g, j, none⟩ = false
theorem Out.below {w w' : World} {g m : Nat} {B : Nat → Nat} (h : Out w g m B) (hb : Below w.heap.size w w') : Out w' g m B :=
  ⟨fun j hj => cell_later hb (h.cell j hj), fun j => (hb.frozen (p := ⟨g, j, none⟩) (show g < w.heap.size from World.block_lt_of_cell? w ⟨g, 0, none⟩ (h.cell 0 (by omega)))).trans (h.frz j)⟩
theorem Out.set {w : World} {g m b : Nat} {B : Nat → Nat} (h : Out w g (m + 1) B) (hm : m < 12) : Out (w.setCell ⟨g, m, none⟩ (ptr (some b))) g m (fun j => if j = m then b else B j) := by
  refine ⟨fun j hj => ?_, fun j => by rw [World.frozen?_setCell]; exact h.frz j⟩
  by_cases e : j = m
  · subst e
    rw [if_pos (Nat.le_refl _), if_pos rfl]
    exact World.cell?_setCell_same' _ _ _ (by rw [h.cell j hj]; rfl)
  · refine ((World.cell?_setCell_other _ _ _ _ (fun k => e (by cases k; rfl))).trans (h.cell j hj)).trans ?_
    by_cases e2 : m ≤ j
    · rw [if_pos (by omega), if_pos e2, if_neg e]
    · rw [if_neg (by omega), if_neg e2]
def AllC (w : World) (g : Nat) (V : Nat → Value) : Prop := ∀ j, j < 12 → w.cell? ⟨g, j, none⟩ = some (V j)
theorem AllC.re {w : World} {g : Nat} {V : Nat → Value} (h : AllC w g V) (i : Nat) (hi : i < 12) : AllC (w.setCell ⟨g, i, none⟩ (V i)) g V := fun j hj => by
  by_cases e : j = i
  · subst e
    exact World.cell?_setCell_same' _ _ _ (by rw [h j hj]; rfl)
  · exact (World.cell?_setCell_other _ _ _ _ (fun k => e (by cases k; rfl))).trans (h j hj)
def Last (ns : List Nd) (p k i : Nat) : Prop := i ≤ p ∧ k < ht ns i ∧ ∀ j, i ≤ j → j < p → (nth ns j).h ≤ k
set_option maxHeartbeats 4000000 in
theorem ahead_any (tb t0 : Nat) (ns : List Nd) (v : Ent) (va : Option Addr) (vc : Nat) (w : World) (h : SL w tb t0 ns) (hv : Bs w va v.val.length vc v.val) :
    Calls Try.prog 43 #[.pointer (some ⟨tb, 0, none⟩), ev v va vc] w fun e w' => ∃ P : Nat → Nat, (∀ k, k < 12 → Last ns (below ns v) k (P k)) ∧ e = .returned (.agg ((List.range 12).map fun k => ptr (some (bk tb ns (P k)))).toArray) ∧ Below w.heap.size w w' := by
  have HS := Lib.hid h
  have HV := Lib.hid hv
  clear h hv
  unfold ev
  go_enter Try.func43, Try.ntmps43
  go_wp2_with fail
  have hsz : (w.alloc (.cells #[.string (bstr v.key), .int .u64 v.seq, .bool v.gone, .slice va v.val.length vc] 30)).heap.size = w.heap.size + 1 := by simp
  have HB0 := Lib.hid (below_alloc1 w (.cells #[.string (bstr v.key), .int .u64 v.seq, .bool v.gone, .slice va v.val.length vc] 30))
  have HX := Lib.hid (load_box w v va vc)
  obtain ⟨Wa, hWa⟩ : ∃ Wa, w.alloc (.cells #[.string (bstr v.key), .int .u64 v.seq, .bool v.gone, .slice va v.val.length vc] 30) = Wa := ⟨_, rfl⟩
  rw [hWa] at hsz HB0 HX ⊢
  rw [← hsz]
  have HSZ := Lib.hid hsz
  clear hWa hsz
  have HSa := Lib.hid (HS.out.below HB0.out)
  have HVa := Lib.hid (HV.out.below HB0.out)
  obtain ⟨p, hp⟩ : ∃ p, p = below ns v := ⟨_, rfl⟩
  have hpl : p ≤ ns.length := by rw [hp]; exact below_le ns v
  go_loopw [5, 6] (fun at_ k wr => ∃ (m i : Nat) (F : Nat → Nat), m ≤ 12 ∧ k = .int .i64 ((m : Int) - 1) ∧ at_ = .pointer (some ⟨bk tb ns i, 0, none⟩) ∧ i ≤ p ∧ m ≤ ht ns i ∧ Hid (∀ j, m ≤ j → j < 12 → Last ns p j (F j)) ∧ Hid (Out wr Wa.heap.size m (fun j => bk tb ns (F j))) ∧ Hid (Below Wa.heap.size Wa wr)) (fun _ k _ => (intOf k + 1).toNat)
  case atStart =>
    refine ⟨12, 0, fun _ => 0, Nat.le_refl _, by rfl, by simp [bk], Nat.zero_le _, by simp [ht], Lib.hid (fun j h1 h2 => by omega), Lib.hid ⟨fun j hj => ?_, fun j => ?_⟩, Lib.hid (below_alloc1 _ _)⟩
    · rw [if_neg (by omega)]
      have hn := heap_alloc_new Wa (.cells #[.pointer none, .pointer none, .pointer none, .pointer none, .pointer none, .pointer none, .pointer none, .pointer none, .pointer none, .pointer none, .pointer none, .pointer none] 75)
      have hc := fun j => cell_of_row _ _ j _ _ _ hn
      match j, hj with
      | 0, _ => exact hc 0
      | 1, _ => exact hc 1
      | 2, _ => exact hc 2
      | 3, _ => exact hc 3
      | 4, _ => exact hc 4
      | 5, _ => exact hc 5
      | 6, _ => exact hc 6
      | 7, _ => exact hc 7
      | 8, _ => exact hc 8
      | 9, _ => exact hc 9
      | 10, _ => exact hc 10
      | 11, _ => exact hc 11
      | k + 12, hj => omega
    · exact (frozen?_alloc_cells _ _ _ _).trans (by simp [World.frozen?])
  case round =>
    obtain ⟨wo, hwo⟩ : ∃ wo, wo = wr := ⟨_, rfl⟩
    subst hwo
    obtain ⟨m, i, F, hm, rfl, rfl, hip, hmh, hF, hO, hB⟩ := hrel
    cases m with
    | zero =>
      have o0 := hO.out.cell 0 (by omega)
      have o1 := hO.out.cell 1 (by omega)
      have o2 := hO.out.cell 2 (by omega)
      have o3 := hO.out.cell 3 (by omega)
      have o4 := hO.out.cell 4 (by omega)
      have o5 := hO.out.cell 5 (by omega)
      have o6 := hO.out.cell 6 (by omega)
      have o7 := hO.out.cell 7 (by omega)
      have o8 := hO.out.cell 8 (by omega)
      have o9 := hO.out.cell 9 (by omega)
      have o10 := hO.out.cell 10 (by omega)
      have o11 := hO.out.cell 11 (by omega)
      rw [if_pos (Nat.zero_le _)] at o0 o1 o2 o3 o4 o5 o6 o7 o8 o9 o10 o11
      have f0 := hO.out.frz 0
      have f1 := hO.out.frz 1
      have f2 := hO.out.frz 2
      have f3 := hO.out.frz 3
      have f4 := hO.out.frz 4
      have f5 := hO.out.frz 5
      have f6 := hO.out.frz 6
      have f7 := hO.out.frz 7
      have f8 := hO.out.frz 8
      have f9 := hO.out.frz 9
      have f10 := hO.out.frz 10
      have f11 := hO.out.frz 11
      have hall : AllC wo Wa.heap.size (fun j => .pointer (some ⟨bk tb ns (F j), 0, none⟩)) := fun j hj => by
        have := hO.out.cell j hj
        rwa [if_pos (Nat.zero_le _)] at this
      have h12 := (AllC.re (AllC.re (AllC.re (AllC.re (AllC.re (AllC.re (AllC.re (AllC.re (AllC.re (AllC.re (AllC.re (AllC.re hall 0 (by omega)) 1 (by omega)) 2 (by omega)) 3 (by omega)) 4 (by omega)) 5 (by omega)) 6 (by omega)) 7 (by omega)) 8 (by omega)) 9 (by omega)) 10 (by omega)) 11 (by omega))
      have b12 := (Below.setCell (Below.setCell (Below.setCell (Below.setCell (Below.setCell (Below.setCell (Below.setCell (Below.setCell (Below.setCell (Below.setCell (Below.setCell (Below.setCell hB.out (p := ⟨Wa.heap.size, 0, none⟩) (Nat.le_refl _) (.pointer (some ⟨bk tb ns (F 0), 0, none⟩))) (p := ⟨Wa.heap.size, 1, none⟩) (Nat.le_refl _) (.pointer (some ⟨bk tb ns (F 1), 0, none⟩))) (p := ⟨Wa.heap.size, 2, none⟩) (Nat.le_refl _) (.pointer (some ⟨bk tb ns (F 2), 0, none⟩))) (p := ⟨Wa.heap.size, 3, none⟩) (Nat.le_refl _) (.pointer (some ⟨bk tb ns (F 3), 0, none⟩))) (p := ⟨Wa.heap.size, 4, none⟩) (Nat.le_refl _) (.pointer (some ⟨bk tb ns (F 4), 0, none⟩))) (p := ⟨Wa.heap.size, 5, none⟩) (Nat.le_refl _) (.pointer (some ⟨bk tb ns (F 5), 0, none⟩))) (p := ⟨Wa.heap.size, 6, none⟩) (Nat.le_refl _) (.pointer (some ⟨bk tb ns (F 6), 0, none⟩))) (p := ⟨Wa.heap.size, 7, none⟩) (Nat.le_refl _) (.pointer (some ⟨bk tb ns (F 7), 0, none⟩))) (p := ⟨Wa.heap.size, 8, none⟩) (Nat.le_refl _) (.pointer (some ⟨bk tb ns (F 8), 0, none⟩))) (p := ⟨Wa.heap.size, 9, none⟩) (Nat.le_refl _) (.pointer (some ⟨bk tb ns (F 9), 0, none⟩))) (p := ⟨Wa.heap.size, 10, none⟩) (Nat.le_refl _) (.pointer (some ⟨bk tb ns (F 10), 0, none⟩))) (p := ⟨Wa.heap.size, 11, none⟩) (Nat.le_refl _) (.pointer (some ⟨bk tb ns (F 11), 0, none⟩)))
      have H12 := Lib.hid h12
      have B12 := Lib.hid b12
      clear hall h12 b12
      go_wp2
      have r0 := H12.out 0 (by omega)
      have r1 := H12.out 1 (by omega)
      have r2 := H12.out 2 (by omega)
      have r3 := H12.out 3 (by omega)
      have r4 := H12.out 4 (by omega)
      have r5 := H12.out 5 (by omega)
      have r6 := H12.out 6 (by omega)
      have r7 := H12.out 7 (by omega)
      have r8 := H12.out 8 (by omega)
      have r9 := H12.out 9 (by omega)
      have r10 := H12.out 10 (by omega)
      have r11 := H12.out 11 (by omega)
      have hbb := B12.out
      clear H12 B12 o0 o1 o2 o3 o4 o5 o6 o7 o8 o9 o10 o11 f0 f1 f2 f3 f4 f5 f6 f7 f8 f9 f10 f11 hO
      generalize (World.setCell _ ⟨Wa.heap.size, 11, none⟩ _) = wf at *
      refine bodyPost_ret (v := .agg ((List.range 12).map fun k => ptr (some (bk tb ns (F k)))).toArray) (by simp [results, Try.results43, go_sem, r0, r1, r2, r3, r4, r5, r6, r7, r8, r9, r10, r11, List.range, List.range.loop]) rfl ⟨F, fun k hk => by rw [← hp]; exact hF.out k (Nat.zero_le _) hk, rfl, HB0.out.trans (hbb.mono HB0.out.size)⟩
    | succ m =>
      simp only [show (((m + 1 : Nat) : Int) - 1) = (m : Int) by omega]
      go_wp2_with fail
      go_loopg [5] (p - i) (fun g at_ wi => ∃ i' : Nat, g = p - i' ∧ i' ≤ p ∧ at_ = .pointer (some ⟨bk tb ns i', 0, none⟩) ∧ m < ht ns i' ∧ Hid (Below wo.heap.size wo wi))
      case atStart => exact ⟨i, rfl, hip, rfl, by omega, Lib.hid (Below.refl _ _)⟩
      case round =>
        obtain ⟨i', rfl, hi', rfl, hmi, hbi⟩ := hrel
        have HBi := Lib.hid (hB.out.trans (hbi.out.mono hB.out.size))
        have HSi := Lib.hid (HSa.out.below HBi.out)
        obtain ⟨c1, hh12, htw⟩ := HSi.out.place (i := i') (by omega)
        have c2 := htw m hmi
        have c3 := HSi.out.cmp
        have hxx := HX.out.below HBi.out
        have v1 := hxx.key
        have v2 := hxx.seq
        have v3 := hxx.gone
        have v4 := hxx.val
        clear hxx htw
        go_upto_region 5 with fail
        go_cut [40] (fun t wx => Hid (Below wr.heap.size wr wx) ∧ ((t = .bool false ∧ Hid (Last ns p m i')) ∨ (t = .bool true ∧ ∃ j, i' ≤ j ∧ j < p ∧ Hid (nxt m (ns.drop i') = some (nth ns j).b) ∧ m < (nth ns j).h)))
        case first =>
          rcases nxt_from m ns i' with ⟨hn, hlast⟩ | ⟨j, hj1, hj2, hn, hj3, hj4⟩
          · rw [hn] at c2
            replace c2 : wr.cell? ⟨tw t0 ns i', m, none⟩ = some (.pointer none) := c2
            have HL : Hid (Last ns p m i') := Lib.hid ⟨hi', hmi, fun j h1 h2 => hlast j h1 (by omega)⟩
            clear hn hlast
            refine wp_region_class (w0 := wr) (by kernel_rfl) (by kernel_rfl) (Below.refl _ _) ?_
            replace c1 := BW.cell c1
            replace c2 := BW.cell c2
            replace c3 := BW.cell c3
            replace v1 := BW.cell v1
            replace v2 := BW.cell v2
            replace v3 := BW.cell v3
            replace v4 := BW.cell v4
            repeat (first | go_big_quiet_step (fail))
            refine wpQuiet_nil ?_
            intro w9 hb9; replace hb9 := BW.of hb9
            clear c1 c2 c3 v1 v2 v3 v4
            go_wp2
            go_meet
            exact ⟨Lib.hid hb9, .inl ⟨rfl, HL⟩⟩
          · have HN := Lib.hid hn
            have hnd := (HSi.out.nd j hj2).1.ent
            have x1 := hnd.key
            have x2 := hnd.seq
            have x3 := hnd.gone
            have x4 := hnd.val
            clear hnd
            rw [hn] at c2
            replace c2 : wr.cell? ⟨tw t0 ns i', m, none⟩ = some (.pointer (some ⟨(nth ns j).b, 0, none⟩)) := c2
            by_cases hjp : j < p
            · have hc : Ent.cmp (nth ns j).e v = -1 := below_lt (by omega)
              have HSM : Hid (∀ W : BW wr, Calls Try.prog 31 #[ev (nth ns j).e (nth ns j).va (nth ns j).vc, ev v va vc] W.w fun e w' => e = .returned (.int .i64 (-1)) ∧ Below W.w.heap.size W.w w') := Lib.hid fun W => by
                have := cmp_any (nth ns j).e v (nth ns j).va va (nth ns j).vc vc W.w
                rwa [hc] at this
              clear hn hj4
              refine wp_region_class (w0 := wr) (by kernel_rfl) (by kernel_rfl) (Below.refl _ _) ?_
              replace c1 := BW.cell c1
              replace c2 := BW.cell c2
              replace c3 := BW.cell c3
              replace v1 := BW.cell v1
              replace v2 := BW.cell v2
              replace v3 := BW.cell v3
              replace v4 := BW.cell v4
              replace x1 := BW.cell x1
              replace x2 := BW.cell x2
              replace x3 := BW.cell x3
              replace x4 := BW.cell x4
              repeat (first | go_big_quiet_step ((go_at_call 31; exact calls_class (HSM.out _))))
              refine wpQuiet_nil ?_
              intro w9 hb9; replace hb9 := BW.of hb9
              clear c1 c2 c3 v1 v2 v3 v4 x1 x2 x3 x4
              go_wp2
              go_meet
              exact ⟨Lib.hid hb9, .inr ⟨rfl, j, hj1, hjp, HN, hj3⟩⟩
            · have hc : ¬ Ent.cmp (nth ns j).e v = -1 := below_ge HSi.out.sorted hj2 (by omega)
              obtain ⟨z, hz⟩ : ∃ z, z = Ent.cmp (nth ns j).e v := ⟨_, rfl⟩
              have t1 : decide (z < 0) = false := decide_eq_false (by rcases Ent.cmp_cases (nth ns j).e v with h | h | h <;> omega)
              have HL : Hid (Last ns p m i') := Lib.hid ⟨hi', hmi, fun k h1 h2 => hj4 k h1 (by omega)⟩
              have HSM : Hid (∀ W : BW wr, Calls Try.prog 31 #[ev (nth ns j).e (nth ns j).va (nth ns j).vc, ev v va vc] W.w fun e w' => e = .returned (.int .i64 z) ∧ Below W.w.heap.size W.w w') := Lib.hid fun W => by
                have := cmp_any (nth ns j).e v (nth ns j).va va (nth ns j).vc vc W.w
                rwa [← hz] at this
              clear hn hj4 hz hc
              refine wp_region_class (w0 := wr) (by kernel_rfl) (by kernel_rfl) (Below.refl _ _) ?_
              replace c1 := BW.cell c1
              replace c2 := BW.cell c2
              replace c3 := BW.cell c3
              replace v1 := BW.cell v1
              replace v2 := BW.cell v2
              replace v3 := BW.cell v3
              replace v4 := BW.cell v4
              replace x1 := BW.cell x1
              replace x2 := BW.cell x2
              replace x3 := BW.cell x3
              replace x4 := BW.cell x4
              repeat (first | go_big_quiet_step ((go_at_call 31; exact calls_class (HSM.out _))))
              refine wpQuiet_nil ?_
              intro w9 hb9; replace hb9 := BW.of hb9
              clear c1 c2 c3 v1 v2 v3 v4 x1 x2 x3 x4
              go_wp2
              go_meet
              exact ⟨Lib.hid hb9, .inl ⟨rfl, HL⟩⟩
        case rest =>
          obtain ⟨hbc, ⟨rfl, hL⟩ | ⟨rfl, j, hj1, hj2, hn, hj3⟩⟩ := hcut
          · clear c1 c2 c3 v1 v2 v3 v4
            have HOc := Lib.hid (hO.out.below (hbi.out.trans (hbc.out.mono hbi.out.size)))
            have o1 := HOc.out.cell m (by omega)
            have o2 := HOc.out.frz m
            rw [if_neg (by omega)] at o1
            replace o1 : wc.cell? ⟨Wa.heap.size, m, none⟩ = some (.pointer none) := o1
            have HBc := Lib.hid (hB.out.trans ((hbi.out.trans (hbc.out.mono hbi.out.size)).mono hB.out.size))
            have HO2 := Lib.hid (HOc.out.set (b := bk tb ns i') (by omega))
            go_wp2
            go_roundw
            case rel =>
              refine ⟨m, i', fun j => if j = m then i' else F j, by omega, by go_num, rfl, hi', by omega, Lib.hid (fun j h1 h2 => ?_), Lib.hid ?_, Lib.hid (HBc.out.setCell (Nat.le_refl _) _)⟩
              · show Last ns p j (if j = m then i' else F j)
                by_cases e : j = m
                · rw [if_pos e, e]; exact hL.out
                · rw [if_neg e]; exact hF.out j (by omega) h2
              · rw [show (fun j => bk tb ns (if j = m then i' else F j)) = (fun j => if j = m then bk tb ns i' else bk tb ns (F j)) by funext j; split <;> rfl]
                exact HO2.out
            case measure => simp [intOf]
          · clear c3 v1 v2 v3 v4
            replace c2 : wr.cell? ⟨tw t0 ns i', m, none⟩ = some (.pointer (some ⟨(nth ns j).b, 0, none⟩)) := by rw [← show ptr (some (nth ns j).b) = .pointer (some ⟨(nth ns j).b, 0, none⟩) from rfl, ← hn.out]; exact c2
            replace c1 := cell_later hbc.out c1
            replace c2 := cell_later hbc.out c2
            go_wp2
            go_roundg (p - (j + 1))
            case measure => omega
            case rel => exact ⟨j + 1, rfl, by omega, by simp [bk], by simpa [ht] using hj3, Lib.hid (hbi.out.trans (hbc.out.mono hbi.out.size))⟩
end Go.Proofs.Ytgcealgkhlbgmaa
