/- The reference's versions: one, Apply. -/
import Derived.Test.YtlipgaefflecaaaZCaG
set_option linter.unusedVariables false
set_option linter.unusedSimpArgs false
set_option maxRecDepth 100000
set_option linter.unusedVariables false
set_option linter.unusedSimpArgs false
namespace Go.Proofs.Ytlipgaefflecaaa
open Go.RowKit

/-- A version in a block of its own. -/
structure VBox (w : World) (b : Nat) (a : Option Addr) (n c : Nat) (sq nx wl : Int) : Prop where
  blk : w.heap[b]? = some (.cells #[.slice a n c, .int .u64 sq, .int .i64 nx, .int .i64 wl] 31 (0, 0))
theorem VBox.lt {w : World} {b n c : Nat} {a : Option Addr} {sq nx wl : Int} (h : VBox w b a n c sq nx wl) : b < w.heap.size := (Array.getElem?_eq_some_iff.1 h.blk).1
theorem VBox.new (w : World) (a : Option Addr) (n c : Nat) (sq nx wl : Int) : VBox (w.alloc (.cells #[.slice a n c, .int .u64 sq, .int .i64 nx, .int .i64 wl] 31)) w.heap.size a n c sq nx wl := ⟨heap_alloc_new w _⟩
theorem VBox.below {w w' : World} {b n c : Nat} {a : Option Addr} {sq nx wl : Int} (h : VBox w b a n c sq nx wl) {N : Nat} (hb : Below N w w') (hN : b < N) : VBox w' b a n c sq nx wl := ⟨(hb.block b hN).trans h.blk⟩
theorem VBox.cells {w : World} {b n c : Nat} {a : Option Addr} {sq nx wl : Int} (h : VBox w b a n c sq nx wl) : w.cell? ⟨b, 0, none⟩ = some (.slice a n c) ∧ w.cell? ⟨b, 1, none⟩ = some (.int .u64 sq) ∧ w.cell? ⟨b, 2, none⟩ = some (.int .i64 nx) ∧ w.cell? ⟨b, 3, none⟩ = some (.int .i64 wl) ∧ ∀ o, w.frozen? ⟨b, o, none⟩ = false :=
  ⟨(cell_of_row _ _ 0 _ _ _ h.blk).trans rfl, (cell_of_row _ _ 1 _ _ _ h.blk).trans rfl, (cell_of_row _ _ 2 _ _ _ h.blk).trans rfl, (cell_of_row _ _ 3 _ _ _ h.blk).trans rfl, fun o => by simp [World.frozen?, h.blk]⟩
theorem VBox.set {w : World} {b n c n' c' : Nat} {a a' : Option Addr} {sq nx wl sq' nx' wl' : Int} (h : VBox w b a n c sq nx wl) (j : Nat) (v : Value) (hv : (#[.slice a n c, .int .u64 sq, .int .i64 nx, .int .i64 wl] : Array Value).setIfInBounds j v = #[.slice a' n' c', .int .u64 sq', .int .i64 nx', .int .i64 wl']) : VBox (w.setCell ⟨b, j, none⟩ v) b a' n' c' sq' nx' wl' := by
  refine ⟨?_⟩
  show (w.heap.modify b _)[b]? = _
  obtain ⟨hlt, hk⟩ := Array.getElem?_eq_some_iff.1 h.blk
  rw [Array.getElem?_eq_getElem (by rw [Array.size_modify]; exact hlt), Array.getElem_modify_self, hk]
  simp only [hv]
  rfl
/-- The four cells of a version are written. -/
def vset (w : World) (b : Nat) (a : Option Addr) (n c : Nat) (sq nx wl : Int) : World := (((w.setCell ⟨b, 0, none⟩ (.slice a n c)).setCell ⟨b, 1, none⟩ (.int .u64 sq)).setCell ⟨b, 2, none⟩ (.int .i64 nx)).setCell ⟨b, 3, none⟩ (.int .i64 wl)
theorem VBox.put {w : World} {b n c n' c' : Nat} {a a' : Option Addr} {sq nx wl sq' nx' wl' : Int} (h : VBox w b a n c sq nx wl) : VBox (vset w b a' n' c' sq' nx' wl') b a' n' c' sq' nx' wl' :=
  (((h.set 0 (.slice a' n' c') rfl).set 1 (.int .u64 sq') rfl).set 2 (.int .i64 nx') rfl).set 3 (.int .i64 wl') rfl
theorem vset_below {w W : World} {N b n c : Nat} {a : Option Addr} {sq nx wl : Int} (h : Below N w W) (hb : N ≤ b) : Below N w (vset W b a n c sq nx wl) :=
  (((h.setCell (p := ⟨b, 0, none⟩) hb _).setCell (p := ⟨b, 1, none⟩) hb _).setCell (p := ⟨b, 2, none⟩) hb _).setCell (p := ⟨b, 3, none⟩) hb _
theorem AccT.setLow {w : World} {B n c b j : Nat} {a : Option Addr} {l : List Tab} (h : AccT w B a n c l) (hb : b < B) (v : Value) : AccT (w.setCell ⟨b, j, none⟩ v) B a n c l :=
  ⟨h.1, own_oth h.2 ((Oth.refl (some ⟨b, j, none⟩) w).set rfl rfl v) (fun x y hx hy => by
    cases hx
    have := (World.ownsRow.lt h.2 y.block (by subst hy; rfl)).1
    show b ≠ y.block
    omega)⟩
theorem AccT.vset {w : World} {B n c b : Nat} {a : Option Addr} {l : List Tab} (h : AccT w B a n c l) (hb : b < B) (a' : Option Addr) (n' c' : Nat) (sq nx wl : Int) : AccT (vset w b a' n' c' sq nx wl) B a n c l :=
  (((h.setLow hb _).setLow hb _).setLow hb _).setLow hb _
def edv (aA : Option Addr) (nA cA : Nat) (aD : Option Addr) (nD cD : Nat) : Value := .agg #[.slice aA nA cA, .slice aD nD cD, .int .u64 0, .int .i64 0, .int .i64 0]
/-- What an edit asks. -/
structure Ca.Fits (l : List Tab) (A : List Tab) (D : List Int) : Prop where
  len : l.length ≤ 1000
  alen : A.length ≤ 1000
  nodup : (l.map Tab.file).Nodup
  dnodup : D.Nodup
  din : ∀ f ∈ D, f ∈ l.map Tab.file
  anodup : (A.map Tab.file).Nodup
  anew : ∀ t ∈ A, ∀ u ∈ dropF l D, t.file ≠ u.file
  afile : ∀ t ∈ A, 0 ≤ t.file ∧ t.file ≤ 1099511627776
  alev : ∀ t ∈ A, 0 ≤ t.level ∧ t.level ≤ 6
  aord : ∀ t ∈ A, Ent.klt t.last t.first = false
  asize : ∀ t ∈ A, 0 ≤ t.size ∧ t.size ≤ 1099511627776
  part : (A ++ dropF l D).Pairwise Ca.lowLev
theorem Ca.lowLev.symm {t u : Tab} (h : Ca.lowLev t u) : Ca.lowLev u t := fun h1 h2 => (h (by omega) h2.symm).symm
theorem Ca.low_perm {L M : List Tab} (h : L.Pairwise Ca.lowLev) (hp : M.Perm L) : ∀ i k, k < i → i < M.length → Ca.lowLev (nth M i) (nth M k) := fun i k hk hi => by
  have h1 : M.Pairwise Ca.lowLev := (hp.pairwise_iff (fun h => Ca.lowLev.symm h)).2 h
  have h2 := List.pairwise_iff_getElem.1 h1 k i (by omega) hi hk
  rw [nth_eq _ hi, nth_eq _ (by omega)]
  exact h2.symm
theorem Ca.Fits.noFile {l A : List Tab} {D : List Int} (h : Ca.Fits l A D) {i : Nat} (hi : i < A.length) {L : List Tab} (hp : L.Perm (A.take i ++ dropF l D)) : idxT (fileIs (nth A i).file) L = -1 := by
  rcases idxT_cases (fileIs (nth A i).file) L with ⟨h1, _⟩ | ⟨k, h1, h2, h3, _⟩
  · exact h1
  · exfalso
    have h4 : (nth L k).file = (nth A i).file := by unfold fileIs at h3; exact beq_iff_eq.1 h3
    have hm : nth L k ∈ A.take i ++ dropF l D := by
      rw [nth_eq _ h2]
      exact hp.subset (List.getElem_mem _)
    have hA : nth A i ∈ A := by rw [nth_eq _ hi]; exact List.getElem_mem _
    rcases List.mem_append.1 hm with hm | hm
    · obtain ⟨j, hj, ej⟩ := List.mem_iff_getElem.1 hm
      rw [List.length_take] at hj
      rw [List.getElem_take] at ej
      have hn := List.pairwise_iff_getElem.1 h.anodup j i (by simp; omega) (by simpa using hi) (by omega)
      rw [List.getElem_map, List.getElem_map] at hn
      rw [ej] at hn
      rw [nth_eq _ hi] at h4
      exact hn h4
    · exact h.anew _ hA _ hm h4.symm
set_option maxHeartbeats 1500000 in
theorem one_any (a : Option Addr) (n c : Nat) (l : List Tab) (sq nx wl : Int) (aA : Option Addr) (nA cA : Nat) (A : List Tab) (aD : Option Addr) (nD cD : Nat) (D : List Int) (w : World) (h : Ts w a n c l) (hA : Ts w aA nA cA A) (hD : Zs w aD nD cD D) (hF : Ca.Fits l A D) :
    Calls Try.prog 15 #[vv a n c sq nx wl, edv aA nA cA aD nD cD] w fun e w' => ∃ a' n' c' L, e = .returned (.tuple #[vv a' n' c' sq nx wl, .int .i64 0]) ∧ AccT w' w.heap.size a' n' c' L ∧ L.Perm (A ++ dropF l D) ∧ Below w.heap.size w w' := by
  have HE := Lib.hid h
  have HA := Lib.hid hA
  have HD := Lib.hid hD
  have HF := Lib.hid hF
  have hle := h.le
  have hleA := hA.le
  have hln : n ≤ 1000 := by rw [← h.1]; exact hF.len
  have hlA : nA ≤ 1000 := by rw [← hA.1]; exact hF.alen
  have HAL := Lib.hid hA.1
  clear h hA hD hF
  obtain ⟨wb, hwb⟩ : ∃ wb, (w.alloc (.cells #[.slice a n c, .int .u64 sq, .int .i64 nx, .int .i64 wl] 31)).alloc (.cells #[.slice aA nA cA, .slice aD nD cD, .int .u64 0, .int .i64 0, .int .i64 0] 43) = wb := ⟨_, rfl⟩
  have hzb : wb.heap.size = w.heap.size + 1 + 1 := by rw [← hwb]; simp
  have hbb : Below w.heap.size w wb := by rw [← hwb]; exact two_boxes _ _ _
  have hvb : wb.heap[w.heap.size]? = some (.cells #[.slice a n c, .int .u64 sq, .int .i64 nx, .int .i64 wl] 31 (0, 0)) := by
    rw [← hwb]; exact (Below.heap_alloc _ _ _ (by simp)).trans (heap_alloc_new w _)
  have hsb : wb.heap[w.heap.size + 1]? = some (.cells #[.slice aA nA cA, .slice aD nD cD, .int .u64 0, .int .i64 0, .int .i64 0] 43 (0, 0)) := by
    rw [← hwb]
    have := heap_alloc_new (w.alloc (.cells #[.slice a n c, .int .u64 sq, .int .i64 nx, .int .i64 wl] 31)) (.cells #[.slice aA nA cA, .slice aD nD cD, .int .u64 0, .int .i64 0, .int .i64 0] 43)
    rwa [World.size_alloc] at this
  have hj0 : VBox (wb.alloc (.cells #[.slice none 0 0, .int .u64 0, .int .i64 0, .int .i64 0] 31)) wb.heap.size none 0 0 0 0 0 := VBox.new _ _ _ _ _ _ _
  obtain ⟨w0, hw0⟩ : ∃ w0, wb.alloc (.cells #[.slice none 0 0, .int .u64 0, .int .i64 0, .int .i64 0] 31) = w0 := ⟨_, rfl⟩
  have hb0 : Below wb.heap.size wb w0 := by rw [← hw0]; exact below_alloc1 _ _
  rw [hw0] at hj0
  have hv0 := (hb0.block w.heap.size (by omega)).trans hvb
  have hs0 := (hb0.block (w.heap.size + 1) (by omega)).trans hsb
  have HB0 : Hid (Below w.heap.size w w0) := Lib.hid (hbb.trans (hb0.mono hbb.size))
  have HJ0 := Lib.hid hj0
  have HSZ : Hid (wb.heap.size = w.heap.size + 1 + 1 ∧ wb.heap.size < w0.heap.size) := Lib.hid ⟨hzb, hj0.lt⟩
  have v0 := cell_of_row _ _ 0 _ _ _ hv0
  have v1 := cell_of_row _ _ 1 _ _ _ hv0
  have v2 := cell_of_row _ _ 2 _ _ _ hv0
  have v3 := cell_of_row _ _ 3 _ _ _ hv0
  have s0 := cell_of_row _ _ 0 _ _ _ hs0
  have s1 := cell_of_row _ _ 1 _ _ _ hs0
  have s2 := cell_of_row _ _ 2 _ _ _ hs0
  have s3 := cell_of_row _ _ 3 _ _ _ hs0
  have s4 := cell_of_row _ _ 4 _ _ _ hs0
  simp at v0 v1 v2 v3 s0 s1 s2 s3 s4
  clear hvb hsb hj0 hv0 hs0 hb0 hbb hzb
  unfold vv edv
  go_enter Try.func15, Try.ntmps15
  go_upto_region 1 with fail
  have VS := Lib.hid (fun (W : World) (h : Below w0.heap.size w0 W) => And.intro (cell_later h v0) (And.intro (cell_later h v1) (And.intro (cell_later h v2) (And.intro (cell_later h v3) (And.intro (cell_later h s0) (And.intro (cell_later h s1) (And.intro (cell_later h s2) (And.intro (cell_later h s3) (cell_later h s4)))))))))
  clear hw0 hwb
  have hdr := dropped_any a n c l aD nD cD D w0 (HE.out.below HB0.out) (HD.out.below HB0.out) (by omega) HF.out.nodup HF.out.dnodup HF.out.din
  go_wp2_with fail
  refine hdr.mono ?_
  clear hdr
  rintro e w1 ⟨a1, n1, c1, rfl, h1, hb1'⟩
  have HDL : Hid ((dropF l D).length ≤ n) := Lib.hid (by
    unfold dropF
    have h1 := List.length_filter_le (fun t : Tab => decide (t.file ∉ D)) l
    rw [HE.out.1] at h1
    exact h1)
  have hn1 : n1 ≤ n := by rw [← h1.1]; exact HDL.out
  clear v0 v1 v2 v3 s0 s1 s2 s3 s4
  have HB1 := Lib.hid hb1'
  have H1 := Lib.hid h1
  clear hb1' h1
  go_wp2_with fail
  go_loopw [6, 8] (fun lv iv wr => ∃ (i n' : Nat) (a' : Option Addr) (c' : Nat) (L : List Tab), i ≤ nA ∧ n' ≤ n1 + i ∧ lv = .slice a' n' c' ∧ iv = .int .i64 i ∧ Hid (L.Perm (A.take i ++ dropF l D)) ∧ Hid (AccT wr w0.heap.size a' n' c' L) ∧ Hid (Below w0.heap.size w0 wr)) (fun _ iv _ => nA - (intOf iv).toNat)
  case atStart => exact ⟨0, n1, a1, c1, dropF l D, by omega, by omega, rfl, rfl, Lib.hid (by rw [List.take_zero]; exact List.Perm.refl _), H1, HB1⟩
  case round =>
    clear HB1 H1
    obtain ⟨i, n', a', c', L, hi, hn', rfl, rfl, HP, HL, HB⟩ := hrel
    obtain ⟨v0, v1, v2, v3, s0, s1, s2, s3, s4⟩ := VS.out wr HB.out
    by_cases hlt : i < nA
    · have t1 : decide ((i : Int) < (nA : Int)) = true := decide_eq_true (by omega)
      have t2 : decide (i < nA) = true := decide_eq_true hlt
      have HBW := Lib.hid (HB0.out.trans (HB.out.mono HB0.out.size))
      have hiA : i < A.length := by rw [HAL.out]; exact hlt
      have hAm : nth A i ∈ A := by rw [nth_eq _ hiA]; exact List.getElem_mem _
      have hnf := HF.out.noFile hiA HP.out
      have hfi := HF.out.afile _ hAm
      have hle' := HF.out.alev _ hAm
      have hor := HF.out.aord _ hAm
      have hsi := HF.out.asize _ hAm
      obtain ⟨b1, o1, rfl, g1⟩ := (HA.out.below HBW.out).get hlt
      have c0 := g1.file
      have c1 := g1.level
      have c2 := g1.first
      have c3 := g1.last
      have c4 := g1.size
      have HPN : Hid (∀ (L' : List Tab), L'.Perm (nth A i :: L) → L'.Perm (A.take (i + 1) ++ dropF l D)) := Lib.hid fun L' hp => by
        refine hp.trans (((HP.out.cons _)).trans ?_)
        rw [show A.take (i + 1) = A.take i ++ [nth A i] by rw [List.take_succ_eq_append_getElem hiA, nth_eq _ hiA]]
        rw [List.append_assoc]
        exact List.perm_middle.symm
      have hb2 := below_alloc1 wr (.cells #[.int .i64 (nth A i).file, .int .i64 (nth A i).level, .string (bstr (nth A i).first), .string (bstr (nth A i).last), .int .i64 (nth A i).size] 39)
      have tb := tab_box wr (nth A i)
      have hadd : Hid (∀ W, Below wr.heap.size wr W → Calls Try.prog 27 #[.slice a' n' c', tval (nth A i)] W fun e w' => ∃ a'' c'' L', e = .returned (.slice a'' (n' + 1) c'') ∧ AccT w' W.heap.size a'' (n' + 1) c'' L' ∧ L'.Perm (nth A i :: L) ∧ Below W.heap.size W w') := Lib.hid fun W k => added_any a' n' c' L (nth A i) W (HL.out.ts.below k) (by omega)
      have hplc : Hid (∀ W, Below wr.heap.size wr W → Calls Try.prog 26 #[.slice a' n' c', .int .i64 (nth A i).file] W fun e w' => e = .returned (.int .i64 (-1)) ∧ Below W.heap.size W w') := Lib.hid fun W k => by
        have h1 := place_any a' n' c' L (nth A i).file W (HL.out.ts.below k)
        rwa [hnf] at h1
      unfold tval at hadd
      have u1 : decide ((nth A i).file < 0) = false := decide_eq_false (by omega)
      have u2 : decide ((1099511627776 : Int) < (nth A i).file) = false := decide_eq_false (by omega)
      have u3 : decide ((nth A i).level < 0) = false := decide_eq_false (by omega)
      have u4 : decide ((6 : Int) < (nth A i).level) = false := decide_eq_false (by omega)
      have u5' : Op.bytesLess (bstr (nth A i).last).toList (bstr (nth A i).first).toList = false := by rw [bstr_list, bstr_list]; exact hor
      have u6 : decide ((nth A i).size < 0) = false := decide_eq_false (by omega)
      have u7 : decide ((1099511627776 : Int) < (nth A i).size) = false := decide_eq_false (by omega)
      clear hnf hfi hle' hor hsi g1 hAm
      have TF : Hid (∀ W, Below (wr.alloc (.cells #[.int .i64 (nth A i).file, .int .i64 (nth A i).level, .string (bstr (nth A i).first), .string (bstr (nth A i).last), .int .i64 (nth A i).size] 39)).heap.size (wr.alloc (.cells #[.int .i64 (nth A i).file, .int .i64 (nth A i).level, .string (bstr (nth A i).first), .string (bstr (nth A i).last), .int .i64 (nth A i).size] 39)) W → W.cell? ⟨wr.heap.size, 0, none⟩ = some (.int .i64 (nth A i).file) ∧ W.cell? ⟨wr.heap.size, 1, none⟩ = some (.int .i64 (nth A i).level) ∧ W.cell? ⟨wr.heap.size, 2, none⟩ = some (.string (bstr (nth A i).first)) ∧ W.cell? ⟨wr.heap.size, 3, none⟩ = some (.string (bstr (nth A i).last)) ∧ W.cell? ⟨wr.heap.size, 4, none⟩ = some (.int .i64 (nth A i).size)) := Lib.hid fun W k => by
        have t := tb.below k
        have t1 := t.level; have t2 := t.first; have t3 := t.last; have t4 := t.size
        simp only [Nat.zero_add] at t1 t2 t3 t4
        exact ⟨t.file, t1, t2, t3, t4⟩
      clear tb
      generalize nth A i = t at *
      obtain ⟨x0, x1, x2, x3, x4⟩ := t
      dsimp only at u1 u2 u3 u4 u5' u6 u7 c0 c1 c2 c3 c4 hb2 TF hadd hplc
      have hord : Hid (Ent.klt x2 x3 = true) ∨ Hid (x2 = x3) := by
        rcases Ent.klt_total x2 x3 with h5 | h5 | h5
        · exact .inl (Lib.hid h5)
        · exact .inr (Lib.hid h5)
        · rw [bstr_list, bstr_list] at u5'
          exact absurd (h5.symm.trans u5') (by simp)
      clear u5'
      rcases hord with h5 | h5
      · have u5' : Op.bytesLess (bstr x2).toList (bstr x3).toList = true := by rw [bstr_list, bstr_list]; exact h5.out
        go_upto_region 8 with fail
        generalize wr.alloc (.cells #[.int .i64 x0, .int .i64 x1, .string (bstr x2), .string (bstr x3), .int .i64 x4] 39) = w2 at *
        obtain ⟨d0, d1, d2, d3, d4⟩ := TF.out w2 (Below.refl _ _)
        have HB2 := Lib.hid hb2
        clear hb2
        have hpl := hplc.out w2 HB2.out
        clear hplc v0 v1 v2 v3 s0 s1 s2 s3 s4
        go_wp2_with fail
        refine hpl.mono ?_
        clear hpl
        rintro e w3 ⟨rfl, hb3⟩
        clear d0 d1 d2 d3 d4
        obtain ⟨d0, d1, d2, d3, d4⟩ := TF.out w3 hb3
        have HB3 := Lib.hid (HB2.out.trans (hb3.mono HB2.out.size))
        clear hb3
        have had := hadd.out w3 HB3.out
        clear hadd
        go_wp2_with fail
        refine had.mono ?_
        clear had
        rintro e w4 ⟨a4, c4', L4, rfl, h4, hp4, hb4⟩
        have hb34 := HB3.out.trans (hb4.mono HB3.out.size)
        have HB4 := Lib.hid (HB.out.trans (hb34.mono HB.out.size))
        have H4 := Lib.hid (h4.mono (Nat.le_trans HB.out.size HB3.out.size))
        have HP4 := Lib.hid (HPN.out L4 hp4)
        clear hb4 hb34 h4 hp4 d0 d1 d2 d3 d4
        go_wp2_with fail
        go_roundw
        case rel => exact ⟨i + 1, n' + 1, a4, c4', L4, by omega, by omega, rfl, by go_num, HP4, H4, HB4⟩
        case measure => simp [intOf]; omega
      · have u5' : Op.bytesLess (bstr x2).toList (bstr x3).toList = false := by rw [bstr_list, bstr_list, h5.out]; exact Ent.klt_irrefl _
        have u8 : ((bstr x2).toList == (bstr x3).toList) = true := by rw [bstr_beq]; exact decide_eq_true h5.out
        have u9 : decide (x2 = x3) = true := decide_eq_true h5.out
        go_upto_region 8 with fail
        generalize wr.alloc (.cells #[.int .i64 x0, .int .i64 x1, .string (bstr x2), .string (bstr x3), .int .i64 x4] 39) = w2 at *
        obtain ⟨d0, d1, d2, d3, d4⟩ := TF.out w2 (Below.refl _ _)
        have HB2 := Lib.hid hb2
        clear hb2
        have hpl := hplc.out w2 HB2.out
        clear hplc v0 v1 v2 v3 s0 s1 s2 s3 s4
        go_wp2_with fail
        refine hpl.mono ?_
        clear hpl
        rintro e w3 ⟨rfl, hb3⟩
        clear d0 d1 d2 d3 d4
        obtain ⟨d0, d1, d2, d3, d4⟩ := TF.out w3 hb3
        have HB3 := Lib.hid (HB2.out.trans (hb3.mono HB2.out.size))
        clear hb3
        have had := hadd.out w3 HB3.out
        clear hadd
        go_wp2_with fail
        refine had.mono ?_
        clear had
        rintro e w4 ⟨a4, c4', L4, rfl, h4, hp4, hb4⟩
        have hb34 := HB3.out.trans (hb4.mono HB3.out.size)
        have HB4 := Lib.hid (HB.out.trans (hb34.mono HB.out.size))
        have H4 := Lib.hid (h4.mono (Nat.le_trans HB.out.size HB3.out.size))
        have HP4 := Lib.hid (HPN.out L4 hp4)
        clear hb4 hb34 h4 hp4 d0 d1 d2 d3 d4
        go_wp2_with fail
        go_roundw
        case rel => exact ⟨i + 1, n' + 1, a4, c4', L4, by omega, by omega, rfl, by go_num, HP4, H4, HB4⟩
        case measure => simp [intOf]; omega
    · obtain rfl : i = nA := by omega
      have t1 : decide ((i : Int) < (i : Int)) = false := decide_eq_false (by omega)
      have t2 : decide (i < i) = false := decide_eq_false (by omega)
      have t3 : decide ((65536 : Int) < (n' : Int)) = false := decide_eq_false (by omega)
      have t4 : decide (65536 < n') = false := decide_eq_false (by omega)
      have HPF : Hid (L.Perm (A ++ dropF l D)) := Lib.hid (by
        have h1 := HP.out
        rw [List.take_of_length_le (by rw [HAL.out]; omega)] at h1
        exact h1)
      have hpt := parted_any a' n' c' L wr HL.out.ts (by omega) (fun i k hk hi => Ca.low_perm HF.out.part HPF.out i k hk (by rw [HL.out.1]; exact hi))
      go_wp2_with fail
      refine hpt.mono ?_
      clear hpt
      rintro e w5 ⟨rfl, hb5⟩
      have hb05 := HB.out.trans (hb5.mono HB.out.size)
      have H5 := Lib.hid (HL.out.below hb5)
      have HB5 := Lib.hid hb05
      clear v0 v1 v2 v3 s0 s1 s2 s3 s4 hb05 hb5
      obtain ⟨v0, v1, v2, v3, s0, s1, s2, s3, s4⟩ := VS.out w5 HB5.out
      have hb6 := below_alloc1 w5 (.cells #[.slice a' n' c', .int .u64 sq, .int .i64 nx, .int .i64 wl] 31)
      have hn6 := VBox.new w5 a' n' c' sq nx wl
      go_upto_region 18 with fail
      generalize w5.alloc (.cells #[.slice a' n' c', .int .u64 sq, .int .i64 nx, .int .i64 wl] 31) = w6 at *
      have HB6 := Lib.hid (HB5.out.trans (hb6.mono HB5.out.size))
      have H6 := Lib.hid (H5.out.below hb6)
      clear hb6 v0 v1 v2 v3 s0 s1 s2 s3 s4
      obtain ⟨v0, v1, v2, v3, s0, s1, s2, s3, s4⟩ := VS.out w6 HB6.out
      obtain ⟨p0, p1, p2, p3, _⟩ := hn6.cells
      have HR : Hid (VBox w6 wb.heap.size none 0 0 0 0 0) := Lib.hid (HJ0.out.below HB6.out HSZ.out.2)
      obtain ⟨r0, r1, r2, r3, rf⟩ := HR.out.cells
      have HQ : Hid (VBox (vset w6 wb.heap.size a' n' c' sq nx wl) wb.heap.size a' n' c' sq nx wl) := Lib.hid HR.out.put
      have HNEW := Lib.hid (H6.out.vset HSZ.out.2 a' n' c' sq nx wl)
      have HBE := Lib.hid (vset_below (b := wb.heap.size) (a := a') (n := n') (c := c') (sq := sq) (nx := nx) (wl := wl) (HB0.out.trans (HB6.out.mono HB0.out.size)) (by have := HSZ.out; omega))
      go_wp2
      obtain ⟨q0, q1, q2, q3, _⟩ := HQ.out.cells
      unfold vset at q0 q1 q2 q3 HNEW HBE
      exact bodyPost_ret (v := .tuple #[.agg #[.slice a' n' c', .int .u64 sq, .int .i64 nx, .int .i64 wl], .int .i64 0]) (by simp [results, Try.results15, go_sem, q0, q1, q2, q3]) rfl ⟨a', n', c', L, rfl, HNEW.out.mono (by have := HB0.out.size; omega), HPF.out, HBE.out⟩
end Go.Proofs.Ytlipgaefflecaaa
