/- merge.together. -/
import Derived.Test.YtlipgaefflecaaaZCgE
import Derived.Test.YtlipgaefflecaaaZCgL
import Derived.Lib.SlBytesConst
import Derived.Shelf.Abstract
set_option linter.unusedVariables false
set_option linter.unusedSimpArgs false
section
set_option maxRecDepth 100000
set_option linter.unusedSimpArgs false
namespace Go.Proofs.Ytlipgaefflecaaa
open Go.RowKit
set_option linter.unusedVariables false

def slen : Value → Nat
  | .slice _ n _ => n
  | _ => 0
@[go_sem] theorem slen_slice (a : Option Addr) (n c : Nat) : slen (.slice a n c) = n := rfl
/-- Which list's head is the least of those up to i. -/
def BestAt (L : List (List Ent)) (i : Nat) : Option Nat → Prop
  | none => ∀ j, j < i → nth L j = []
  | some b => b < i ∧ ∃ e r, nth L b = e :: r ∧ (∀ j, j < b → ∀ x ∈ nth L j, Ent.lt e x) ∧ (∀ j, b < j → j < i → Ent.Behind e (nth L j))
def bestI : Option Nat → Int
  | none => -1
  | some b => (b : Int)
theorem best_zero (L : List (List Ent)) : BestAt L 0 none := fun j h => by omega
theorem best_empty {L : List (List Ent)} {i : Nat} {o : Option Nat} (h : BestAt L i o) (he : nth L i = []) : BestAt L (i + 1) o := by
  cases o with
  | none => intro j hj; by_cases e : j = i
            · rw [e]; exact he
            · exact h j (by omega)
  | some b =>
    obtain ⟨h1, e, r, h2, h3, h4⟩ := h
    refine ⟨by omega, e, r, h2, h3, fun j hj hj2 => ?_⟩
    by_cases k : j = i
    · rw [k, he]; exact fun x hx => by cases hx
    · exact h4 j hj (by omega)
theorem best_first {L : List (List Ent)} {i : Nat} (h : BestAt L i none) {x : Ent} {r : List Ent} (he : nth L i = x :: r) : BestAt L (i + 1) (some i) :=
  ⟨by omega, x, r, he, fun j hj y hy => (by rw [h j hj] at hy; cases hy), fun j h1 h2 => by omega⟩
theorem head_behind {x : Ent} {r : List Ent} (hs : (x :: r).Pairwise Ent.lt) {e : Ent} (h : Ent.lt e x ∨ Ent.eqv e x) : Ent.Behind e (x :: r) := by
  intro y hy
  rw [List.pairwise_cons] at hs
  rcases List.mem_cons.1 hy with k | k
  · rw [k]; exact h
  · rcases h with h | h
    · exact .inl (Ent.lt_trans h (hs.1 y k))
    · exact .inl (Ent.eqv_lt h (hs.1 y k))
theorem best_less {L : List (List Ent)} {i b : Nat} (h : BestAt L i (some b)) {x : Ent} {r : List Ent} (he : nth L i = x :: r) (hs : ∀ j, j < i → (nth L j).Pairwise Ent.lt) (hlt : ∀ e q, nth L b = e :: q → Ent.lt x e) : BestAt L (i + 1) (some i) := by
  obtain ⟨h1, e, q, h2, h3, h4⟩ := h
  have hxe := hlt e q h2
  refine ⟨by omega, x, r, he, fun j hj y hy => ?_, fun j g1 g2 => by omega⟩
  rcases Nat.lt_trichotomy j b with k | k | k
  · exact Ent.lt_trans hxe (h3 j k y hy)
  · subst k
    rw [h2] at hy
    have hs' := hs j hj
    rw [h2, List.pairwise_cons] at hs'
    rcases List.mem_cons.1 hy with g | g
    · rw [g]; exact hxe
    · exact Ent.lt_trans hxe (hs'.1 y g)
  · rcases h4 j k hj y hy with g | g
    · exact Ent.lt_trans hxe g
    · exact Ent.lt_eqv hxe g
theorem best_more {L : List (List Ent)} {i b : Nat} (h : BestAt L i (some b)) {x : Ent} {r : List Ent} (he : nth L i = x :: r) (hs : (nth L i).Pairwise Ent.lt) (hlt : ∀ e q, nth L b = e :: q → ¬ Ent.lt x e) : BestAt L (i + 1) (some b) := by
  obtain ⟨h1, e, q, h2, h3, h4⟩ := h
  refine ⟨by omega, e, q, h2, h3, fun j hj hj2 => ?_⟩
  by_cases k : j = i
  · rw [k, he]
    rw [he] at hs
    refine head_behind hs ?_
    have := hlt e q h2
    rcases Ent.tri e x with g | g | g
    · exact .inl g
    · exact .inr g
    · exact absurd g this
  · exact h4 j hj (by omega)
theorem nth_split {L : List (List Ent)} {b : Nat} (hb : b < L.length) : L = L.take b ++ nth L b :: L.drop (b + 1) := by
  rw [nth_eq _ hb]
  have := List.take_append_drop b L
  rw [List.drop_eq_getElem_cons hb] at this
  exact this.symm
theorem nth_take_mem {L : List (List Ent)} {b : Nat} {l : List Ent} (h : l ∈ L.take b) : ∃ j, j < b ∧ j < L.length ∧ l = nth L j := by
  obtain ⟨j, hj, rfl⟩ := List.getElem_of_mem h
  simp only [List.length_take] at hj
  exact ⟨j, by omega, by omega, by rw [nth_eq _ (by omega)]; simp⟩
theorem nth_drop_mem {L : List (List Ent)} {b : Nat} {l : List Ent} (h : l ∈ L.drop b) : ∃ j, b ≤ j ∧ j < L.length ∧ l = nth L j := by
  obtain ⟨j, hj, rfl⟩ := List.getElem_of_mem h
  simp only [List.length_drop] at hj
  exact ⟨b + j, by omega, by omega, by rw [nth_eq _ (by omega)]; simp⟩
theorem nth_mem {L : List (List Ent)} {j : Nat} (h : j < L.length) : nth L j ∈ L := by rw [nth_eq _ h]; exact List.getElem_mem _
theorem best_merge {L : List (List Ent)} {b : Nat} (h : BestAt L L.length (some b)) (hs : ∀ l ∈ L, l.Pairwise Ent.lt) {e : Ent} {r : List Ent} (he : nth L b = e :: r) : Ent.mergeL L = e :: Ent.mergeL (L.map (Ent.dropEq e)) := by
  obtain ⟨h1, e', r', h2, h3, h4⟩ := h
  rw [he] at h2
  cases h2
  have hsp := nth_split h1
  rw [he] at hsp
  rw [hsp]
  refine Ent.merge_take (by rw [← hsp]; exact hs) (fun l hl x hx => ?_) (fun l hl => ?_)
  · obtain ⟨j, hj, _, rfl⟩ := nth_take_mem hl
    exact h3 j hj x hx
  · obtain ⟨j, hj, hj2, rfl⟩ := nth_drop_mem hl
    exact h4 j (by omega) hj2
theorem best_none {L : List (List Ent)} (h : BestAt L L.length none) : Ent.mergeL L = [] :=
  Ent.merge_none fun l hl => by
    obtain ⟨j, hj, rfl⟩ := List.getElem_of_mem hl
    rw [← nth_eq _ hj]
    exact h j hj
/-- The lists while they are cut. -/
def cutTo (e : Ent) (L : List (List Ent)) (i : Nat) : List (List Ent) := (L.take i).map (Ent.dropEq e) ++ L.drop i
theorem cutTo_zero (e : Ent) (L : List (List Ent)) : cutTo e L 0 = L := by simp [cutTo]
theorem cutTo_all (e : Ent) (L : List (List Ent)) : cutTo e L L.length = L.map (Ent.dropEq e) := by simp [cutTo]
theorem cutTo_len (e : Ent) (L : List (List Ent)) {i : Nat} (h : i ≤ L.length) : (cutTo e L i).length = L.length := by simp [cutTo]; omega
theorem cutTo_at (e : Ent) (L : List (List Ent)) {i : Nat} (h : i < L.length) : nth (cutTo e L i) i = nth L i := by
  unfold cutTo
  rw [nth_eq _ (by simp; omega), List.getElem_append_right (by simp; omega), nth_eq _ h]
  simp [Nat.min_eq_left (Nat.le_of_lt h)]
theorem cutTo_succ (e : Ent) (L : List (List Ent)) {i : Nat} (h : i < L.length) : (cutTo e L i).set i (Ent.dropEq e (nth L i)) = cutTo e L (i + 1) := by
  unfold cutTo
  rw [List.set_append, if_neg (by simp; omega), List.take_succ_eq_append_getElem h, List.map_append, List.drop_eq_getElem_cons h]
  simp [Nat.min_eq_left (Nat.le_of_lt h), nth_eq _ h]
  rw [List.drop_eq_getElem_cons h]
  rfl
theorem dropEq_done {e : Ent} {l : List Ent} (h : ∀ x r, l = x :: r → ¬ Ent.eqv x e) : Ent.dropEq e l = l := by
  cases l with
  | nil => rfl
  | cons x r => rw [Ent.dropEq_cons, if_neg (h x r rfl)]
theorem EntAt.evol {w w' : World} {b o : Nat} {e : Ent} {a ao ao' : Option Addr} {c : Nat} (h : EntAt w b o e a c) (k : Evol w ao w' ao') (hne : some b ≠ ao.map (·.block)) : EntAt w' b o e a c :=
  ⟨k.1.cell h.key hne, k.1.cell h.seq hne, k.1.cell h.gone hne, k.1.cell h.val hne⟩
/-- While the lists are cut. -/
structure Cut (w0 w : World) (g n c Be : Nat) (e : Ent) (a2 : Option Addr) (d2 : Nat) (ao : Option Addr) (m co : Nat) (lo : List Ent) (L : List (List Ent)) (j : Nat) (wr : World) : Prop where
  acc : AccE wr w0.heap.size ao m co lo
  lr : LR w0 wr (some ⟨g, 0, none⟩) n c (cutTo e L j)
  ent : EntAt wr Be 0 e a2 d2
  bel : Below w0.heap.size w wr
theorem Cut.below {w0 w wr wr' : World} {g n c Be : Nat} {e : Ent} {a2 : Option Addr} {d2 : Nat} {ao : Option Addr} {m co : Nat} {lo : List Ent} {L : List (List Ent)} {j : Nat} (h : Cut w0 w g n c Be e a2 d2 ao m co lo L j wr) (hb : Below wr.heap.size wr wr') (h0 : w0.heap.size ≤ w.heap.size) : Cut w0 w g n c Be e a2 d2 ao m co lo L j wr' :=
  ⟨h.acc.below hb, h.lr.below hb, h.ent.below hb, h.bel.trans (hb.mono (Nat.le_trans h0 h.bel.size))⟩
theorem Cut.next {w0 w wr : World} {g n c Be : Nat} {e : Ent} {a2 : Option Addr} {d2 : Nat} {ao : Option Addr} {m co : Nat} {lo : List Ent} {L : List (List Ent)} {j : Nat} (h : Cut w0 w g n c Be e a2 d2 ao m co lo L j wr) (hj : j < n) (hL : L.length = n) (hg : w0.heap.size ≤ g) (hne : Be ≠ g)
    {q : Option Addr} {x y : Nat} (hp : wr.cell? ⟨g, j, none⟩ = some (.slice q x y)) {ar : Option Addr} {nr cr : Nat} {rest : List Ent} (hr : Es w0 ar nr cr rest) (hd : rest = Ent.dropEq e (nth L j)) :
    Cut w0 w g n c Be e a2 d2 ao m co lo L (j + 1) (wr.setCell ⟨g, j, none⟩ (.slice ar nr cr)) :=
  ⟨h.acc.setAt h.lr hp, by rw [← cutTo_succ e L (by rw [hL]; exact hj), ← hd]; exact h.lr.set hj hr, h.ent.setAt hne, h.bel.setCell (p := ⟨g, j, none⟩) hg _⟩
/-- Entries of the call's own are told; what lay below B is as it was. -/
def RetL (B : Nat) (l : List Ent) (w : World) (e : Ending) (w' : World) : Prop := ∃ a n c, e = .returned (.slice a n c) ∧ AccE w' B a n c l ∧ Below B w w'
set_option maxRecDepth 100000 in
set_option maxHeartbeats 16000000 in
theorem together_any (w0 : World) (a : Option Addr) (n c : Nat) (L0 : List (List Ent)) (w : World) (hB0 : Below w0.heap.size w0 w) (h : LR w0 w a n c L0) (hs : ∀ l ∈ L0, l.Pairwise Ent.lt) (hn : n ≤ 1000000) (hv : ∀ l ∈ L0, ∀ e ∈ l, e.val.length ≤ 1000000000) (ht : (Ent.mergeL L0).length ≤ 900000000) :
    Calls Try.prog 34 #[.slice a n c] w (RetL w0.heap.size (Ent.mergeL L0) w) := by
  have hc := h.cap
  have HC : Hid (c ≤ 9223372036854775807) := Lib.hid (by have := hc.2; simp only [maxLen] at this; omega)
  have HT := Lib.hid ht
  have H0 := Lib.hid h
  have HS := Lib.hid hs
  have HV := Lib.hid hv
  have HB0 := Lib.hid hB0
  clear hc ht h hs hv hB0
  go_enter Try.func34, Try.ntmps34
  go_wp2_with fail
  go_loopw [3] (fun o wr => ∃ (m co : Nat) (ao : Option Addr) (lo : List Ent) (L : List (List Ent)), o = .slice ao m co ∧ AccE wr w0.heap.size ao m co lo ∧ LR w0 wr a n c L ∧ Below w0.heap.size w wr ∧ Hid (lo ++ Ent.mergeL L = Ent.mergeL L0) ∧ Hid ((∀ l ∈ L, l.Pairwise Ent.lt) ∧ ∀ l ∈ L, ∀ e ∈ l, e.val.length ≤ 1000000000)) (fun o _ => (Ent.mergeL L0).length - slen o)
  case atStart => exact ⟨0, 0, none, [], L0, rfl, AccE.nil _ _, H0.out, Below.refl _ _, Lib.hid rfl, Lib.hid ⟨HS.out, HV.out⟩⟩
  case round =>
    clear H0 HS HV
    obtain ⟨wo, rfl⟩ : ∃ wo, wo = wr := ⟨_, rfl⟩
    obtain ⟨m, co, ao, lo, L, rfl, hac, hlr, hb, hto, hsv⟩ := hrel
    have HAC := Lib.hid hac
    have HLR := Lib.hid hlr
    have HB := Lib.hid hb
    have HLEN := Lib.hid hlr.len
    clear hac hlr hb
    go_wp2_with fail
    go_loopw [4, 12] (fun bv i wi => ∃ (j : Nat) (o : Option Nat), j ≤ n ∧ bv = .int .i64 (bestI o) ∧ i = .int .i64 j ∧ Below wo.heap.size wo wi ∧ Hid (BestAt L j o)) (fun _ i _ => n - (intOf i).toNat)
    case atStart => exact ⟨0, none, Nat.zero_le _, rfl, rfl, Below.refl _ _, Lib.hid (best_zero L)⟩
    case round =>
      obtain ⟨j, o, hj, rfl, rfl, hbi, hbest⟩ := hrel
      by_cases hlt : j < n
      · obtain ⟨g, ai, ni, ci, rfl, hci, hfi, hg0, hg1, hei⟩ := (HLR.out.below hbi).get hlt
        have hbw : Below w0.heap.size w0 wr := HB0.out.trans (HB.out.trans (hbi.mono (Nat.le_trans HB0.out.size HB.out.size)))
        have hes := hei.below hbw
        have hni := hes.le.1
        have HBI := Lib.hid hbi
        have HBW := Lib.hid hbw
        cases hL : nth L j with
        | nil =>
          have h0 : ni = 0 := by rw [← hes.1, hL]; rfl
          subst h0
          have HNB := Lib.hid (best_empty hbest.out hL)
          have t1 : decide ((0 : Nat) < 0) = false := rfl
          clear hes hL hbi hbw hei
          go_wp2_with fail
          refine wp_region_class (by kernel_rfl) (by kernel_rfl) (Below.refl _ _) ?_
          repeat (first | go_big_quiet_step (fail))
          refine wpQuiet_nil ?_
          intro w7 hb7; replace hb7 := BW.of hb7
          have HB7 := Lib.hid (HBI.out.trans (hb7.mono HBI.out.size))
          clear hb7
          go_wp2
          go_roundw
          case rel => exact ⟨j + 1, o, by omega, rfl, by go_num, HB7.out, HNB.out⟩
          case measure => simp [intOf]; omega
        | cons x r =>
          have hn0 : 0 < ni := by rw [← hes.1, hL]; simp
          have t1 : decide (0 < ni) = true := decide_eq_true hn0
          obtain ⟨b1, o1, a1, d1, rfl, he1, hv1⟩ := hes.vals hn0
          rw [hL] at he1 hv1
          have e0 : nth (x :: r) 0 = x := rfl
          rw [e0] at he1 hv1
          have p1 := he1.key
          have p2 := he1.seq
          have p3 := he1.gone
          have p4 := he1.val
          simp only [Nat.zero_mul, Nat.add_zero] at p1 p2 p3 p4
          have HL := Lib.hid hL
          clear he1 hv1 hes hL hbi hbw hei e0
          cases o with
          | none =>
            have HNB := Lib.hid (best_first hbest.out HL.out)
            have t2 : decide ((-1 : Int) < 0) = true := rfl
            simp only [bestI]
            go_wp2_with fail
            refine wp_region_class (by kernel_rfl) (by kernel_rfl) (Below.refl _ _) ?_
            repeat (first | go_big_quiet_step (fail))
            refine wpQuiet_nil ?_
            intro w7 hb7; replace hb7 := BW.of hb7
            have HB7 := Lib.hid (HBI.out.trans (hb7.mono HBI.out.size))
            clear hb7 p1 p2 p3 p4
            go_wp2
            go_roundw
            case rel => exact ⟨j + 1, some j, by omega, rfl, by go_num, HB7.out, HNB.out⟩
            case measure => simp [intOf]; omega
          | some b =>
            have t2 : decide ((b : Int) < 0) = false := decide_eq_false (by omega)
            simp only [bestI]
            obtain ⟨hbj, e, q, hLb, hl1, hl2⟩ := hbest.out
            obtain ⟨g', ab, nb, cb, eg, hcb, _, _, _, heb⟩ := (HLR.out.below HBI.out).get (i := b) (by omega)
            cases eg
            have heb' := heb.below HBW.out
            have hnb : 0 < nb := by rw [← heb'.1, hLb]; simp
            obtain ⟨b2, o2, a2, d2, rfl, he2, hv2⟩ := heb'.vals hnb
            rw [hLb] at he2 hv2
            have e0 : nth (e :: q) 0 = e := rfl
            rw [e0] at he2 hv2
            have q1 := he2.key
            have q2 := he2.seq
            have q3 := he2.gone
            have q4 := he2.val
            simp only [Nat.zero_mul, Nat.add_zero] at q1 q2 q3 q4
            have HC0 := Lib.hid (fun V : World => cmp_any x e a1 a2 d1 d2 V)
            have hbn : b < n := by omega
            by_cases hc : Ent.cmp x e = -1
            · have HNB := Lib.hid (best_less hbest.out HL.out (fun k hk => hsv.out.1 _ (nth_mem (by rw [HLEN.out]; omega))) (fun e' q' hq => by rw [hLb] at hq; cases hq; exact Ent.cmp_lt.1 hc))
              have t3 : decide (Ent.cmp x e < 0) = true := by rw [cmp_neg]; exact decide_eq_true hc
              clear hc hLb hl1 hl2 he2 hv2 heb heb' e0
              generalize Ent.cmp x e = cm at *
              go_wp2_with fail
              refine wp_region_class (by kernel_rfl) (by kernel_rfl) (Below.refl _ _) ?_
              have m1 := BW.cell p1
              have m2 := BW.cell p2
              have m3 := BW.cell p3
              have m4 := BW.cell p4
              have n1 := BW.cell q1
              have n2 := BW.cell q2
              have n3 := BW.cell q3
              have n4 := BW.cell q4
              have n5 := BW.cell hcb
              repeat (first | go_big_quiet_step ((go_at_call 44; exact calls_class (HC0.out _))))
              refine wpQuiet_nil ?_
              intro w7 hb7; replace hb7 := BW.of hb7
              have HB7 := Lib.hid (HBI.out.trans (hb7.mono HBI.out.size))
              clear hb7 p1 p2 p3 p4 q1 q2 q3 q4 hcb m1 m2 m3 m4 n1 n2 n3 n4 n5
              go_wp2
              go_roundw
              case rel => exact ⟨j + 1, some j, by omega, rfl, by go_num, HB7.out, HNB.out⟩
              case measure => simp [intOf]; omega
            · have HNB := Lib.hid (best_more hbest.out HL.out (hsv.out.1 _ (nth_mem (by rw [HLEN.out]; omega))) (fun e' q' hq => by rw [hLb] at hq; cases hq; exact fun k => hc (Ent.cmp_lt.2 k)))
              have t3 : decide (Ent.cmp x e < 0) = false := by rw [cmp_neg]; exact decide_eq_false hc
              clear hc hLb hl1 hl2 he2 hv2 heb heb' e0
              generalize Ent.cmp x e = cm at *
              go_wp2_with fail
              refine wp_region_class (by kernel_rfl) (by kernel_rfl) (Below.refl _ _) ?_
              have m1 := BW.cell p1
              have m2 := BW.cell p2
              have m3 := BW.cell p3
              have m4 := BW.cell p4
              have n1 := BW.cell q1
              have n2 := BW.cell q2
              have n3 := BW.cell q3
              have n4 := BW.cell q4
              have n5 := BW.cell hcb
              repeat (first | go_big_quiet_step ((go_at_call 44; exact calls_class (HC0.out _))))
              refine wpQuiet_nil ?_
              intro w7 hb7; replace hb7 := BW.of hb7
              have HB7 := Lib.hid (HBI.out.trans (hb7.mono HBI.out.size))
              clear hb7 p1 p2 p3 p4 q1 q2 q3 q4 hcb m1 m2 m3 m4 n1 n2 n3 n4 n5
              go_wp2
              go_roundw
              case rel => exact ⟨j + 1, some b, by omega, rfl, by go_num, HB7.out, HNB.out⟩
              case measure => simp [intOf]; omega
      · obtain rfl : n = j := by omega
        have HBI := Lib.hid hbi
        have HBW := Lib.hid (HB0.out.trans (HB.out.trans (hbi.mono (Nat.le_trans HB0.out.size HB.out.size))))
        have hbest' := hbest.out
        rw [← HLEN.out] at hbest'
        cases o with
        | none =>
          have hm0 := best_none hbest'
          have HP : Hid (RetL w0.heap.size (Ent.mergeL L0) w (.returned (.slice ao m co)) wr) := Lib.hid ⟨ao, m, co, rfl, by
            have := hto.out
            rw [hm0, List.append_nil] at this
            rw [← this]
            exact HAC.out.below hbi, HB.out.trans (hbi.mono (Nat.le_trans HB0.out.size HB.out.size))⟩
          clear hm0 hbest' hbi
          simp only [bestI]
          go_wp2
          go_ret
          exact HP.out
        | some b =>
          have hbest2 := hbest'
          obtain ⟨hbj, e, q, hLb, _, _⟩ := hbest2
          have HBM := Lib.hid (best_merge hbest' hsv.out.1 hLb)
          rw [HLEN.out] at hbj
          obtain ⟨g, ab, nb, cb, rfl, hcb, _, hg0, hg1, heb⟩ := HLR.out.get hbj
          have hcb2 := cell_later hbi hcb
          have heb' := heb.below HBW.out
          have hnb : 0 < nb := by rw [← heb'.1, hLb]; simp
          obtain ⟨b2, o2, a2, d2, rfl, he2, hv2⟩ := heb'.vals hnb
          rw [hLb] at he2 hv2
          have e0 : nth (e :: q) 0 = e := rfl
          rw [e0] at he2 hv2
          have q1 := he2.key
          have q2 := he2.seq
          have q3 := he2.gone
          have q4 := he2.val
          simp only [Nat.zero_mul, Nat.add_zero] at q1 q2 q3 q4
          have hel : e.val.length ≤ 1000000000 := hsv.out.2 _ (nth_mem (by rw [HLEN.out]; exact hbj)) e (by rw [hLb]; simp)
          have hml : m < (Ent.mergeL L0).length := by
            rw [← hto.out, HBM.out, List.length_append, HAC.out.len]; simp
          have HML := Lib.hid hml
          have HV2 := Lib.hid hv2
          have HLB := Lib.hid hLb
          have hbx := load_box wr e a2 d2
          have hA := below_alloc1 wr (.cells #[.string (bstr e.key), .int .u64 e.seq, .bool e.gone, .slice a2 e.val.length d2] 57)
          have HBX := Lib.hid hbx
          have HA := Lib.hid hA
          have HG := Lib.hid (And.intro hg0 hg1)
          clear he2 hv2 heb' heb hLb e0 hbest' hbi hcb hbx hA hg0 hg1
          simp only [bestI]
          go_wp2_with fail
          obtain ⟨W1, hW1⟩ : ∃ W1, wr.alloc (.cells #[.string (bstr e.key), .int .u64 e.seq, .bool e.gone, .slice a2 e.val.length d2] 57) = W1 := ⟨_, rfl⟩
          rw [hW1] at HBX HA ⊢
          have hz1 : wr.heap.size < W1.heap.size := by rw [← hW1]; simp
          have hz2 : wo.heap.size ≤ wr.heap.size := HBI.out.size
          have hz3 : w0.heap.size ≤ wo.heap.size := Nat.le_trans HB0.out.size HB.out.size
          clear hW1 q1 q2 q3 q4
          refine (apart_any e a2 d2 W1 (HV2.out.below HA.out) hel).mono ?_
          rintro en w3 ⟨a3, c3, rfl, ho3, hb3⟩
          simp only [ev]
          have HO3 := Lib.hid ho3
          have HB3 := Lib.hid hb3
          have HW3 := Lib.hid (HBI.out.trans ((HA.out.trans (hb3.mono HA.out.size)).mono HBI.out.size))
          have hz4 : W1.heap.size ≤ w3.heap.size := hb3.size
          have hkl : m ≤ 900000000 := by have := HML.out; have := HT.out; omega
          clear ho3 hb3
          go_wp2_with (at_builtin; refine app_ent rfl _ _ rfl w0.heap.size rfl ((HAC.out.below HW3.out).below (below_alloc1 w3 _)) rfl (load_box w3 _ _ _) (HO3.out.bs.below (below_alloc1 w3 _)) (fun _ x y hx hy e => by have h1 := (HO3.out.new x hx).1; have h2 := (HAC.out.new y hy).2; omega) (by omega) (le_alloc (by omega)) ?_; intro a4 c4 w4 h4 hb4 hev4; have H4 := Lib.hid h4; have HB4 := Lib.hid hb4; have HEV4 := Lib.hid hev4; clear h4 hb4 hev4)
          have hA3 := (HAC.out.below HW3.out).below (below_alloc1 w3 (.cells #[.string (bstr e.key), .int .u64 e.seq, .bool e.gone, .slice a3 e.val.length c3] 57))
          have hCut : Cut w0 w g n c wr.heap.size e a2 d2 a4 (m + 1) c4 (lo ++ [e]) L 0 w4 := by
            refine ⟨H4.out, by rw [cutTo_zero]; exact ((HLR.out.below HW3.out).below (below_alloc1 w3 _)).evol hA3 HEV4.out, ((HBX.out.below HB3.out).below (below_alloc1 w3 _)).evol HEV4.out ?_, HB.out.trans (((HW3.out.mono hz3).trans ((below_alloc1 w3 _).mono (by omega))).trans HB4.out)⟩
            intro k
            cases ao with
            | none => cases k
            | some x =>
              have h1 := (HAC.out.new x rfl).2
              have h2 : wr.heap.size = x.block := by simpa using k
              omega
          have HCUT := Lib.hid hCut
          have hge : wr.heap.size ≠ g := by have := HG.out.2; omega
          have hge' : w0.heap.size ≤ g := HG.out.1
          have hww : w0.heap.size ≤ w.heap.size := HB0.out.size
          clear hA3 hCut HB4 H4 HEV4 HO3 HW3 HB3 HBX HA HV2 HAC HLR hz1 hz2 hz3 hz4 hkl hel hml
          obtain ⟨Be, hBe⟩ : ∃ Be, Be = wr.heap.size := ⟨_, rfl⟩
          rw [← hBe] at HCUT hge ⊢
          clear hBe
          go_loopw [55] (fun i wi => ∃ k : Nat, k ≤ n ∧ i = .int .i64 k ∧ Cut w0 w g n c Be e a2 d2 a4 (m + 1) c4 (lo ++ [e]) L k wi) (fun i _ => n - (intOf i).toNat)
          case atStart => exact ⟨0, Nat.zero_le _, rfl, HCUT.out⟩
          case round =>
            clear HCUT
            obtain ⟨wc, rfl⟩ : ∃ wc, wc = wr := ⟨_, rfl⟩
            obtain ⟨k, hk, rfl, hcut⟩ := hrel
            by_cases hlt : k < n
            · obtain ⟨g', ai, ni, ci, eg, hci, hfi, _, _, hei⟩ := hcut.lr.get hlt
              cases eg
              rw [cutTo_at e L (by rw [HLEN.out]; exact hlt)] at hei
              have HCUT := Lib.hid hcut
              have HEI := Lib.hid hei
              clear hcut hei
              go_wp2_with fail
              go_loopw [9] (fun v wi => ∃ (rest : List Ent) (ar : Option Addr) (nr cr : Nat), v = .slice ar nr cr ∧ Es w0 ar nr cr rest ∧ Below wc.heap.size wc wi ∧ Hid (Ent.dropEq e rest = Ent.dropEq e (nth L k))) (fun v _ => slen v)
              case atStart => exact ⟨nth L k, ai, ni, ci, rfl, HEI.out, Below.refl _ _, Lib.hid rfl⟩
              case round =>
                obtain ⟨rest, ar, nr, cr, rfl, her, hbr, hdr⟩ := hrel
                have hcr := HCUT.out.below hbr hww
                have hes := her.below (HB0.out.trans hcr.bel)
                have hnr := hes.le
                have HBR := Lib.hid hbr
                have k1 := hcr.ent.key
                have k2 := hcr.ent.seq
                have k3 := hcr.ent.gone
                have k4 := hcr.ent.val
                have HER := Lib.hid her
                cases rest with
                | nil =>
                  have h0 : nr = 0 := by rw [← hes.1]; rfl
                  subst h0
                  have t1 : decide ((0 : Nat) < 0) = false := rfl
                  have hci' := cell_later hbr hci
                  have HDR := Lib.hid hdr.out
                  clear hes hbr her hcr hnr
                  go_wp2_with fail
                  refine wp_region_class (by kernel_rfl) (by kernel_rfl) (Below.refl _ _) ?_
                  repeat (first | go_big_quiet_step (fail))
                  refine wpQuiet_nil ?_
                  intro w7 hb7; replace hb7 := BW.of hb7
                  have hbc7 := HBR.out.trans (hb7.mono HBR.out.size)
                  have hc7 := HCUT.out.below hbc7 hww
                  obtain ⟨g7, a7, n7, c7, e7, hci7, hfi7, _, _, _⟩ := hc7.lr.get hlt
                  cases e7
                  have HNX := Lib.hid (hc7.next hlt HLEN.out hge' hge hci7 HER.out (by rw [← HDR.out]; rfl))
                  clear hc7 hbc7 hb7 hci' k1 k2 k3 k4
                  go_wp2
                  go_roundw
                  case rel => exact ⟨k + 1, by omega, by go_num, HNX.out⟩
                  case measure => simp [intOf]; omega
                | cons x r =>
                  have hn0 : 0 < nr := by rw [← hes.1]; simp
                  have t1 : decide (0 < nr) = true := decide_eq_true hn0
                  obtain ⟨b1, o1, a1, d1, rfl, he1, hv1⟩ := hes.vals hn0
                  have e0 : nth (x :: r) 0 = x := rfl
                  rw [e0] at he1 hv1
                  have p1 := he1.key
                  have p2 := he1.seq
                  have p3 := he1.gone
                  have p4 := he1.val
                  simp only [Nat.zero_mul, Nat.add_zero] at p1 p2 p3 p4
                  have HC0 := Lib.hid (fun V : World => cmp_any x e a1 a2 d1 d2 V)
                  have HDR := Lib.hid hdr.out
                  clear he1 hv1 hes hbr her hcr e0
                  by_cases hc : Ent.cmp x e = 0
                  · have t3 : ((Ent.cmp x e : Int) == 0) = true := by rw [hc]; rfl
                    have HD2 : Hid (Ent.dropEq e r = Ent.dropEq e (nth L k)) := Lib.hid (by rw [← HDR.out, Ent.dropEq_cons, if_pos (Ent.cmp_eq.1 hc)])
                    obtain ⟨i0, hi0, _, hz1, _⟩ := info_parts infoE
                    have hs := fun W => run_slice_l (P := Try.prog) Try.underlying33 hi0 hz1 (some ⟨b1, o1, none⟩) nr cr (lo := 1) (lo' := 1) rfl hn0 W
                    have HT1 := Lib.hid (HER.out.tail hn0)
                    clear hc hi0 hz1
                    generalize Ent.cmp x e = cm at *
                    go_wp2_with fail
                    refine wp_region_class (by kernel_rfl) (by kernel_rfl) (Below.refl _ _) ?_
                    have m1 := BW.cell p1
                    have m2 := BW.cell p2
                    have m3 := BW.cell p3
                    have m4 := BW.cell p4
                    have n1 := BW.cell k1
                    have n2 := BW.cell k2
                    have n3 := BW.cell k3
                    have n4 := BW.cell k4
                    repeat (first | go_big_quiet_step ((go_at_call 44; exact calls_class (HC0.out _))))
                    refine wpQuiet_nil ?_
                    intro w7 hb7; replace hb7 := BW.of hb7
                    have HB7 := Lib.hid (HBR.out.trans (hb7.mono HBR.out.size))
                    clear hb7 p1 p2 p3 p4 k1 k2 k3 k4 m1 m2 m3 m4 n1 n2 n3 n4
                    go_wp2
                    go_roundw
                    case rel => exact ⟨r, _, _, _, rfl, HT1.out, HB7.out, HD2⟩
                    case measure => simp only [slen_slice]; omega
                  · have t3 : ((Ent.cmp x e : Int) == 0) = false := by simpa using hc
                    have HD2 : Hid (x :: r = Ent.dropEq e (nth L k)) := Lib.hid (by rw [← HDR.out, Ent.dropEq_cons, if_neg (fun h => hc (Ent.cmp_eq.2 h))])
                    clear hc
                    generalize Ent.cmp x e = cm at *
                    go_wp2_with fail
                    refine wp_region_class (by kernel_rfl) (by kernel_rfl) (Below.refl _ _) ?_
                    have m1 := BW.cell p1
                    have m2 := BW.cell p2
                    have m3 := BW.cell p3
                    have m4 := BW.cell p4
                    have n1 := BW.cell k1
                    have n2 := BW.cell k2
                    have n3 := BW.cell k3
                    have n4 := BW.cell k4
                    repeat (first | go_big_quiet_step ((go_at_call 44; exact calls_class (HC0.out _))))
                    refine wpQuiet_nil ?_
                    intro w7 hb7; replace hb7 := BW.of hb7
                    have hbc7 := HBR.out.trans (hb7.mono HBR.out.size)
                    have hc7 := HCUT.out.below hbc7 hww
                    obtain ⟨g7, a7, n7, c7, e7, hci7, hfi7, _, _, _⟩ := hc7.lr.get hlt
                    cases e7
                    have HNX := Lib.hid (hc7.next hlt HLEN.out hge' hge hci7 HER.out HD2.out)
                    clear hc7 hbc7 hb7 p1 p2 p3 p4 k1 k2 k3 k4 m1 m2 m3 m4 n1 n2 n3 n4
                    go_wp2
                    go_roundw
                    case rel => exact ⟨k + 1, by omega, by go_num, HNX.out⟩
                    case measure => simp [intOf]; omega
            · obtain rfl : n = k := by omega
              have hcl : cutTo e L n = L.map (Ent.dropEq e) := by rw [← HLEN.out, cutTo_all]
              have HTO : Hid ((lo ++ [e]) ++ Ent.mergeL (L.map (Ent.dropEq e)) = Ent.mergeL L0) := Lib.hid (by rw [← hto.out, HBM.out]; simp)
              have HSV : Hid ((∀ l ∈ L.map (Ent.dropEq e), l.Pairwise Ent.lt) ∧ ∀ l ∈ L.map (Ent.dropEq e), ∀ e ∈ l, e.val.length ≤ 1000000000) := Lib.hid ⟨fun l hl => by
                obtain ⟨l', hl', rfl⟩ := List.mem_map.1 hl
                exact Ent.dropEq_sorted (hsv.out.1 _ hl'), fun l hl e' he' => by
                obtain ⟨l', hl', rfl⟩ := List.mem_map.1 hl
                exact hsv.out.2 _ hl' e' ((List.dropWhile_sublist _).subset he')⟩
              have HA5 := Lib.hid hcut.acc
              have HL5 : Hid (LR w0 wc (some ⟨g, 0, none⟩) n c (L.map (Ent.dropEq e))) := Lib.hid (by rw [← hcl]; exact hcut.lr)
              have HB5 := Lib.hid hcut.bel
              clear hcut hcl
              go_wp2
              go_roundw
              case rel => exact ⟨m + 1, c4, a4, lo ++ [e], L.map (Ent.dropEq e), rfl, HA5.out, HL5.out, HB5.out, HTO, HSV⟩
              case measure =>
                simp only [slen_slice]
                have := HML.out
                omega
end Go.Proofs.Ytlipgaefflecaaa
end

section
set_option maxRecDepth 100000
set_option linter.unusedSimpArgs false
namespace Go.Proofs.Ytlipgaefflecaaa
open Go.RowKit
set_option linter.unusedVariables false

def knownL : List Ent := [⟨[97], 5, false, [120]⟩, ⟨[97], 3, false, [121]⟩, ⟨[97], 1, false, [122]⟩, ⟨[98], 2, true, []⟩]
theorem known1 : Ent.rightB knownL = true := by decide +kernel
theorem known2 : Ent.seen knownL 4 = [⟨[97], 3, false, [121]⟩] := by decide +kernel
theorem known3 : (Ent.prune knownL 3 false).length = 3 := by decide +kernel
theorem known4 : (Ent.prune knownL 3 true).length = 2 := by decide +kernel
theorem byte_lit (w : World) (z : Int) (b : UInt8) (h : z = n8 b) : Bs (w.alloc (.cells #[.int .u8 z] 5 (1, 2))) (some ⟨w.heap.size, 0, none⟩) 1 1 [b] := by subst h; exact Bs.litAt [b] (1, 2) rfl (by simp [maxLen])
theorem conv_lit (W : World) (z : Int) {k : Nat} (hk : k = W.heap.size) : (convert 55 55 (.slice (some ⟨k, 0, none⟩) 1 1)).run Try.prog (W.alloc (.cells #[.int .u8 z] 5)) = .ok (.slice (some ⟨k, 0, none⟩) 1 1) (W.alloc (.cells #[.int .u8 z] 5 (1, 2))) := by
  subst hk
  exact Lib.run_convert_bytes_const (P := Try.prog) W 55 5 #[.int .u8 z] 1 1 Try.underlying55 Try.underlying5
def knownW (w : World) : World := (((w.alloc (.cells #[.int .u8 120] 5 (1, 2))).alloc (.cells #[.int .u8 121] 5 (1, 2))).alloc (.cells #[.int .u8 122] 5 (1, 2))).alloc (.cells #[.string ⟨#[97]⟩, .int .u64 5, .bool false, .slice (some ⟨w.heap.size, 0, none⟩) 1 1, .string ⟨#[97]⟩, .int .u64 3, .bool false, .slice (some ⟨w.heap.size + 1, 0, none⟩) 1 1,
  .string ⟨#[97]⟩, .int .u64 1, .bool false, .slice (some ⟨w.heap.size + 2, 0, none⟩) 1 1, .string ⟨#[98]⟩, .int .u64 2, .bool true, .slice none 0 0] 57)
theorem knownW_below (w : World) : Below w.heap.size w (knownW w) := ((((Below.refl _ w).alloc (Nat.le_refl _) _).alloc (by simp) _).alloc (by simp; omega) _).alloc (by simp; omega) _
theorem known_es (w : World) : Es (knownW w) (some ⟨w.heap.size + 3, 0, none⟩) 4 4 knownL := by
  obtain ⟨w1, h1⟩ : ∃ w1, w.alloc (.cells #[.int .u8 120] 5 (1, 2)) = w1 := ⟨_, rfl⟩
  obtain ⟨w2, h2⟩ : ∃ w2, w1.alloc (.cells #[.int .u8 121] 5 (1, 2)) = w2 := ⟨_, rfl⟩
  obtain ⟨w3, h3⟩ : ∃ w3, w2.alloc (.cells #[.int .u8 122] 5 (1, 2)) = w3 := ⟨_, rfl⟩
  have s1 : w1.heap.size = w.heap.size + 1 := by rw [← h1]; simp
  have s2 : w2.heap.size = w.heap.size + 2 := by rw [← h2]; simp [s1]
  have s3 : w3.heap.size = w.heap.size + 3 := by rw [← h3]; simp [s2]
  have b1 : Bs w1 (some ⟨w.heap.size, 0, none⟩) 1 1 [120] := by rw [← h1]; exact byte_lit w 120 120 rfl
  have b2 : Bs w2 (some ⟨w.heap.size + 1, 0, none⟩) 1 1 [121] := by rw [← h2, ← s1]; exact byte_lit w1 121 121 rfl
  have b3 : Bs w3 (some ⟨w.heap.size + 2, 0, none⟩) 1 1 [122] := by rw [← h3, ← s2]; exact byte_lit w2 122 122 rfl
  have e12 : Below w1.heap.size w1 w2 := by rw [← h2]; exact below_alloc1 _ _
  have e23 : Below w2.heap.size w2 w3 := by rw [← h3]; exact below_alloc1 _ _
  unfold knownW
  rw [h1, h2, h3, ← s3]
  have hn := heap_alloc_new w3 (.cells #[.string ⟨#[97]⟩, .int .u64 5, .bool false, .slice (some ⟨w.heap.size, 0, none⟩) 1 1, .string ⟨#[97]⟩, .int .u64 3, .bool false, .slice (some ⟨w.heap.size + 1, 0, none⟩) 1 1,
    .string ⟨#[97]⟩, .int .u64 1, .bool false, .slice (some ⟨w.heap.size + 2, 0, none⟩) 1 1, .string ⟨#[98]⟩, .int .u64 2, .bool true, .slice none 0 0] 57)
  have e3 := below_alloc1 w3 (.cells #[.string ⟨#[97]⟩, .int .u64 5, .bool false, .slice (some ⟨w.heap.size, 0, none⟩) 1 1, .string ⟨#[97]⟩, .int .u64 3, .bool false, .slice (some ⟨w.heap.size + 1, 0, none⟩) 1 1,
    .string ⟨#[97]⟩, .int .u64 1, .bool false, .slice (some ⟨w.heap.size + 2, 0, none⟩) 1 1, .string ⟨#[98]⟩, .int .u64 2, .bool true, .slice none 0 0] 57)
  refine ⟨rfl, Nat.le_refl _, by simp [maxLen], fun i hi => ?_⟩
  have hc := fun j => cell_of_row _ _ j _ _ _ hn
  match i, hi with
  | 0, _ => exact ⟨w3.heap.size, 0, _, _, rfl, ⟨hc 0, hc 1, hc 2, hc 3⟩, ((b1.below e12).below e23).below e3⟩
  | 1, _ => exact ⟨w3.heap.size, 0, _, _, rfl, ⟨hc 4, hc 5, hc 6, hc 7⟩, (b2.below e23).below e3⟩
  | 2, _ => exact ⟨w3.heap.size, 0, _, _, rfl, ⟨hc 8, hc 9, hc 10, hc 11⟩, b3.below e3⟩
  | 3, _ => exact ⟨w3.heap.size, 0, _, _, rfl, ⟨hc 12, hc 13, hc 14, hc 15⟩, Bs.nil _⟩
  | i + 4, hi => omega
end Go.Proofs.Ytlipgaefflecaaa
end

section
set_option maxRecDepth 100000
set_option linter.unusedSimpArgs false
namespace Go.Proofs.Ytlipgaefflecaaa
open Go.RowKit
set_option linter.unusedVariables false

theorem tot_mem {l : List Ent} {e : Ent} (h : e ∈ l) : e.key.length + e.val.length ≤ Ent.tot l := by
  induction l with
  | nil => cases h
  | cons x l ih =>
    unfold Ent.tot at *
    simp only [List.map_cons, List.sum_cons]
    rcases List.mem_cons.1 h with h | h
    · subst h; omega
    · have := ih h; omega
theorem few_yes {l : List Ent} {n most : Nat} (h : decide (n ≤ most ∧ Ent.tot l ≤ 131072) = true) : n ≤ most ∧ ∀ e ∈ l, e.val.length ≤ 1000000000 := by
  have h1 := of_decide_eq_true h
  exact ⟨h1.1, fun e he => by have := tot_mem he; omega⟩
theorem srows_same (a a' : Option Addr) (n c n' c' : Nat) (l : List Ent) (w : World) (h : Es w a n c l) (h' : Es w a' n' c' l) :
    Calls Try.prog 12 #[.slice a n c, .slice a' n' c'] w fun e w' => e = .returned (.bool true) ∧ Below w.heap.size w w' :=
  (srows_any a a' n c n' c' l l w h h').mono fun e w' ⟨h1, h2⟩ => ⟨by rw [h1]; simp, h2⟩
def Ent.erE (l : List Ent) : Int := if Ent.rightB l = true then 0 else 15
def Ent.seenE (l : List Ent) (up : Nat) : List Ent := if Ent.rightB l = true then Ent.seen l up else []
def Ent.pruneE (l : List Ent) (keep : Nat) (bottom : Bool) : List Ent := if Ent.rightB l = true then Ent.prune l keep bottom else []
theorem prune_e (a : Option Addr) (n c : Nat) (es : List Ent) (keep : Nat) (bottom : Bool) (w : World) (h : Es w a n c es) (hn : n ≤ 30000) (hv : ∀ e ∈ es, e.val.length ≤ 1000000000) :
    Calls Try.prog 23 #[.slice a n c, .int .u64 keep, .bool bottom] w (RetEs (Ent.pruneE es keep bottom) (Ent.erE es) w) := prune_any a n c es keep bottom w h hn hv
theorem refseen_e (a : Option Addr) (n c : Nat) (es : List Ent) (up : Nat) (w : World) (h : Es w a n c es) (hn : n ≤ 1000000) :
    Calls Try.prog 18 #[.slice a n c, .int .u64 up] w (RetEs (Ent.seenE es up) (Ent.erE es) w) := refseen_any a n c es up w h hn
theorem nums_same (k : Int) : (k != k) = false ∧ (k == k) = true := ⟨by simp, by simp⟩
theorem two_es (w : World) (x y : Ent) (ax ay : Option Addr) (cx cy : Nat) (hx : Bs w ax x.val.length cx x.val) (hy : Bs w ay y.val.length cy y.val) :
    Es (w.alloc (.cells #[.string (bstr x.key), .int .u64 x.seq, .bool x.gone, .slice ax x.val.length cx, .string (bstr y.key), .int .u64 y.seq, .bool y.gone, .slice ay y.val.length cy] 57)) (some ⟨w.heap.size, 0, none⟩) 2 2 [x, y] := by
  have hn := heap_alloc_new w (.cells #[.string (bstr x.key), .int .u64 x.seq, .bool x.gone, .slice ax x.val.length cx, .string (bstr y.key), .int .u64 y.seq, .bool y.gone, .slice ay y.val.length cy] 57)
  have e3 := below_alloc1 w (.cells #[.string (bstr x.key), .int .u64 x.seq, .bool x.gone, .slice ax x.val.length cx, .string (bstr y.key), .int .u64 y.seq, .bool y.gone, .slice ay y.val.length cy] 57)
  refine ⟨rfl, Nat.le_refl _, by simp [maxLen], fun i hi => ?_⟩
  have hc := fun j => cell_of_row _ _ j _ _ _ hn
  match i, hi with
  | 0, _ => exact ⟨w.heap.size, 0, _, _, rfl, ⟨hc 0, hc 1, hc 2, hc 3⟩, hx.below e3⟩
  | 1, _ => exact ⟨w.heap.size, 0, _, _, rfl, ⟨hc 4, hc 5, hc 6, hc 7⟩, hy.below e3⟩
  | i + 2, hi => omega
end Go.Proofs.Ytlipgaefflecaaa
end

section
set_option maxRecDepth 100000
set_option linter.unusedSimpArgs false
namespace Go.Proofs.Ytlipgaefflecaaa
open Go.RowKit
set_option linter.unusedVariables false

def Ent.sumL (ls : List (List Ent)) : Nat := (ls.map List.length).sum
theorem foldl_len : ∀ (ls : List (List Ent)) (acc : List Ent), (ls.foldl Ent.two acc).length ≤ acc.length + Ent.sumL ls
  | [], acc => by simp [Ent.sumL]
  | l :: ls, acc => by
    have h1 := foldl_len ls (Ent.two acc l)
    have h2 := Ent.two_len _ acc l (Nat.le_refl _)
    unfold Ent.sumL at *
    simp only [List.foldl_cons, List.map_cons, List.sum_cons]
    omega
theorem merge_len (ls : List (List Ent)) : (Ent.mergeL ls).length ≤ Ent.sumL ls := by
  have := foldl_len ls []
  simpa [Ent.mergeL] using this
def Ent.allR (ls : List (List Ent)) : Bool := ls.all Ent.rightB
def Ent.mergeE (ls : List (List Ent)) : List Ent := if Ent.allR ls = true then Ent.mergeL ls else []
def Ent.mergeX (ls : List (List Ent)) : Int := if Ent.allR ls = true then 0 else 15
theorem allR_at {ls : List (List Ent)} (h : ∀ j, j < ls.length → Ent.rightB (nth ls j) = true) : Ent.allR ls = true := by
  unfold Ent.allR
  rw [List.all_eq_true]
  intro l hl
  obtain ⟨j, hj, rfl⟩ := List.getElem_of_mem hl
  rw [← nth_eq _ hj]; exact h j hj
theorem allR_no {ls : List (List Ent)} {j : Nat} (hj : j < ls.length) (h : Ent.rightB (nth ls j) = false) : Ent.mergeE ls = [] ∧ Ent.mergeX ls = 15 := by
  have : Ent.allR ls = false := by
    cases e : Ent.allR ls with
    | false => rfl
    | true =>
      have := List.all_eq_true.1 e _ (nth_mem hj)
      rw [h] at this; cases this
  unfold Ent.mergeE Ent.mergeX
  rw [this]
  exact ⟨rfl, rfl⟩
theorem allR_yes {ls : List (List Ent)} (h : Ent.allR ls = true) : Ent.mergeE ls = Ent.mergeL ls ∧ Ent.mergeX ls = 0 := by
  unfold Ent.mergeE Ent.mergeX
  rw [h]
  exact ⟨rfl, rfl⟩
theorem allR_mem {ls : List (List Ent)} (h : Ent.allR ls = true) : ∀ l ∈ ls, Ent.rightB l = true := List.all_eq_true.1 h
set_option maxHeartbeats 4000000 in
theorem merge_any (a : Option Addr) (n c : Nat) (ls : List (List Ent)) (w : World) (h : Ess w a n c ls) (hn : n ≤ 1000000) (hv : ∀ l ∈ ls, ∀ e ∈ l, e.val.length ≤ 1000000000) (hs : Ent.sumL ls ≤ 900000000) :
    Calls Try.prog 22 #[.slice a n c] w (RetEs (Ent.mergeE ls) (Ent.mergeX ls) w) := by
  have hle := h.le.1
  have HN := Lib.hid h.1
  have HE := Lib.hid h
  have HV := Lib.hid hv
  have HS := Lib.hid hs
  clear h hv hs
  go_enter Try.func22, Try.ntmps22
  go_wp2_with fail
  go_loopw [8] (fun i wr => ∃ j : Nat, j ≤ n ∧ i = .int .i64 j ∧ Below w.heap.size w wr ∧ Hid (∀ k, k < j → Ent.rightB (nth ls k) = true)) (fun i _ => n - (intOf i).toNat)
  case atStart => exact ⟨0, Nat.zero_le _, rfl, Below.refl _ _, Lib.hid (fun k hk => by omega)⟩
  case round =>
    obtain ⟨j, hj, rfl, hb, hall⟩ := hrel
    by_cases hlt : j < n
    · obtain ⟨b, off, ai, ni, ci, rfl, hc, hes⟩ := (HE.out.below hb).get hlt
      have HES := Lib.hid hes
      have HB := Lib.hid hb
      clear hes hb
      go_wp2_with fail
      refine (mright_any _ _ _ (nth ls j) _ HES.out).mono ?_
      rintro e w1 ⟨rfl, hb1⟩
      have HB1 := Lib.hid (HB.out.trans (hb1.mono HB.out.size))
      clear hb1
      cases hR : Ent.rightB (nth ls j) with
      | false =>
        have hno := allR_no (by rw [HN.out]; exact hlt) hR
        have HP : Hid (RetEs (Ent.mergeE ls) (Ent.mergeX ls) w (.returned (.tuple #[.slice none 0 0, .int .i64 15])) w1) := Lib.hid (by rw [hno.1, hno.2]; exact ret_es_nil HB1.out)
        clear hno hR
        go_wp2
        go_ret2
        exact HP.out
      | true =>
        have HA : Hid (∀ k, k < j + 1 → Ent.rightB (nth ls k) = true) := Lib.hid (fun k hk => by
          by_cases e : k = j
          · rw [e]; exact hR
          · exact hall.out k (by omega))
        clear hR
        go_wp2
        go_roundw
        case rel => exact ⟨j + 1, by omega, by go_num, HB1.out, HA⟩
        case measure => simp [intOf]; omega
    · obtain rfl : n = j := by omega
      have hR := allR_at (ls := ls) (fun k hk => hall.out k (by rw [HN.out] at hk; exact hk))
      have HY := Lib.hid (allR_yes hR)
      have HM := Lib.hid (fun l hl => right_pairwise (allR_mem hR l hl))
      have HB := Lib.hid hb
      clear hb hR
      go_wp2_with fail
      refine (clonels_any a n c ls wr (HE.out.below HB.out) hn).mono ?_
      rintro e w1 ⟨a1, c1, rfl, hlr, hb1⟩
      have HLR := Lib.hid hlr
      have HB1 := Lib.hid hb1
      clear hlr hb1
      go_wp2_with fail
      refine (together_any wr a1 n c1 ls w1 HB1.out HLR.out HM.out hn HV.out (Nat.le_trans (merge_len ls) HS.out)).mono ?_
      rintro e w2 ⟨a2, n2, c2, rfl, ha2, hb2⟩
      have HP : Hid (RetEs (Ent.mergeE ls) (Ent.mergeX ls) w (.returned (.tuple #[.slice a2 n2 c2, .int .i64 0])) w2) := Lib.hid (by
        rw [HY.out.1, HY.out.2]
        exact ⟨_, _, _, rfl, ha2.mono HB.out.size, HB.out.trans ((HB1.out.trans hb2).mono HB.out.size)⟩)
      clear ha2 hb2
      go_wp2
      go_ret2
      exact HP.out
/-- How the first entries of two rests compare. -/
theorem two_left {x : Ent} {la lb : List Ent} (lb0 : lb = []) : Ent.two (x :: la) lb = x :: Ent.two la lb := by subst lb0; rw [Ent.two_nil_right, Ent.two_nil_right]
theorem two_right {y : Ent} {lb : List Ent} : Ent.two [] (y :: lb) = y :: Ent.two [] lb := by rw [Ent.two_nil, Ent.two_nil]
set_option maxHeartbeats 16000000 in
theorem reftwo_any (a b : Option Addr) (n c n' c' : Nat) (la lb : List Ent) (w : World) (ha : Es w a n c la) (hb : Es w b n' c' lb) (hn : n + n' ≤ 900000000) :
    Calls Try.prog 29 #[.slice a n c, .slice b n' c'] w fun e w' => ∃ a' m co, e = .returned (.slice a' m co) ∧ AccE w' w.heap.size a' m co (Ent.two la lb) ∧ Below w.heap.size w w' := by
  have hle := ha.le.1
  have hle' := hb.le.1
  have HN := Lib.hid ha.1
  have HN' := Lib.hid hb.1
  have HA := Lib.hid ha
  have HB := Lib.hid hb
  clear ha hb
  go_enter Try.func29, Try.ntmps29
  go_wp2_with fail
  go_loopw [5, 6, 7] (fun o iv kv wr => ∃ (i k m co : Nat) (ao : Option Addr) (lo : List Ent), i ≤ n ∧ k ≤ n' ∧ m ≤ i + k ∧ o = .slice ao m co ∧ iv = .int .i64 i ∧ kv = .int .i64 k ∧ AccE wr w.heap.size ao m co lo ∧ Below w.heap.size w wr ∧ Hid (lo ++ Ent.two (la.drop i) (lb.drop k) = Ent.two la lb)) (fun _ iv kv _ => n + n' - ((intOf iv).toNat + (intOf kv).toNat))
  case atStart => exact ⟨0, 0, 0, 0, none, [], Nat.zero_le _, Nat.zero_le _, Nat.le_refl _, rfl, rfl, rfl, AccE.nil _ _, Below.refl _ _, Lib.hid rfl⟩
  case round =>
    obtain ⟨i, k, m, co, ao, lo, hi, hk, hm, rfl, rfl, rfl, hac, hbl, hto⟩ := hrel
    have HAC := Lib.hid hac
    have HBL := Lib.hid hbl
    have HNEW := Lib.hid hac.new
    by_cases hin : i < n
    · obtain ⟨b1, o1, a1, d1, rfl, he1, hv1⟩ := HA.out.vals hin
      have HO1 : Hid (0 < (nth la i).val.length → ∀ y, a1 = some y → y.block < w.heap.size) := Lib.hid (fun h => hv1.old h)
      have HV1 := Lib.hid (hv1.below hbl)
      have he1' := he1.below hbl
      have hd1 := drop_nth (es := la) (k := i) (by rw [HN.out]; exact hin)
      by_cases hkn : k < n'
      · obtain ⟨b2, o2, a2, d2, rfl, he2, hv2⟩ := HB.out.vals hkn
        have HO2 : Hid (0 < (nth lb k).val.length → ∀ y, a2 = some y → y.block < w.heap.size) := Lib.hid (fun h => hv2.old h)
        have HV2 := Lib.hid (hv2.below hbl)
        have he2' := he2.below hbl
        have hd2 := drop_nth (es := lb) (k := k) (by rw [HN'.out]; exact hkn)
        have hstep := hto.out
        rw [hd1, hd2, Ent.two_cons, ← hd1, ← hd2] at hstep
        have p1 := he1'.key
        have p2 := he1'.seq
        have p3 := he1'.gone
        have p4 := he1'.val
        have q1 := he2'.key
        have q2 := he2'.seq
        have q3 := he2'.gone
        have q4 := he2'.val
        have HC0 := Lib.hid (fun V : World => refcmp_any (nth la i) (nth lb k) a1 a2 d1 d2 V)
        have u1 : ((i : Int) == (n : Int)) = false := by simp; omega
        have u2 : ((k : Int) == (n' : Int)) = false := by simp; omega
        have HE1 := Lib.hid he1'
        have HE2 := Lib.hid he2'
        clear hac hbl he1 hv1 he1' hd1 he2 hv2 he2' hd2
        rcases Ent.cmp_cases (nth la i) (nth lb k) with hc | hc | hc
        · rw [if_pos hc] at hstep
          have HST : Hid ((lo ++ [nth la i]) ++ Ent.two (la.drop (i + 1)) (lb.drop (k)) = Ent.two la lb) := Lib.hid (by rw [List.append_assoc]; exact hstep)
          rw [hc] at HC0
          clear hc
          go_wp2_with fail
          refine wp_region_class (by kernel_rfl) (by kernel_rfl) (Below.refl _ _) ?_
          have m1 := BW.cell p1
          have m2 := BW.cell p2
          have m3 := BW.cell p3
          have m4 := BW.cell p4
          have n91 := BW.cell q1
          have n92 := BW.cell q2
          have n93 := BW.cell q3
          have n94 := BW.cell q4
          repeat (first | go_big_quiet_step ((go_at_call 14; exact calls_class (HC0.out _))))
          refine wpQuiet_nil ?_
          intro w7 hb7; replace hb7 := BW.of hb7
          clear p1 p2 p3 p4 q1 q2 q3 q4 m1 m2 m3 m4 n91 n92 n93 n94 u1 u2
          have he9 := HE1.out.below hb7
          have r1 := he9.key
          have r2 := he9.seq
          have r3 := he9.gone
          have r4 := he9.val
          have HA9 := Lib.hid (HAC.out.below hb7)
          have HV9 := Lib.hid (HV1.out.below hb7)
          have HB9 := Lib.hid (HBL.out.trans ((hb7).mono HBL.out.size))
          clear he9 hstep hb7
          go_wp2_with (at_builtin; refine app_ent rfl _ _ rfl w.heap.size rfl (HA9.out.below (below_alloc1 _ _)) rfl (load_box _ (nth la i) _ _) (HV9.out.below (below_alloc1 _ _)) (fun h5 x y hx hy e => by have h1 := HO1.out h5 x hx; have h2 := (HNEW.out y hy).1; omega) (by omega) (le_alloc HB9.out.size) ?_; intro a4 c4 w4 h4 hb4 _; have H4 := Lib.hid h4; have HB4 := Lib.hid ((HB9.out.alloc HB9.out.size _).trans hb4); clear h4 hb4)
          go_roundw
          case rel => exact ⟨i + 1, k, m + 1, c4, a4, lo ++ [nth la i], by omega, by omega, by omega, rfl, by go_num, rfl, H4.out, HB4.out, HST⟩
          case measure => simp [intOf]; omega
        · rw [if_neg (by omega), if_pos hc] at hstep
          have HST : Hid ((lo ++ [nth la i]) ++ Ent.two (la.drop (i + 1)) (lb.drop (k + 1)) = Ent.two la lb) := Lib.hid (by rw [List.append_assoc]; exact hstep)
          rw [hc] at HC0
          clear hc
          go_wp2_with fail
          refine wp_region_class (by kernel_rfl) (by kernel_rfl) (Below.refl _ _) ?_
          have m1 := BW.cell p1
          have m2 := BW.cell p2
          have m3 := BW.cell p3
          have m4 := BW.cell p4
          have n91 := BW.cell q1
          have n92 := BW.cell q2
          have n93 := BW.cell q3
          have n94 := BW.cell q4
          repeat (first | go_big_quiet_step ((go_at_call 14; exact calls_class (HC0.out _))))
          refine wpQuiet_nil ?_
          intro w7 hb7; replace hb7 := BW.of hb7
          clear p1 p2 p3 p4 q1 q2 q3 q4 m1 m2 m3 m4 n91 n92 n93 n94 u1 u2
          have he9 := HE1.out.below hb7
          have r1 := he9.key
          have r2 := he9.seq
          have r3 := he9.gone
          have r4 := he9.val
          have HA9 := Lib.hid (HAC.out.below hb7)
          have HV9 := Lib.hid (HV1.out.below hb7)
          have HB9 := Lib.hid (HBL.out.trans ((hb7).mono HBL.out.size))
          clear he9 hstep hb7
          go_wp2_with (at_builtin; refine app_ent rfl _ _ rfl w.heap.size rfl (HA9.out.below (below_alloc1 _ _)) rfl (load_box _ (nth la i) _ _) (HV9.out.below (below_alloc1 _ _)) (fun h5 x y hx hy e => by have h1 := HO1.out h5 x hx; have h2 := (HNEW.out y hy).1; omega) (by omega) (le_alloc HB9.out.size) ?_; intro a4 c4 w4 h4 hb4 _; have H4 := Lib.hid h4; have HB4 := Lib.hid ((HB9.out.alloc HB9.out.size _).trans hb4); clear h4 hb4)
          go_roundw
          case rel => exact ⟨i + 1, k + 1, m + 1, c4, a4, lo ++ [nth la i], by omega, by omega, by omega, rfl, by go_num, by go_num, H4.out, HB4.out, HST⟩
          case measure => simp [intOf]; omega
        · rw [if_neg (by omega), if_neg (by omega)] at hstep
          have HST : Hid ((lo ++ [nth lb k]) ++ Ent.two (la.drop (i)) (lb.drop (k + 1)) = Ent.two la lb) := Lib.hid (by rw [List.append_assoc]; exact hstep)
          rw [hc] at HC0
          clear hc
          go_wp2_with fail
          refine wp_region_class (by kernel_rfl) (by kernel_rfl) (Below.refl _ _) ?_
          have m1 := BW.cell p1
          have m2 := BW.cell p2
          have m3 := BW.cell p3
          have m4 := BW.cell p4
          have n91 := BW.cell q1
          have n92 := BW.cell q2
          have n93 := BW.cell q3
          have n94 := BW.cell q4
          repeat (first | go_big_quiet_step ((go_at_call 14; exact calls_class (HC0.out _))))
          refine wpQuiet_nil ?_
          intro w7 hb7; replace hb7 := BW.of hb7
          clear p1 p2 p3 p4 q1 q2 q3 q4 m1 m2 m3 m4 n91 n92 n93 n94 u1 u2
          have he9 := HE2.out.below hb7
          have r1 := he9.key
          have r2 := he9.seq
          have r3 := he9.gone
          have r4 := he9.val
          have HA9 := Lib.hid (HAC.out.below hb7)
          have HV9 := Lib.hid (HV2.out.below hb7)
          have HB9 := Lib.hid (HBL.out.trans ((hb7).mono HBL.out.size))
          clear he9 hstep hb7
          go_wp2_with (at_builtin; refine app_ent rfl _ _ rfl w.heap.size rfl (HA9.out.below (below_alloc1 _ _)) rfl (load_box _ (nth lb k) _ _) (HV9.out.below (below_alloc1 _ _)) (fun h5 x y hx hy e => by have h1 := HO2.out h5 x hx; have h2 := (HNEW.out y hy).1; omega) (by omega) (le_alloc HB9.out.size) ?_; intro a4 c4 w4 h4 hb4 _; have H4 := Lib.hid h4; have HB4 := Lib.hid ((HB9.out.alloc HB9.out.size _).trans hb4); clear h4 hb4)
          go_roundw
          case rel => exact ⟨i, k + 1, m + 1, c4, a4, lo ++ [nth lb k], by omega, by omega, by omega, rfl, rfl, by go_num, H4.out, HB4.out, HST⟩
          case measure => simp [intOf]; omega
      · obtain rfl : n' = k := by omega
        have hstep := hto.out
        rw [hd1, two_left (List.drop_eq_nil_of_le (by rw [HN'.out]; exact Nat.le_refl _))] at hstep
        have HST : Hid ((lo ++ [nth la i]) ++ Ent.two (la.drop (i + 1)) (lb.drop n') = Ent.two la lb) := Lib.hid (by rw [List.append_assoc]; exact hstep)
        have u1 : ((i : Int) == (n : Int)) = false := by simp; omega
        have HE1 := Lib.hid he1'
        clear hac hbl he1 hv1 he1' hd1
        have he9 := HE1.out.below (Below.refl wr.heap.size wr)
        have r1 := he9.key
        have r2 := he9.seq
        have r3 := he9.gone
        have r4 := he9.val
        have HA9 := Lib.hid (HAC.out.below (Below.refl wr.heap.size wr))
        have HV9 := Lib.hid (HV1.out.below (Below.refl wr.heap.size wr))
        have HB9 := Lib.hid (HBL.out.trans (((Below.refl wr.heap.size wr)).mono HBL.out.size))
        clear he9 hstep
        go_wp2_with (at_builtin; refine app_ent rfl _ _ rfl w.heap.size rfl (HA9.out.below (below_alloc1 _ _)) rfl (load_box _ (nth la i) _ _) (HV9.out.below (below_alloc1 _ _)) (fun h5 x y hx hy e => by have h1 := HO1.out h5 x hx; have h2 := (HNEW.out y hy).1; omega) (by omega) (le_alloc HB9.out.size) ?_; intro a4 c4 w4 h4 hb4 _; have H4 := Lib.hid h4; have HB4 := Lib.hid ((HB9.out.alloc HB9.out.size _).trans hb4); clear h4 hb4)
        go_roundw
        case rel => exact ⟨i + 1, n', m + 1, c4, a4, lo ++ [nth la i], by omega, by omega, by omega, rfl, by go_num, rfl, H4.out, HB4.out, HST⟩
        case measure => simp [intOf]; omega
    · obtain rfl : n = i := by omega
      by_cases hkn : k < n'
      · obtain ⟨b2, o2, a2, d2, rfl, he2, hv2⟩ := HB.out.vals hkn
        have HO2 : Hid (0 < (nth lb k).val.length → ∀ y, a2 = some y → y.block < w.heap.size) := Lib.hid (fun h => hv2.old h)
        have HV2 := Lib.hid (hv2.below hbl)
        have HE2 := Lib.hid (he2.below hbl)
        have hd2 := drop_nth (es := lb) (k := k) (by rw [HN'.out]; exact hkn)
        have hd1 : la.drop n = [] := List.drop_eq_nil_of_le (by rw [HN.out]; exact Nat.le_refl _)
        have hstep := hto.out
        rw [hd2, hd1, two_right, ← hd1] at hstep
        have HST : Hid ((lo ++ [nth lb k]) ++ Ent.two (la.drop n) (lb.drop (k + 1)) = Ent.two la lb) := Lib.hid (by rw [List.append_assoc]; exact hstep)
        clear hac hbl he2 hv2 hd2 hd1
        have he9 := HE2.out.below (Below.refl wr.heap.size wr)
        have r1 := he9.key
        have r2 := he9.seq
        have r3 := he9.gone
        have r4 := he9.val
        have HA9 := Lib.hid (HAC.out.below (Below.refl wr.heap.size wr))
        have HV9 := Lib.hid (HV2.out.below (Below.refl wr.heap.size wr))
        have HB9 := Lib.hid (HBL.out.trans (((Below.refl wr.heap.size wr)).mono HBL.out.size))
        clear he9 hstep
        go_wp2_with (at_builtin; refine app_ent rfl _ _ rfl w.heap.size rfl (HA9.out.below (below_alloc1 _ _)) rfl (load_box _ (nth lb k) _ _) (HV9.out.below (below_alloc1 _ _)) (fun h5 x y hx hy e => by have h1 := HO2.out h5 x hx; have h2 := (HNEW.out y hy).1; omega) (by omega) (le_alloc HB9.out.size) ?_; intro a4 c4 w4 h4 hb4 _; have H4 := Lib.hid h4; have HB4 := Lib.hid ((HB9.out.alloc HB9.out.size _).trans hb4); clear h4 hb4)
        go_roundw
        case rel => exact ⟨n, k + 1, m + 1, c4, a4, lo ++ [nth lb k], by omega, by omega, by omega, rfl, rfl, by go_num, H4.out, HB4.out, HST⟩
        case measure => simp [intOf]; omega
      · obtain rfl : n' = k := by omega
        have e1 : lo = Ent.two la lb := by
          have := hto.out
          rw [List.drop_eq_nil_of_le (by rw [HN.out]; exact Nat.le_refl _), List.drop_eq_nil_of_le (by rw [HN'.out]; exact Nat.le_refl _), Ent.two_nil, List.append_nil] at this
          exact this
        have E1 := Lib.hid e1
        clear hac hbl e1
        go_wp2
        go_ret
        exact ⟨_, _, _, rfl, by rw [← E1.out]; exact HAC.out, HBL.out⟩
end Go.Proofs.Ytlipgaefflecaaa
end

section
set_option maxRecDepth 100000
set_option linter.unusedSimpArgs false
namespace Go.Proofs.Ytlipgaefflecaaa
open Go.RowKit
set_option linter.unusedVariables false

theorem sumL_take (ls : List (List Ent)) (j : Nat) : Ent.sumL (ls.take j) ≤ Ent.sumL ls := by
  unfold Ent.sumL
  conv => rhs; rw [← List.take_append_drop j ls]
  simp only [List.map_append, List.sum_append]
  omega
theorem sumL_at {ls : List (List Ent)} {j : Nat} (h : j < ls.length) : Ent.sumL (ls.take (j + 1)) = Ent.sumL (ls.take j) + (nth ls j).length := by
  unfold Ent.sumL
  rw [List.take_succ_eq_append_getElem h, nth_eq _ h, List.map_append, List.sum_append]
  rfl
theorem mergeL_take {ls : List (List Ent)} {j : Nat} (h : j < ls.length) : Ent.mergeL (ls.take (j + 1)) = Ent.two (Ent.mergeL (ls.take j)) (nth ls j) := by
  unfold Ent.mergeL
  rw [List.take_succ_eq_append_getElem h, nth_eq _ h, List.foldl_append]
  rfl
set_option maxHeartbeats 4000000 in
theorem refmerge_any (a : Option Addr) (n c : Nat) (ls : List (List Ent)) (w : World) (h : Ess w a n c ls) (hs : Ent.sumL ls ≤ 900000000) :
    Calls Try.prog 17 #[.slice a n c] w fun e w' => ∃ a' m co, e = .returned (.tuple #[.slice a' m co, .int .i64 (Ent.mergeX ls)]) ∧ Es w' a' m co (Ent.mergeE ls) ∧ Below w.heap.size w w' := by
  have hle := h.le.1
  have HN := Lib.hid h.1
  have HE := Lib.hid h
  have HS := Lib.hid hs
  clear h hs
  go_enter Try.func17, Try.ntmps17
  go_wp2_with fail
  go_loopw [5] (fun i wr => ∃ j : Nat, j ≤ n ∧ i = .int .i64 j ∧ Below w.heap.size w wr ∧ Hid (∀ k, k < j → Ent.rightB (nth ls k) = true)) (fun i _ => n - (intOf i).toNat)
  case atStart => exact ⟨0, Nat.zero_le _, rfl, Below.refl _ _, Lib.hid (fun k hk => by omega)⟩
  case round =>
    obtain ⟨j, hj, rfl, hb, hall⟩ := hrel
    by_cases hlt : j < n
    · obtain ⟨b, off, ai, ni, ci, rfl, hc, hes⟩ := (HE.out.below hb).get hlt
      have HES := Lib.hid hes
      have HB := Lib.hid hb
      clear hes hb
      go_wp2_with fail
      refine (refright_any _ _ _ (nth ls j) _ HES.out).mono ?_
      rintro e w1 ⟨rfl, hb1⟩
      have HB1 := Lib.hid (HB.out.trans (hb1.mono HB.out.size))
      clear hb1
      cases hR : Ent.rightB (nth ls j) with
      | false =>
        have hno := allR_no (by rw [HN.out]; exact hlt) hR
        have HP := Lib.hid (show ∃ a' m co, Ending.returned (.tuple #[.slice none 0 0, .int .i64 15]) = Ending.returned (.tuple #[.slice a' m co, .int .i64 (Ent.mergeX ls)]) ∧ Es w1 a' m co (Ent.mergeE ls) ∧ Below w.heap.size w w1 by rw [hno.1, hno.2]; exact ⟨_, _, _, rfl, Es.nil _, HB1.out⟩)
        clear hno hR
        go_wp2
        go_ret2
        exact HP.out
      | true =>
        have HA : Hid (∀ k, k < j + 1 → Ent.rightB (nth ls k) = true) := Lib.hid (fun k hk => by
          by_cases e : k = j
          · rw [e]; exact hR
          · exact hall.out k (by omega))
        clear hR
        go_wp2
        go_roundw
        case rel => exact ⟨j + 1, by omega, by go_num, HB1.out, HA⟩
        case measure => simp [intOf]; omega
    · obtain rfl : n = j := by omega
      have hR := allR_at (ls := ls) (fun k hk => hall.out k (by rw [HN.out] at hk; exact hk))
      have HY := Lib.hid (allR_yes hR)
      have HB := Lib.hid hb
      clear hb hR
      go_wp2_with fail
      go_loopw [4, 6] (fun o i wi => ∃ (j m co : Nat) (ao : Option Addr), j ≤ n ∧ o = .slice ao m co ∧ i = .int .i64 j ∧ Below w.heap.size w wi ∧ Es wi ao m co (Ent.mergeL (ls.take j))) (fun _ i _ => n - (intOf i).toNat)
      case atStart => exact ⟨0, 0, 0, none, Nat.zero_le _, rfl, rfl, HB.out, Es.nil _⟩
      case round =>
        clear HB
        obtain ⟨j, m, co, ao, hj, rfl, rfl, hb2, heo⟩ := hrel
        by_cases hlt2 : j < n
        · obtain ⟨b, off, ai, ni, ci, rfl, hc, hes⟩ := (HE.out.below hb2).get hlt2
          have hsz : m + ni ≤ 900000000 := by
            have h1 := merge_len (ls.take j)
            have h2 := sumL_at (ls := ls) (j := j) (by rw [HN.out]; exact hlt2)
            have h3 := sumL_take ls (j + 1)
            have h4 := HS.out
            rw [heo.1] at h1
            rw [hes.1] at h2
            omega
          have HES := Lib.hid hes
          have HEO := Lib.hid heo
          have HB2 := Lib.hid hb2
          have HMT := Lib.hid (mergeL_take (ls := ls) (j := j) (by rw [HN.out]; exact hlt2))
          clear hes heo hb2
          go_wp2_with fail
          refine (reftwo_any _ _ _ _ _ _ _ (nth ls j) _ HEO.out HES.out hsz).mono ?_
          rintro e w5 ⟨a5, m5, c5, rfl, ha5, hb5⟩
          have HB5 := Lib.hid (HB2.out.trans (hb5.mono HB2.out.size))
          have HA5 := Lib.hid ha5.es
          clear hb5 ha5
          go_wp2
          go_roundw
          case rel => exact ⟨j + 1, m5, c5, a5, by omega, rfl, by go_num, HB5.out, by rw [HMT.out]; exact HA5.out⟩
          case measure => simp [intOf]; omega
        · obtain rfl : n = j := by omega
          have e1 : ls.take n = ls := by rw [← HN.out, List.take_length]
          rw [e1] at heo
          have HP := Lib.hid (show ∃ a' m' co', Ending.returned (.tuple #[.slice ao m co, .int .i64 0]) = Ending.returned (.tuple #[.slice a' m' co', .int .i64 (Ent.mergeX ls)]) ∧ Es wr a' m' co' (Ent.mergeE ls) ∧ Below w.heap.size w wr by rw [HY.out.1, HY.out.2]; exact ⟨_, _, _, rfl, heo, hb2⟩)
          clear heo hb2 e1
          go_wp2
          go_ret2
          exact HP.out
/-- Lists such that a play is worth its while. -/
def Ent.fewB (l : List Ent) : Bool := decide (l.length ≤ 1000 ∧ Ent.tot l ≤ 131072)
def Ent.few6 (ls : List (List Ent)) : Bool := decide (ls.length ≤ 30) && (ls.all Ent.fewB && decide (Ent.sumL ls ≤ 3000))
def Ent.totL (ls : List (List Ent)) : Nat := (ls.map fun l => Ent.tot l + l.length).sum
theorem totL_mem {ls : List (List Ent)} {l : List Ent} (h : l ∈ ls) : Ent.tot l + l.length ≤ Ent.totL ls := by
  induction ls with
  | nil => cases h
  | cons k ls ih =>
    unfold Ent.totL at *
    simp only [List.map_cons, List.sum_cons]
    rcases List.mem_cons.1 h with e | e
    · rw [e]; omega
    · have := ih e; omega
theorem sumL_tot (ls : List (List Ent)) : Ent.sumL ls ≤ Ent.totL ls := by
  induction ls with
  | nil => exact Nat.le_refl _
  | cons k ls ih => unfold Ent.totL Ent.sumL at *; simp only [List.map_cons, List.sum_cons]; omega
theorem few6_yes {ls : List (List Ent)} (h : Ent.few6 ls = true) : ls.length ≤ 30 ∧ (∀ l ∈ ls, l.length ≤ 1000 ∧ ∀ e ∈ l, e.val.length ≤ 1000000000) ∧ Ent.sumL ls ≤ 3000 := by
  unfold Ent.few6 at h
  rw [Bool.and_eq_true, Bool.and_eq_true, decide_eq_true_eq, decide_eq_true_eq, List.all_eq_true] at h
  exact ⟨h.1, fun l hl => few_yes (h.2.1 l hl), h.2.2⟩
end Go.Proofs.Ytlipgaefflecaaa
end

section
set_option maxRecDepth 100000
set_option linter.unusedVariables false
set_option linter.unusedSimpArgs false
namespace Go.Proofs.Ytlipgaefflecaaa
open Go.RowKit

def EntO (w : World) (O : Nat) (cs : List Value) (i : Nat) (e : Ent) : Prop :=
  ∃ ai ci, (∀ j v, (entCells e ai ci)[j]? = some v → cs[i * 4 + j]? = some v) ∧ Bs w ai e.val.length ci e.val ∧ (0 < e.val.length → ∀ x, ai = some x → x.block < O)
/-- A row of entries that is the call's own; their values lie below O. -/
structure AccO (w : World) (B O : Nat) (a : Option Addr) (n c : Nat) (l : List Ent) : Prop where
  len : l.length = n
  row : ∃ cs, w.ownsRow B 57 4 (.slice a n c) n cs ∧ ∀ i, i < n → EntO w O cs i (nth l i)
theorem AccO.nil (w : World) (B O : Nat) : AccO w B O none 0 0 [] := ⟨rfl, [], World.ownsRow_nil w B _ _, fun i hi => by omega⟩
theorem AccO.new {w : World} {B O n c : Nat} {a : Option Addr} {l : List Ent} (h : AccO w B O a n c l) : ∀ z, a = some z → B ≤ z.block ∧ z.block < w.heap.size := by
  obtain ⟨cs, h1, _⟩ := h.row
  intro z hz
  subst hz
  exact World.ownsRow.lt h1 z.block rfl
theorem AccO.es {w : World} {B O n c : Nat} {a : Option Addr} {l : List Ent} (h : AccO w B O a n c l) (hO : O ≤ B) : Es w a n c l := by
  obtain ⟨cs, h1, h2⟩ := h.row
  have : AccE w B a n c l := by
    refine ⟨h.len, cs, h1, fun i hi => ?_⟩
    obtain ⟨ai, ci, g1, g2, g3⟩ := h2 i hi
    exact ⟨ai, ci, g1, g2, fun h0 x y hx hy e => by have := g3 h0 x hx; have := (h.new y hy).1; omega⟩
  exact this.es
theorem AccO.acc {w : World} {B O n c : Nat} {a : Option Addr} {l : List Ent} (h : AccO w B O a n c l) (hO : O ≤ B) : AccE w B a n c l := by
  obtain ⟨cs, h1, h2⟩ := h.row
  refine ⟨h.len, cs, h1, fun i hi => ?_⟩
  obtain ⟨ai, ci, g1, g2, g3⟩ := h2 i hi
  exact ⟨ai, ci, g1, g2, fun h0 x y hx hy e => by have := g3 h0 x hx; have := (h.new y hy).1; omega⟩
/-- A change of another block. -/
theorem AccO.other {w w' : World} {B O n c : Nat} {a : Option Addr} {l : List Ent} {row : Option Nat} (h : AccO w B O a n c l) (hg : w.grownBy w' row) (hne : ∀ g, row = some g → O ≤ g ∧ ∀ z, a = some z → z.block ≠ g) : AccO w' B O a n c l := by
  obtain ⟨cs, h1, h2⟩ := h.row
  refine ⟨h.len, cs, h1.kept hg ?_, fun i hi => ?_⟩
  · rw [own_block h1]
    cases a with
    | none =>
      exact .inl rfl
    | some x =>
      refine .inr fun e => ?_
      exact (hne x.block (by simpa using e.symm)).2 x rfl rfl
  · obtain ⟨ai, ci, g1, g2, g3⟩ := h2 i hi
    refine ⟨ai, ci, g1, ⟨g2.1, g2.2.1, g2.2.2.1, ?_⟩, g3⟩
    by_cases h0 : 0 < (nth l i).val.length
    · refine g2.2.2.2.grown hg fun x hx e => ?_
      have := g3 h0 x hx
      have := (hne x.block e.symm).1
      omega
    · have : (nth l i).val = [] := List.eq_nil_of_length_eq_zero (by omega)
      rw [this]
      exact Row.nil _ _
/-- What is known of an entry's cells in a row that is appended. -/
def EntSrc (w : World) (cs : List Value) (i : Nat) (e : Ent) (aq : Option Addr) : Prop :=
  ∃ ai ci, (∀ j v, (entCells e ai ci)[j]? = some v → cs[i * 4 + j]? = some v) ∧ Bs w ai e.val.length ci e.val ∧ (0 < e.val.length → ∀ x y, ai = some x → aq = some y → x.block ≠ y.block)
theorem src_one {w : World} {cs : List Value} {l : List Ent} {aq : Option Addr} (hl : cs.length = l.length * 4) (h : ∀ i, i < l.length → EntSrc w cs i (nth l i) aq) : ∀ u ∈ cs, u.oneCell' = true := fun u hu => by
  obtain ⟨q, hq, rfl⟩ := List.mem_iff_getElem.1 hu
  have hi : q / 4 < l.length := by omega
  obtain ⟨ai, ci, h1, _⟩ := h (q / 4) hi
  have hj : q % 4 < (entCells (nth l (q / 4)) ai ci).length := by show q % 4 < 4; omega
  have h2 := h1 (q % 4) _ (List.getElem?_eq_getElem hj)
  rw [show q / 4 * 4 + q % 4 = q by omega, List.getElem?_eq_getElem hq] at h2
  have h3 : cs[q] = (entCells (nth l (q / 4)) ai ci)[q % 4] := by simpa using h2
  rw [h3]
  exact entCells_one _ ai ci _ (List.getElem_mem _)
theorem AccE.join {w w' : World} {B n c c' m : Nat} {a a' : Option Addr} {l l2 : List Ent} {cs cs2 : List Value} (hl : l.length = n) (h1 : w.ownsRow B 57 4 (.slice a n c) n cs) (h2 : ∀ i, i < n → EntIn w a cs i (nth l i))
    (hm : l2.length = m) (hl2 : cs2.length = m * 4) (h3 : ∀ i, i < m → EntSrc w cs2 i (nth l2 i) a) (h : w'.ownsRow B 57 4 (.slice a' (n + m) c') (n + m) (cs ++ cs2)) (hev : Evol w a w' a') : AccE w' B a' (n + m) c' (l ++ l2) := by
  have hcl : cs.length = n * 4 := h1.1
  refine ⟨by simp [hl, hm], cs ++ cs2, h, fun i hi => ?_⟩
  by_cases ei : i < n
  · rw [nth_append_left _ _ (by omega)]
    exact (h2 i ei).step hev
  · obtain ⟨ai, ci, g1, g2, g3⟩ := h3 (i - n) (by omega)
    have e1 : nth (l ++ l2) i = nth l2 (i - n) := by
      rw [nth_eq _ (by simp; omega), nth_eq _ (by omega), List.getElem_append_right (by omega)]
      simp [hl]
    rw [e1]
    have h4 : EntIn w a (cs ++ cs2) i (nth l2 (i - n)) := ⟨ai, ci, fun j v hj => by
      rw [List.getElem?_append_right (by omega), hcl, show i * 4 + j - n * 4 = (i - n) * 4 + j by omega]
      exact g1 j v hj, g2, g3⟩
    have := h4.step (cs2 := []) hev
    rwa [List.append_nil] at this
theorem es_cells {w : World} {a : Option Addr} {l : List Ent} : ∀ (n : Nat), (∀ i, i < n → ∃ b off ai ci, a = some ⟨b, off, none⟩ ∧ EntAt w b (off + i * 4) (nth l i) ai ci ∧ Bs w ai (nth l i).val.length ci (nth l i).val) →
    ∃ cs, cs.length = n * 4 ∧ Row w a cs ∧ ∀ i, i < n → ∃ ai ci, (∀ j v, (entCells (nth l i) ai ci)[j]? = some v → cs[i * 4 + j]? = some v) ∧ Bs w ai (nth l i).val.length ci (nth l i).val
  | 0, _ => ⟨[], rfl, Row.nil _ _, fun i hi => by omega⟩
  | n + 1, h => by
    obtain ⟨cs, h1, h2, h3⟩ := es_cells n (fun i hi => h i (by omega))
    obtain ⟨b, off, ai, ci, rfl, he, hv⟩ := h n (by omega)
    have hc := he.cells
    refine ⟨cs ++ entCells (nth l n) ai ci, by rw [List.length_append, h1]; show n * 4 + 4 = _; omega, fun j v hj => ?_, fun i hi => ?_⟩
    · by_cases hjn : j < n * 4
      · rw [List.getElem?_append_left (by omega)] at hj
        exact h2 j v hj
      · rw [List.getElem?_append_right (by omega), h1] at hj
        have := hc _ _ hj
        exact ⟨b, off, rfl, by rw [show off + j = off + n * 4 + (j - n * 4) by omega]; exact this⟩
    · by_cases e : i = n
      · subst e
        exact ⟨ai, ci, fun j v hj => by rw [List.getElem?_append_right (by omega), h1, Nat.add_sub_cancel_left]; exact hj, hv⟩
      · obtain ⟨ai', ci', g1, g2⟩ := h3 i (by omega)
        exact ⟨ai', ci', fun j v hj => by rw [List.getElem?_append_left (List.getElem?_eq_some_iff.1 (g1 j v hj)).1]; exact g1 j v hj, g2⟩
/-- The cells of a slice of entries that is read, as the source of an append. -/
theorem Es.src {w : World} {a : Option Addr} {n c : Nat} {l : List Ent} (h : Es w a n c l) :
    ∃ cs2, cs2.length = n * 4 ∧ ∀ (V : World) (aq : Option Addr), Below w.heap.size w V → (∀ y, aq = some y → w.heap.size ≤ y.block) → Row V a cs2 ∧ ∀ i, i < n → EntSrc V cs2 i (nth l i) aq := by
  obtain ⟨cs, h1, h2, h3⟩ := es_cells n h.2.2.2
  refine ⟨cs, h1, fun V aq hV haq => ⟨h2.below hV, fun i hi => ?_⟩⟩
  obtain ⟨ai, ci, g1, g2⟩ := h3 i hi
  refine ⟨ai, ci, g1, g2.below hV, fun h0 x y hx hy e => ?_⟩
  have := g2.old h0 x hx
  have := haq y hy
  omega
section
variable {w : World} {ops : Array Oper} {rest : List Oper} {o : Oper} {a : Act} {Q : Exit → Act → World → Prop}
/-- append of a slice of entries. -/
theorem app_ents (hgd : Region.wanted o (yielded ops a.tmps) = true) (s x : Operand) (ho : o.op = .call { callee := .builtin .append, args := #[s, x], argTypes := #[33, 33] })
    (B : Nat) {aq : Option Addr} {n c : Nat} {l : List Ent} (hs : a.eval s = .slice aq n c) (hacc : AccE w B aq n c l)
    {ax : Option Addr} {m cx : Nat} {l2 : List Ent} (hx : a.eval x = .slice ax m cx) {w0 : World} (hr : Es w0 ax m cx l2) (hw0 : Below w0.heap.size w0 w) (h0B : w0.heap.size ≤ B)
    (hb : n + m ≤ 1000000000) (hB : B ≤ w.heap.size)
    (h : ∀ a' c' w', AccE w' B a' (n + m) c' (l ++ l2) → Below B w w' → Evol w aq w' a' → wpList Try.prog ops Q rest (a.put o.dst (.slice a' (n + m) c')) w') : wpList Try.prog ops Q (o :: rest) a w := by
  obtain ⟨i, hi, hz, h1, h2⟩ := info_parts infoE
  obtain ⟨cs, hown, hin⟩ := hacc.row
  obtain ⟨cs2, hl2, hsrc⟩ := hr.src
  obtain ⟨hrow, hsr⟩ := hsrc w aq hw0 (fun y hy => Nat.le_trans h0B (hacc.new y hy).1)
  have hll := hr.1
  refine wpList_app_own hgd s x 33 ho B 57 i (.agg #[.string ByteArray.empty, .int .u64 0, .bool false, .slice none 0 0]) 4 56 Try.underlying33 hi hz h1 h2 rfl (by decide) aq n c cs hs hown ax m cx cs2 hx hrow hl2 (src_one (l := l2) (aq := aq) (by rw [hll]; exact hl2) (fun i hi => hsr i (by omega))) (by omega) (by simp only [maxLen]; omega) hB ?_
  intro a' c' w' g1 g2
  exact h a' c' w' (AccE.join hacc.len hown hin hll hl2 hsr g1 g2) (g2.below hB (fun x hx => (hacc.new x hx).1)) g2
end
set_option maxHeartbeats 1000000 in
theorem clonees_any (a : Option Addr) (n c : Nat) (l : List Ent) (w0 w : World) (h : Es w0 a n c l) (hw : Below w0.heap.size w0 w) (hn : n ≤ 1000000) :
    Calls Try.prog 24 #[.slice a n c] w fun e w' => ∃ a' c', e = .returned (.slice a' n c') ∧ AccO w' w.heap.size w0.heap.size a' n c' l ∧ Below w.heap.size w w' := by
  have hq := fun (w : World) => Lib.run_eql_slice_nil (P := Try.prog) w 33 57 a n c 0 0 Try.underlying33
  have hle := h.le
  cases a with
  | none =>
    go_enter Try.func24, Try.ntmps24
    go_wp2
    go_ret
    have hn0 : n = 0 := by
      rcases Nat.eq_zero_or_pos n with h' | h'
      · exact h'
      · obtain ⟨_, _, _, _, h1, _⟩ := h.vals h'; cases h1
    subst hn0
    obtain rfl : l = [] := List.eq_nil_of_length_eq_zero h.1
    exact ⟨none, 0, rfl, AccO.nil _ _ _, Below.refl _ _⟩
  | some ad =>
    obtain ⟨i0, hi0, hz0, hz1, hz2⟩ := info_parts infoE
    obtain ⟨cs, hcl, hrow0, hcs⟩ := es_cells n h.2.2.2
    have hrow : Row (w.alloc (.cells #[] 57)) (some ad) cs := (hrow0.below hw).below (below_alloc1 w _)
    have hone : ∀ u ∈ cs, u.oneCell' = true := by
      refine src_one (w := w0) (l := l) (aq := none) (by rw [h.1]; exact hcl) (fun i hi => ?_)
      obtain ⟨ai, ci, g1, g2⟩ := hcs i (by rw [h.1] at hi; exact hi)
      exact ⟨ai, ci, g1, g2, fun _ x y _ hy => by cases hy⟩
    have hlit : (w.alloc (.cells #[] 57)).ownsRow w.heap.size 57 4 (.slice (some ⟨w.heap.size, 0, none⟩) 0 0) 0 [] :=
      ⟨rfl, .inr ⟨w.heap.size, 0, #[], rfl, Nat.le_refl _, heap_alloc_new w _, Nat.le_refl _, by simp [maxLen], rfl, rfl⟩⟩
    have HROW := Lib.hid hrow
    have HONE := Lib.hid hone
    have HLIT := Lib.hid hlit
    have HCL := Lib.hid hcl
    have HI := Lib.hid (And.intro hi0 (And.intro hz0 (And.intro hz1 hz2)))
    have HW := Lib.hid hw
    clear hrow hone hlit hcl hi0 hz0 hz1 hz2 hrow0 hw
    go_enter Try.func24, Try.ntmps24
    go_wp2_with (at_builtin; refine wpList_app_own rfl _ _ 33 rfl w.heap.size 57 i0 (.agg #[.string ByteArray.empty, .int .u64 0, .bool false, .slice none 0 0]) 4 56 Try.underlying33 HI.out.1 HI.out.2.1 HI.out.2.2.1 HI.out.2.2.2 rfl (by decide) (some ⟨w.heap.size, 0, none⟩) 0 0 [] rfl HLIT.out (some ad) n c cs rfl HROW.out HCL.out HONE.out (by omega) (by simp only [maxLen]; omega) (le_alloc (Nat.le_refl _)) ?_; intro a5 c5 w5 h5 hev5)
    go_ret
    simp only [Nat.zero_add, List.nil_append] at h5
    have hb5 : Below w.heap.size w w5 := (below_alloc1 w _).trans (hev5.below (B := w.heap.size) (le_alloc (Nat.le_refl _)) (fun x hx => by cases hx; exact Nat.le_refl _))
    refine ⟨a5, c5, by simp, ⟨h.1, cs, h5, fun i hi => ?_⟩, hb5⟩
    obtain ⟨ai, ci, g1, g2⟩ := hcs i hi
    exact ⟨ai, ci, g1, (g2.below HW.out).below hb5, fun h0 x hx => g2.old h0 x hx⟩

/-! Parts: a row of rows. -/
/-- A row of rows of entries that is the call's own, from O on; their values lie below O. -/
structure Parts (w : World) (O : Nat) (a : Option Addr) (n c : Nat) (ls : List (List Ent)) : Prop where
  len : ls.length = n
  row : ∃ cs, w.ownsRow O 33 1 (.slice a n c) n cs ∧ ∀ i, i < n → ∃ ai ci, cs[i]? = some (.slice ai (nth ls i).length ci) ∧ AccO w O O ai (nth ls i).length ci (nth ls i)
theorem Parts.nil (w : World) (O : Nat) : Parts w O none 0 0 [] := ⟨rfl, [], World.ownsRow_nil w O _ _, fun i hi => by omega⟩
theorem AccO.below {w w' : World} {B O n c : Nat} {a : Option Addr} {l : List Ent} (h : AccO w B O a n c l) (hb : Below w.heap.size w w') : AccO w' B O a n c l := by
  obtain ⟨cs, h1, h2⟩ := h.row
  exact ⟨h.len, cs, own_below h1 hb, fun i hi => by obtain ⟨ai, ci, g1, g2, g3⟩ := h2 i hi; exact ⟨ai, ci, g1, g2.below hb, g3⟩⟩
theorem AccO.mono {w : World} {B B' O n c : Nat} {a : Option Addr} {l : List Ent} (h : AccO w B O a n c l) (hB : B' ≤ B) : AccO w B' O a n c l := by
  obtain ⟨cs, h1, h2⟩ := h.row
  exact ⟨h.len, cs, own_mono h1 hB, h2⟩
theorem Parts.below {w w' : World} {O n c : Nat} {a : Option Addr} {ls : List (List Ent)} (h : Parts w O a n c ls) (hb : Below w.heap.size w w') : Parts w' O a n c ls := by
  obtain ⟨cs, h1, h2⟩ := h.row
  exact ⟨h.len, cs, own_below h1 hb, fun i hi => by obtain ⟨ai, ci, g1, g2⟩ := h2 i hi; exact ⟨ai, ci, g1, g2.below hb⟩⟩
theorem Parts.cap {w : World} {O n c : Nat} {a : Option Addr} {ls : List (List Ent)} (h : Parts w O a n c ls) : n ≤ c ∧ c ≤ maxLen := by
  obtain ⟨cs, h1, _⟩ := h.row
  exact (own_cap h1).2
theorem Parts.ess {w : World} {O n c : Nat} {a : Option Addr} {ls : List (List Ent)} (h : Parts w O a n c ls) : Ess w a n c ls := by
  obtain ⟨cs, h1, h2⟩ := h.row
  refine ⟨h.len, h.cap.1, h.cap.2, fun i hi => ?_⟩
  obtain ⟨ai, ci, g1, g2⟩ := h2 i hi
  obtain ⟨b, off, rfl, k⟩ := (Row.of_own h1) i _ g1
  exact ⟨b, off, ai, _, ci, rfl, k, g2.es (Nat.le_refl _)⟩
/-- A row of entries lies apart from the row of rows. -/
theorem AccO.outer {w w' : World} {B O n c m co : Nat} {a ao ao' : Option Addr} {l : List Ent} {cs : List Value} (h : AccO w B O a n c l) (ho : w.ownsRow O 33 1 (.slice ao m co) m cs) (hev : Evol w ao w' ao') : AccO w' B O a n c l := by
  obtain ⟨cs', h1, h2⟩ := h.row
  have hap := own_apart h1 ho (by decide)
  rw [own_block h1, own_block ho] at hap
  refine h.other hev.1 (fun g hg => ⟨?_, fun z hz e => ?_⟩)
  · cases ao with
    | none => cases hg
    | some y => have := (World.ownsRow.lt ho y.block rfl).1; have e : y.block = g := by simpa using hg
                omega
  · subst hz
    rcases hap with k | k
    · cases k
    · exact k (by rw [hg]; simp [e])
/-- Behind the append of a part. -/
theorem Parts.snoc {w w' : World} {O n c c' : Nat} {a a' : Option Addr} {ls : List (List Ent)} {cs : List Value} {p : List Ent} {ap : Option Addr} {cp : Nat}
    (hl : ls.length = n) (h1 : w.ownsRow O 33 1 (.slice a n c) n cs) (h2 : ∀ i, i < n → ∃ ai ci, cs[i]? = some (.slice ai (nth ls i).length ci) ∧ AccO w O O ai (nth ls i).length ci (nth ls i))
    (hp : AccO w O O ap p.length cp p) (h : w'.ownsRow O 33 1 (.slice a' (n + 1) c') (n + 1) (cs ++ [.slice ap p.length cp])) (hev : Evol w a w' a') : Parts w' O a' (n + 1) c' (ls ++ [p]) := by
  have hcl : cs.length = n := by simpa using h1.1
  refine ⟨by simp [hl], _, h, fun i hi => ?_⟩
  by_cases e : i = n
  · subst e
    have e1 : nth (ls ++ [p]) i = p := by rw [nth_eq _ (by simp; omega)]; simp [← hl]
    rw [e1]
    exact ⟨ap, cp, by rw [List.getElem?_append_right (by omega)]; simp [hcl], hp.outer h1 hev⟩
  · rw [nth_append_left _ _ (by omega)]
    obtain ⟨ai, ci, g1, g2⟩ := h2 i (by omega)
    exact ⟨ai, ci, by rw [List.getElem?_append_left (by omega)]; exact g1, g2.outer h1 hev⟩
section
variable {w : World} {ops : Array Oper} {rest : List Oper} {o : Oper} {a : Act} {Q : Exit → Act → World → Prop}
/-- append of one part. -/
theorem app_part (hgd : Region.wanted o (yielded ops a.tmps) = true) (s x : Operand) (ho : o.op = .call { callee := .builtin .append, args := #[s, x], argTypes := #[22, 22] })
    (O : Nat) {aq : Option Addr} {n c : Nat} {ls : List (List Ent)} (hs : a.eval s = .slice aq n c) (hacc : Parts w O aq n c ls)
    {k : Nat} {p : List Ent} {np : Nat} {ap : Option Addr} {cp : Nat} (hx : a.eval x = .slice (some ⟨k, 0, none⟩) 1 1) (hcell : w.cell? ⟨k, 0, none⟩ = some (.slice ap np cp)) (hp : AccO w O O ap np cp p)
    (hb : n ≤ 1000000000) (hB : O ≤ w.heap.size)
    (h : ∀ a' c' w', Parts w' O a' (n + 1) c' (ls ++ [p]) → Below O w w' → Evol w aq w' a' → wpList Try.prog ops Q rest (a.put o.dst (.slice a' (n + 1) c')) w') : wpList Try.prog ops Q (o :: rest) a w := by
  obtain ⟨i, hi, h0, h1, h2⟩ := info_parts infoEs
  obtain ⟨cs, hown, hin⟩ := hacc.row
  obtain rfl : p.length = np := hp.len
  have hr : Row w (some ⟨k, 0, none⟩) [.slice ap p.length cp] := fun j v hj => by
    cases j with
    | zero => cases hj; exact ⟨k, 0, rfl, hcell⟩
    | succ j => simp at hj
  refine wpList_app_own hgd s x 22 ho O 33 i (.slice none 0 0) 1 24 Try.underlying22 hi h0 h1 h2 rfl (by decide) aq n c cs hs hown (some ⟨k, 0, none⟩) 1 1 [.slice ap p.length cp] hx hr rfl (fun u hu => by simp at hu; subst hu; rfl) (by omega) (by simp only [maxLen]; omega) hB ?_
  intro a' c' w' g1 g2
  exact h a' c' w' (Parts.snoc hacc.len hown hin hp g1 g2) (g2.below hB (fun x hx => by subst hx; exact (World.ownsRow.lt hown x.block rfl).1)) g2
end
end Go.Proofs.Ytlipgaefflecaaa
end

section
set_option maxRecDepth 100000
set_option linter.unusedVariables false
set_option linter.unusedSimpArgs false
namespace Go.Proofs.Ytlipgaefflecaaa
open Go.RowKit

structure Tab where
  file : Int
  level : Int
  first : List UInt8
  last : List UInt8
  size : Int
instance : Inhabited Tab := ⟨⟨0, 0, [], [], 0⟩⟩
theorem infoT : (Try.prog.info? 39).map (fun i => (i.zero, i.size, i.bytes)) = some (some (.agg #[.int .i64 0, .int .i64 0, .string ByteArray.empty, .string ByteArray.empty, .int .i64 0]), 5, 56) := by kernel_rfl
def tcells (t : Tab) : List Value := [.int .i64 t.file, .int .i64 t.level, .string (bstr t.first), .string (bstr t.last), .int .i64 t.size]
def tval (t : Tab) : Value := .agg #[.int .i64 t.file, .int .i64 t.level, .string (bstr t.first), .string (bstr t.last), .int .i64 t.size]
def tv (l : List Tab) : List Value := l.flatMap tcells
theorem tv_len : ∀ l : List Tab, (tv l).length = l.length * 5
  | [] => rfl
  | m :: l => by
    have h := tv_len l
    unfold tv at *
    rw [List.flatMap_cons, List.length_append, h, List.length_cons]
    simp [tcells]
    omega
theorem tv_get : ∀ (l : List Tab) (i j : Nat), i < l.length → j < 5 → (tv l)[i * 5 + j]? = (tcells (nth l i))[j]?
  | [], i, j, hi, _ => by simp at hi
  | m :: l, 0, j, _, hj => by
    unfold tv
    rw [List.flatMap_cons, List.getElem?_append_left (by simp [tcells]; omega), Nat.zero_mul, Nat.zero_add]
    rfl
  | m :: l, i + 1, j, hi, hj => by
    have h := tv_get l i j (by simpa using hi) hj
    unfold tv at *
    rw [List.flatMap_cons, List.getElem?_append_right (by simp [tcells]; omega), show (i + 1) * 5 + j - (tcells m).length = i * 5 + j by simp [tcells]; omega, h]
    simp [nth]
theorem tv_one (l : List Tab) : ∀ u ∈ tv l, u.oneCell' = true := fun u hu => by
  obtain ⟨m, _, h⟩ := List.mem_flatMap.1 hu
  simp only [tcells, List.mem_cons, List.not_mem_nil, or_false] at h
  rcases h with rfl | rfl | rfl | rfl | rfl <;> rfl
theorem tv_app (a b : List Tab) : tv (a ++ b) = tv a ++ tv b := by simp [tv]
/-- A table in cells. -/
structure TabAt (w : World) (b o : Nat) (t : Tab) : Prop where
  file : w.cell? ⟨b, o, none⟩ = some (.int .i64 t.file)
  level : w.cell? ⟨b, o + 1, none⟩ = some (.int .i64 t.level)
  first : w.cell? ⟨b, o + 2, none⟩ = some (.string (bstr t.first))
  last : w.cell? ⟨b, o + 3, none⟩ = some (.string (bstr t.last))
  size : w.cell? ⟨b, o + 4, none⟩ = some (.int .i64 t.size)
theorem TabAt.below {w w' : World} {b o : Nat} {t : Tab} (h : TabAt w b o t) (hb : Below w.heap.size w w') : TabAt w' b o t := ⟨cell_later hb h.file, cell_later hb h.level, cell_later hb h.first, cell_later hb h.last, cell_later hb h.size⟩
theorem tab_box (w : World) (t : Tab) : TabAt (w.alloc (.cells #[.int .i64 t.file, .int .i64 t.level, .string (bstr t.first), .string (bstr t.last), .int .i64 t.size] 39)) w.heap.size 0 t := by
  have h := heap_alloc_new w (.cells #[.int .i64 t.file, .int .i64 t.level, .string (bstr t.first), .string (bstr t.last), .int .i64 t.size] 39)
  exact ⟨(cell_of_row _ _ 0 _ _ _ h).trans rfl, (cell_of_row _ _ 1 _ _ _ h).trans rfl, (cell_of_row _ _ 2 _ _ _ h).trans rfl, (cell_of_row _ _ 3 _ _ _ h).trans rfl, (cell_of_row _ _ 4 _ _ _ h).trans rfl⟩
theorem tab_boxAt {w : World} {k : Nat} (hk : k = w.heap.size) (t : Tab) : TabAt (w.alloc (.cells #[.int .i64 t.file, .int .i64 t.level, .string (bstr t.first), .string (bstr t.last), .int .i64 t.size] 39)) k 0 t := by
  subst hk; exact tab_box w t
theorem TabAt.cells {w : World} {b o : Nat} {t : Tab} (h : TabAt w b o t) : ∀ j v, (tcells t)[j]? = some v → w.cell? ⟨b, o + j, none⟩ = some v := by
  intro j v hj
  match j, hj with
  | 0, hj => cases hj; exact h.file
  | 1, hj => cases hj; exact h.level
  | 2, hj => cases hj; exact h.first
  | 3, hj => cases hj; exact h.last
  | 4, hj => cases hj; exact h.size
  | j + 5, hj => simp [tcells] at hj
/-- A slice of tables that is read. -/
def Ts (w : World) (a : Option Addr) (n c : Nat) (l : List Tab) : Prop := l.length = n ∧ n ≤ c ∧ c ≤ maxLen ∧ Row w a (tv l)
theorem Ts.below {w w' : World} {a : Option Addr} {n c : Nat} {l : List Tab} (h : Ts w a n c l) (hb : Below w.heap.size w w') : Ts w' a n c l := ⟨h.1, h.2.1, h.2.2.1, h.2.2.2.below hb⟩
theorem Ts.le {w : World} {a : Option Addr} {n c : Nat} {l : List Tab} (h : Ts w a n c l) : n ≤ 9223372036854775807 ∧ c ≤ 9223372036854775807 := by
  have := h.2.1; have := h.2.2.1; simp only [maxLen] at *; omega
theorem Ts.nil (w : World) : Ts w none 0 0 [] := ⟨rfl, Nat.le_refl _, by simp [maxLen], Row.nil _ _⟩
theorem Ts.get {w : World} {a : Option Addr} {n c : Nat} {l : List Tab} (h : Ts w a n c l) {i : Nat} (hi : i < n) : ∃ b off, a = some ⟨b, off, none⟩ ∧ TabAt w b (off + i * 5) (nth l i) := by
  have hl := h.1
  have g : ∀ j, j < 5 → (tv l)[i * 5 + j]? = (tcells (nth l i))[j]? := fun j hj => tv_get l i j (by omega) hj
  obtain ⟨b, off, rfl, h0⟩ := h.2.2.2 (i * 5 + 0) _ ((g 0 (by omega)).trans rfl)
  obtain ⟨b1, o1, e1, h1⟩ := h.2.2.2 (i * 5 + 1) _ ((g 1 (by omega)).trans rfl)
  obtain ⟨b2, o2, e2, h2⟩ := h.2.2.2 (i * 5 + 2) _ ((g 2 (by omega)).trans rfl)
  obtain ⟨b3, o3, e3, h3⟩ := h.2.2.2 (i * 5 + 3) _ ((g 3 (by omega)).trans rfl)
  obtain ⟨b4, o4, e4, h4⟩ := h.2.2.2 (i * 5 + 4) _ ((g 4 (by omega)).trans rfl)
  cases e1
  cases e2
  cases e3
  cases e4
  exact ⟨b, off, rfl, h0, h1, h2, h3, h4⟩
theorem Ts.front {w : World} {a : Option Addr} {n c : Nat} {l : List Tab} (h : Ts w a n c l) {k : Nat} (hk : k ≤ n) : Ts w a k c (l.take k) := by
  refine ⟨by rw [List.length_take, h.1]; omega, by have := h.2.1; omega, h.2.2.1, fun j v hj => h.2.2.2 j v ?_⟩
  rw [← List.take_append_drop k l, tv_app, List.getElem?_append_left (List.getElem?_eq_some_iff.1 hj).1]
  exact hj
/-- A row of tables of the call's own. -/
def AccT (w : World) (B : Nat) (a : Option Addr) (n c : Nat) (l : List Tab) : Prop := l.length = n ∧ w.ownsRow B 39 5 (.slice a n c) n (tv l)
theorem AccT.ts {w : World} {B n c : Nat} {a : Option Addr} {l : List Tab} (h : AccT w B a n c l) : Ts w a n c l := by
  obtain ⟨h1, h2⟩ := h
  have h3 := own_cap h2
  exact ⟨h1, h3.2.1, h3.2.2, Row.of_own h2⟩
theorem AccT.below {w w' : World} {B n c : Nat} {a : Option Addr} {l : List Tab} (h : AccT w B a n c l) (hb : Below w.heap.size w w') : AccT w' B a n c l := ⟨h.1, own_below h.2 hb⟩
theorem AccT.mono {w : World} {B B' n c : Nat} {a : Option Addr} {l : List Tab} (h : AccT w B a n c l) (hB : B' ≤ B) : AccT w B' a n c l := ⟨h.1, own_mono h.2 hB⟩
theorem AccT.nil (w : World) (B : Nat) : AccT w B none 0 0 [] := ⟨rfl, World.ownsRow_nil w B _ _⟩
section
variable {w : World} {ops : Array Oper} {rest : List Oper} {o : Oper} {a : Act} {Q : Exit → Act → World → Prop}
/-- append of tables. -/
theorem app_tabs (hgd : Region.wanted o (yielded ops a.tmps) = true) (s x : Operand) (ho : o.op = .call { callee := .builtin .append, args := #[s, x], argTypes := #[29, 29] })
    (B : Nat) {aq : Option Addr} {n c : Nat} {l : List Tab} (hs : a.eval s = .slice aq n c) (hacc : AccT w B aq n c l)
    {ax : Option Addr} {m cx : Nat} {l2 : List Tab} (hx : a.eval x = .slice ax m cx) (hr : Ts w ax m cx l2) (hb : n + m ≤ 1000000000) (hB : B ≤ w.heap.size)
    (h : ∀ a' c' w', AccT w' B a' (n + m) c' (l ++ l2) → Below B w w' → Evol w aq w' a' → wpList Try.prog ops Q rest (a.put o.dst (.slice a' (n + m) c')) w') : wpList Try.prog ops Q (o :: rest) a w := by
  obtain ⟨i, hi, hz, h1, h2⟩ := info_parts infoT
  refine wpList_app_own hgd s x 29 ho B 39 i (.agg #[.int .i64 0, .int .i64 0, .string ByteArray.empty, .string ByteArray.empty, .int .i64 0]) 5 56 Try.underlying29 hi hz h1 h2 rfl (by decide) aq n c (tv l) hs hacc.2 ax m cx (tv l2) hx hr.2.2.2 (by rw [tv_len, hr.1]) (tv_one l2) (by omega) (by simp only [maxLen]; omega) hB ?_
  intro a' c' w' g1 g2
  rw [← tv_app] at g1
  exact h a' c' w' ⟨by rw [List.length_append, hacc.1, hr.1], g1⟩ (g2.below hB (fun x hx => by subst hx; exact (World.ownsRow.lt hacc.2 x.block rfl).1)) g2
end
theorem ts_one {w : World} {k : Nat} {t : Tab} (h : TabAt w k 0 t) : Ts w (some ⟨k, 0, none⟩) 1 1 [t] := by
  refine ⟨rfl, Nat.le_refl _, by simp [maxLen], fun j v hj => ⟨k, 0, rfl, h.cells j v ?_⟩⟩
  simpa [tv] using hj
def EntersT (f : Nat) : Prop := ∀ (args : Array Value) (w : World), (callFunc f args).run Try.prog w = .ok (.enter f args) w
/-- A function that is asked of tables. -/
def PredT (w : World) (f : Nat) (cap : Array Value) (p : Tab → Bool) : Prop :=
  ∀ (V : BW w) (m : Tab), Calls Try.prog f (#[tval m] ++ cap) V.w fun e w' => e = .returned (.bool (p m)) ∧ Below V.w.heap.size V.w w'
/-- Where the first one stands, or -1. -/
def idxT (p : Tab → Bool) (l : List Tab) : Int := if l.findIdx p < l.length then (l.findIdx p : Nat) else -1
theorem idxT_at {p : Tab → Bool} {l : List Tab} {k : Nat} (hk : k < l.length) (hp : p (nth l k) = true) (hlo : ∀ j, j < k → p (nth l j) = false) : idxT p l = (k : Nat) := by
  have h : l.findIdx p = k := by
    rw [List.findIdx_eq hk]
    exact ⟨by rw [← nth_eq _ hk]; exact hp, fun j hj => by rw [← nth_eq _ (by omega)]; exact hlo j hj⟩
  unfold idxT
  rw [h, if_pos hk]
theorem idxT_no {p : Tab → Bool} {l : List Tab} (hlo : ∀ j, j < l.length → p (nth l j) = false) : idxT p l = -1 := by
  have h : l.findIdx p = l.length := by
    rw [List.findIdx_eq_length]
    intro x hx
    obtain ⟨i, hi, rfl⟩ := List.mem_iff_getElem.1 hx
    rw [← nth_eq _ hi]
    exact hlo i hi
  unfold idxT
  rw [h, if_neg (by omega)]
theorem idxT_any (p : Tab → Bool) (l : List Tab) : decide (0 ≤ idxT p l) = l.any p := by
  unfold idxT
  by_cases h : l.findIdx p < l.length
  · rw [if_pos h, decide_eq_true (by omega)]
    exact (List.any_eq_true.2 (List.findIdx_lt_length.1 h)).symm
  · rw [if_neg h]
    have h2 : l.any p = false := by
      rw [List.any_eq_false]
      intro x hx hp
      exact h (List.findIdx_lt_length.2 ⟨x, hx, hp⟩)
    rw [h2]
    rfl
set_option maxHeartbeats 1000000 in
theorem idxt_any (f : Nat) (cap : Array Value) (a : Option Addr) (n c : Nat) (l : List Tab) (p : Tab → Bool) (w : World) (eg : EntersT f) (h : Ts w a n c l) (hp : PredT w f cap p) :
    Calls Try.prog 47 #[.slice a n c, .func (.func f) #[] cap] w fun e w' => e = .returned (.int .i64 (idxT p l)) ∧ Below w.heap.size w w' := by
  have eg' : ∀ (args : Array Value) (w : World), (callFunc f args).run Try.prog w = .ok (.enter f args) w := eg
  have hle := h.le.1
  have HN := Lib.hid h.1
  have HP := Lib.hid hp
  have HR := Lib.hid h
  clear hp h
  go_enter Try.func47, Try.ntmps47
  go_wp2
  go_loopw [8] (fun i wr => ∃ k : Nat, k ≤ n ∧ i = .int .i64 k ∧ Hid (Below w.heap.size w wr) ∧ Hid (∀ j, j < k → p (nth l j) = false)) (fun i _ => n - (intOf i).toNat)
  case atStart => exact ⟨0, by omega, rfl, Lib.hid (Below.refl _ _), Lib.hid (fun j hj => by omega)⟩
  case round =>
    obtain ⟨k, hk, rfl, hb, hall⟩ := hrel
    by_cases hlt : k < n
    · obtain ⟨b, off, rfl, hc⟩ := (HR.out.below hb.out).get hlt
      have HAT : Hid (p (nth l k) = true → idxT p l = (k : Nat)) := Lib.hid fun h => idxT_at (by rw [HN.out]; exact hlt) h hall.out
      have HNO : Hid (p (nth l k) = false → ∀ j, j < k + 1 → p (nth l j) = false) := Lib.hid fun h j hj => by
        by_cases e : j = k
        · rw [e]; exact h
        · exact hall.out j (by omega)
      have HC := Lib.hid (HP.out ⟨wr, hb.out⟩ (nth l k))
      have c1 := hc.file
      have c2 := hc.level
      have c3 := hc.first
      have c4 := hc.last
      have c5 := hc.size
      clear hc
      generalize nth l k = m at *
      obtain ⟨t, ht⟩ : ∃ t, t = p m := ⟨_, rfl⟩
      rw [← ht] at HAT HNO HC
      have HC2 := HC.out
      unfold tval at HC2
      clear ht HC
      have HC := Lib.hid HC2
      clear HC2
      cases t with
      | true =>
        have HV := Lib.hid (HAT.out rfl)
        clear HAT HNO
        go_wp2_with fail
        refine HC.out.mono ?_
        rintro e w' ⟨rfl, hb'⟩
        have HB := Lib.hid (hb.out.trans (hb'.mono hb.out.size))
        clear hb'
        go_wp2
        go_ret
        exact ⟨by rw [HV.out]; rfl, HB.out⟩
      | false =>
        have HV := Lib.hid (HNO.out rfl)
        clear HAT HNO
        go_wp2_with fail
        refine HC.out.mono ?_
        rintro e w' ⟨rfl, hb'⟩
        have HB := Lib.hid (hb.out.trans (hb'.mono hb.out.size))
        clear hb'
        go_wp2
        go_roundw
        case rel => exact ⟨k + 1, by omega, by go_num, HB, HV⟩
        case measure => simp [intOf]; omega
    · obtain rfl : k = n := by omega
      have HV : Hid (idxT p l = -1) := Lib.hid (idxT_no (by rw [HN.out]; exact hall.out))
      go_wp2
      go_ret
      exact ⟨by rw [HV.out]; rfl, hb.out⟩
end Go.Proofs.Ytlipgaefflecaaa
end
