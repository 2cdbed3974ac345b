/- merge.together. -/
import Derived.Test.YtfcfipoldkjloaaCgU
import Derived.Test.YtfcfipoldkjloaaCgL
set_option maxRecDepth 100000
set_option linter.unusedSimpArgs false
namespace Go.Proofs.Ytfcfipoldkjloaa
open Go.RowKit
set_option linter.unusedVariables false

def slen : Value → Nat
  | .slice _ n _ => n
  | _ => 0
@[go_sem] theorem slen_slice (a : Option Addr) (n c : Nat) : slen (.slice a n c) = n := rfl
/-- Which list's head is the least of those up to i. -/
def BestAt (L : List (List Ent)) (i : Nat) : Option Nat → Prop
  | none => ∀ j, j < i → nth L j = []
  | some b => b < i ∧ ∃ e r, nth L b = e :: r ∧ (∀ j, j < b → ∀ x ∈ nth L j, Ent.lt e x) ∧ (∀ j, b < j → j < i → Ent.Behind e (nth L j))
def bestI : Option Nat → Int
  | none => -1
  | some b => (b : Int)
theorem best_zero (L : List (List Ent)) : BestAt L 0 none := fun j h => by omega
theorem best_empty {L : List (List Ent)} {i : Nat} {o : Option Nat} (h : BestAt L i o) (he : nth L i = []) : BestAt L (i + 1) o := by
  cases o with
  | none => intro j hj; by_cases e : j = i
            · rw [e]; exact he
            · exact h j (by omega)
  | some b =>
    obtain ⟨h1, e, r, h2, h3, h4⟩ := h
    refine ⟨by omega, e, r, h2, h3, fun j hj hj2 => ?_⟩
    by_cases k : j = i
    · rw [k, he]; exact fun x hx => by cases hx
    · exact h4 j hj (by omega)
theorem best_first {L : List (List Ent)} {i : Nat} (h : BestAt L i none) {x : Ent} {r : List Ent} (he : nth L i = x :: r) : BestAt L (i + 1) (some i) :=
  ⟨by omega, x, r, he, fun j hj y hy => (by rw [h j hj] at hy; cases hy), fun j h1 h2 => by omega⟩
theorem head_behind {x : Ent} {r : List Ent} (hs : (x :: r).Pairwise Ent.lt) {e : Ent} (h : Ent.lt e x ∨ Ent.eqv e x) : Ent.Behind e (x :: r) := by
  intro y hy
  rw [List.pairwise_cons] at hs
  rcases List.mem_cons.1 hy with k | k
  · rw [k]; exact h
  · rcases h with h | h
    · exact .inl (Ent.lt_trans h (hs.1 y k))
    · exact .inl (Ent.eqv_lt h (hs.1 y k))
theorem best_less {L : List (List Ent)} {i b : Nat} (h : BestAt L i (some b)) {x : Ent} {r : List Ent} (he : nth L i = x :: r) (hs : ∀ j, j < i → (nth L j).Pairwise Ent.lt) (hlt : ∀ e q, nth L b = e :: q → Ent.lt x e) : BestAt L (i + 1) (some i) := by
  obtain ⟨h1, e, q, h2, h3, h4⟩ := h
  have hxe := hlt e q h2
  refine ⟨by omega, x, r, he, fun j hj y hy => ?_, fun j g1 g2 => by omega⟩
  rcases Nat.lt_trichotomy j b with k | k | k
  · exact Ent.lt_trans hxe (h3 j k y hy)
  · subst k
    rw [h2] at hy
    have hs' := hs j hj
    rw [h2, List.pairwise_cons] at hs'
    rcases List.mem_cons.1 hy with g | g
    · rw [g]; exact hxe
    · exact Ent.lt_trans hxe (hs'.1 y g)
  · rcases h4 j k hj y hy with g | g
    · exact Ent.lt_trans hxe g
    · exact Ent.lt_eqv hxe g
theorem best_more {L : List (List Ent)} {i b : Nat} (h : BestAt L i (some b)) {x : Ent} {r : List Ent} (he : nth L i = x :: r) (hs : (nth L i).Pairwise Ent.lt) (hlt : ∀ e q, nth L b = e :: q → ¬ Ent.lt x e) : BestAt L (i + 1) (some b) := by
  obtain ⟨h1, e, q, h2, h3, h4⟩ := h
  refine ⟨by omega, e, q, h2, h3, fun j hj hj2 => ?_⟩
  by_cases k : j = i
  · rw [k, he]
    rw [he] at hs
    refine head_behind hs ?_
    have := hlt e q h2
    rcases Ent.tri e x with g | g | g
    · exact .inl g
    · exact .inr g
    · exact absurd g this
  · exact h4 j hj (by omega)
theorem nth_split {L : List (List Ent)} {b : Nat} (hb : b < L.length) : L = L.take b ++ nth L b :: L.drop (b + 1) := by
  rw [nth_eq _ hb]
  have := List.take_append_drop b L
  rw [List.drop_eq_getElem_cons hb] at this
  exact this.symm
theorem nth_take_mem {L : List (List Ent)} {b : Nat} {l : List Ent} (h : l ∈ L.take b) : ∃ j, j < b ∧ j < L.length ∧ l = nth L j := by
  obtain ⟨j, hj, rfl⟩ := List.getElem_of_mem h
  simp only [List.length_take] at hj
  exact ⟨j, by omega, by omega, by rw [nth_eq _ (by omega)]; simp⟩
theorem nth_drop_mem {L : List (List Ent)} {b : Nat} {l : List Ent} (h : l ∈ L.drop b) : ∃ j, b ≤ j ∧ j < L.length ∧ l = nth L j := by
  obtain ⟨j, hj, rfl⟩ := List.getElem_of_mem h
  simp only [List.length_drop] at hj
  exact ⟨b + j, by omega, by omega, by rw [nth_eq _ (by omega)]; simp⟩
theorem nth_mem {L : List (List Ent)} {j : Nat} (h : j < L.length) : nth L j ∈ L := by rw [nth_eq _ h]; exact List.getElem_mem _
theorem best_merge {L : List (List Ent)} {b : Nat} (h : BestAt L L.length (some b)) (hs : ∀ l ∈ L, l.Pairwise Ent.lt) {e : Ent} {r : List Ent} (he : nth L b = e :: r) : Ent.mergeL L = e :: Ent.mergeL (L.map (Ent.dropEq e)) := by
  obtain ⟨h1, e', r', h2, h3, h4⟩ := h
  rw [he] at h2
  cases h2
  have hsp := nth_split h1
  rw [he] at hsp
  rw [hsp]
  refine Ent.merge_take (by rw [← hsp]; exact hs) (fun l hl x hx => ?_) (fun l hl => ?_)
  · obtain ⟨j, hj, _, rfl⟩ := nth_take_mem hl
    exact h3 j hj x hx
  · obtain ⟨j, hj, hj2, rfl⟩ := nth_drop_mem hl
    exact h4 j (by omega) hj2
theorem best_none {L : List (List Ent)} (h : BestAt L L.length none) : Ent.mergeL L = [] :=
  Ent.merge_none fun l hl => by
    obtain ⟨j, hj, rfl⟩ := List.getElem_of_mem hl
    rw [← nth_eq _ hj]
    exact h j hj
/-- The lists while they are cut. -/
def cutTo (e : Ent) (L : List (List Ent)) (i : Nat) : List (List Ent) := (L.take i).map (Ent.dropEq e) ++ L.drop i
theorem cutTo_zero (e : Ent) (L : List (List Ent)) : cutTo e L 0 = L := by simp [cutTo]
theorem cutTo_all (e : Ent) (L : List (List Ent)) : cutTo e L L.length = L.map (Ent.dropEq e) := by simp [cutTo]
theorem cutTo_len (e : Ent) (L : List (List Ent)) {i : Nat} (h : i ≤ L.length) : (cutTo e L i).length = L.length := by simp [cutTo]; omega
theorem cutTo_at (e : Ent) (L : List (List Ent)) {i : Nat} (h : i < L.length) : nth (cutTo e L i) i = nth L i := by
  unfold cutTo
  rw [nth_eq _ (by simp; omega), List.getElem_append_right (by simp; omega), nth_eq _ h]
  simp [Nat.min_eq_left (Nat.le_of_lt h)]
theorem cutTo_succ (e : Ent) (L : List (List Ent)) {i : Nat} (h : i < L.length) : (cutTo e L i).set i (Ent.dropEq e (nth L i)) = cutTo e L (i + 1) := by
  unfold cutTo
  rw [List.set_append, if_neg (by simp; omega), List.take_succ_eq_append_getElem h, List.map_append, List.drop_eq_getElem_cons h]
  simp [Nat.min_eq_left (Nat.le_of_lt h), nth_eq _ h]
  rw [List.drop_eq_getElem_cons h]
  rfl
theorem dropEq_done {e : Ent} {l : List Ent} (h : ∀ x r, l = x :: r → ¬ Ent.eqv x e) : Ent.dropEq e l = l := by
  cases l with
  | nil => rfl
  | cons x r => rw [Ent.dropEq_cons, if_neg (h x r rfl)]
theorem EntAt.evol {w w' : World} {b o : Nat} {e : Ent} {a ao ao' : Option Addr} {c : Nat} (h : EntAt w b o e a c) (k : Evol w ao w' ao') (hne : some b ≠ ao.map (·.block)) : EntAt w' b o e a c :=
  ⟨k.1.cell h.key hne, k.1.cell h.seq hne, k.1.cell h.gone hne, k.1.cell h.val hne⟩
/-- While the lists are cut. -/
structure Cut (w0 w : World) (g n c Be : Nat) (e : Ent) (a2 : Option Addr) (d2 : Nat) (ao : Option Addr) (m co : Nat) (lo : List Ent) (L : List (List Ent)) (j : Nat) (wr : World) : Prop where
  acc : AccE wr w0.heap.size ao m co lo
  lr : LR w0 wr (some ⟨g, 0, none⟩) n c (cutTo e L j)
  ent : EntAt wr Be 0 e a2 d2
  bel : Below w0.heap.size w wr
theorem Cut.below {w0 w wr wr' : World} {g n c Be : Nat} {e : Ent} {a2 : Option Addr} {d2 : Nat} {ao : Option Addr} {m co : Nat} {lo : List Ent} {L : List (List Ent)} {j : Nat} (h : Cut w0 w g n c Be e a2 d2 ao m co lo L j wr) (hb : Below wr.heap.size wr wr') (h0 : w0.heap.size ≤ w.heap.size) : Cut w0 w g n c Be e a2 d2 ao m co lo L j wr' :=
  ⟨h.acc.below hb, h.lr.below hb, h.ent.below hb, h.bel.trans (hb.mono (Nat.le_trans h0 h.bel.size))⟩
theorem Cut.next {w0 w wr : World} {g n c Be : Nat} {e : Ent} {a2 : Option Addr} {d2 : Nat} {ao : Option Addr} {m co : Nat} {lo : List Ent} {L : List (List Ent)} {j : Nat} (h : Cut w0 w g n c Be e a2 d2 ao m co lo L j wr) (hj : j < n) (hL : L.length = n) (hg : w0.heap.size ≤ g) (hne : Be ≠ g)
    {q : Option Addr} {x y : Nat} (hp : wr.cell? ⟨g, j, none⟩ = some (.slice q x y)) {ar : Option Addr} {nr cr : Nat} {rest : List Ent} (hr : Es w0 ar nr cr rest) (hd : rest = Ent.dropEq e (nth L j)) :
    Cut w0 w g n c Be e a2 d2 ao m co lo L (j + 1) (wr.setCell ⟨g, j, none⟩ (.slice ar nr cr)) :=
  ⟨h.acc.setAt h.lr hp, by rw [← cutTo_succ e L (by rw [hL]; exact hj), ← hd]; exact h.lr.set hj hr, h.ent.setAt hne, h.bel.setCell (p := ⟨g, j, none⟩) hg _⟩
/-- Entries of the call's own are told; what lay below B is as it was. -/
def RetL (B : Nat) (l : List Ent) (w : World) (e : Ending) (w' : World) : Prop := ∃ a n c, e = .returned (.slice a n c) ∧ AccE w' B a n c l ∧ Below B w w'
set_option maxRecDepth 100000 in
set_option maxHeartbeats 16000000 in
theorem together_any (w0 : World) (a : Option Addr) (n c : Nat) (L0 : List (List Ent)) (w : World) (hB0 : Below w0.heap.size w0 w) (h : LR w0 w a n c L0) (hs : ∀ l ∈ L0, l.Pairwise Ent.lt) (hn : n ≤ 1000000) (hv : ∀ l ∈ L0, ∀ e ∈ l, e.val.length ≤ 1000000000) (ht : (Ent.mergeL L0).length ≤ 900000000) :
    Calls Try.prog 46 #[.slice a n c] w (RetL w0.heap.size (Ent.mergeL L0) w) := by
  have hc := h.cap
  have HC : Hid (c ≤ 9223372036854775807) := Lib.hid (by have := hc.2; simp only [maxLen] at this; omega)
  have HT := Lib.hid ht
  have H0 := Lib.hid h
  have HS := Lib.hid hs
  have HV := Lib.hid hv
  have HB0 := Lib.hid hB0
  clear hc ht h hs hv hB0
  go_enter Try.func46, Try.ntmps46
  go_wp2_with fail
  go_loopw [3] (fun o wr => ∃ (m co : Nat) (ao : Option Addr) (lo : List Ent) (L : List (List Ent)), o = .slice ao m co ∧ AccE wr w0.heap.size ao m co lo ∧ LR w0 wr a n c L ∧ Below w0.heap.size w wr ∧ Hid (lo ++ Ent.mergeL L = Ent.mergeL L0) ∧ Hid ((∀ l ∈ L, l.Pairwise Ent.lt) ∧ ∀ l ∈ L, ∀ e ∈ l, e.val.length ≤ 1000000000)) (fun o _ => (Ent.mergeL L0).length - slen o)
  case atStart => exact ⟨0, 0, none, [], L0, rfl, AccE.nil _ _, H0.out, Below.refl _ _, Lib.hid rfl, Lib.hid ⟨HS.out, HV.out⟩⟩
  case round =>
    clear H0 HS HV
    obtain ⟨wo, rfl⟩ : ∃ wo, wo = wr := ⟨_, rfl⟩
    obtain ⟨m, co, ao, lo, L, rfl, hac, hlr, hb, hto, hsv⟩ := hrel
    have HAC := Lib.hid hac
    have HLR := Lib.hid hlr
    have HB := Lib.hid hb
    have HLEN := Lib.hid hlr.len
    clear hac hlr hb
    go_wp2_with fail
    go_loopw [4, 12] (fun bv i wi => ∃ (j : Nat) (o : Option Nat), j ≤ n ∧ bv = .int .i64 (bestI o) ∧ i = .int .i64 j ∧ Below wo.heap.size wo wi ∧ Hid (BestAt L j o)) (fun _ i _ => n - (intOf i).toNat)
    case atStart => exact ⟨0, none, Nat.zero_le _, rfl, rfl, Below.refl _ _, Lib.hid (best_zero L)⟩
    case round =>
      obtain ⟨j, o, hj, rfl, rfl, hbi, hbest⟩ := hrel
      by_cases hlt : j < n
      · obtain ⟨g, ai, ni, ci, rfl, hci, hfi, hg0, hg1, hei⟩ := (HLR.out.below hbi).get hlt
        have hbw : Below w0.heap.size w0 wr := HB0.out.trans (HB.out.trans (hbi.mono (Nat.le_trans HB0.out.size HB.out.size)))
        have hes := hei.below hbw
        have hni := hes.le.1
        have HBI := Lib.hid hbi
        have HBW := Lib.hid hbw
        cases hL : nth L j with
        | nil =>
          have h0 : ni = 0 := by rw [← hes.1, hL]; rfl
          subst h0
          have HNB := Lib.hid (best_empty hbest.out hL)
          have t1 : decide ((0 : Nat) < 0) = false := rfl
          clear hes hL hbi hbw hei
          go_wp2_with fail
          refine wp_region_class (by kernel_rfl) (by kernel_rfl) (Below.refl _ _) ?_
          repeat (first | go_big_quiet_step (fail))
          refine wpQuiet_nil ?_
          intro w7 hb7; replace hb7 := BW.of hb7
          have HB7 := Lib.hid (HBI.out.trans (hb7.mono HBI.out.size))
          clear hb7
          go_wp2
          go_roundw
          case rel => exact ⟨j + 1, o, by omega, rfl, by go_num, HB7.out, HNB.out⟩
          case measure => simp [intOf]; omega
        | cons x r =>
          have hn0 : 0 < ni := by rw [← hes.1, hL]; simp
          have t1 : decide (0 < ni) = true := decide_eq_true hn0
          obtain ⟨b1, o1, a1, d1, rfl, he1, hv1⟩ := hes.vals hn0
          rw [hL] at he1 hv1
          have e0 : nth (x :: r) 0 = x := rfl
          rw [e0] at he1 hv1
          have p1 := he1.key
          have p2 := he1.seq
          have p3 := he1.gone
          have p4 := he1.val
          simp only [Nat.zero_mul, Nat.add_zero] at p1 p2 p3 p4
          have HL := Lib.hid hL
          clear he1 hv1 hes hL hbi hbw hei e0
          cases o with
          | none =>
            have HNB := Lib.hid (best_first hbest.out HL.out)
            have t2 : decide ((-1 : Int) < 0) = true := rfl
            simp only [bestI]
            go_wp2_with fail
            refine wp_region_class (by kernel_rfl) (by kernel_rfl) (Below.refl _ _) ?_
            repeat (first | go_big_quiet_step (fail))
            refine wpQuiet_nil ?_
            intro w7 hb7; replace hb7 := BW.of hb7
            have HB7 := Lib.hid (HBI.out.trans (hb7.mono HBI.out.size))
            clear hb7 p1 p2 p3 p4
            go_wp2
            go_roundw
            case rel => exact ⟨j + 1, some j, by omega, rfl, by go_num, HB7.out, HNB.out⟩
            case measure => simp [intOf]; omega
          | some b =>
            have t2 : decide ((b : Int) < 0) = false := decide_eq_false (by omega)
            simp only [bestI]
            obtain ⟨hbj, e, q, hLb, hl1, hl2⟩ := hbest.out
            obtain ⟨g', ab, nb, cb, eg, hcb, _, _, _, heb⟩ := (HLR.out.below HBI.out).get (i := b) (by omega)
            cases eg
            have heb' := heb.below HBW.out
            have hnb : 0 < nb := by rw [← heb'.1, hLb]; simp
            obtain ⟨b2, o2, a2, d2, rfl, he2, hv2⟩ := heb'.vals hnb
            rw [hLb] at he2 hv2
            have e0 : nth (e :: q) 0 = e := rfl
            rw [e0] at he2 hv2
            have q1 := he2.key
            have q2 := he2.seq
            have q3 := he2.gone
            have q4 := he2.val
            simp only [Nat.zero_mul, Nat.add_zero] at q1 q2 q3 q4
            have HC0 := Lib.hid (fun V : World => cmp_any x e a1 a2 d1 d2 V)
            have hbn : b < n := by omega
            by_cases hc : Ent.cmp x e = -1
            · have HNB := Lib.hid (best_less hbest.out HL.out (fun k hk => hsv.out.1 _ (nth_mem (by rw [HLEN.out]; omega))) (fun e' q' hq => by rw [hLb] at hq; cases hq; exact Ent.cmp_lt.1 hc))
              have t3 : decide (Ent.cmp x e < 0) = true := by rw [cmp_neg]; exact decide_eq_true hc
              clear hc hLb hl1 hl2 he2 hv2 heb heb' e0
              generalize Ent.cmp x e = cm at *
              go_wp2_with fail
              refine wp_region_class (by kernel_rfl) (by kernel_rfl) (Below.refl _ _) ?_
              have m1 := BW.cell p1
              have m2 := BW.cell p2
              have m3 := BW.cell p3
              have m4 := BW.cell p4
              have n1 := BW.cell q1
              have n2 := BW.cell q2
              have n3 := BW.cell q3
              have n4 := BW.cell q4
              have n5 := BW.cell hcb
              repeat (first | go_big_quiet_step ((go_at_call 67; exact calls_class (HC0.out _))))
              refine wpQuiet_nil ?_
              intro w7 hb7; replace hb7 := BW.of hb7
              have HB7 := Lib.hid (HBI.out.trans (hb7.mono HBI.out.size))
              clear hb7 p1 p2 p3 p4 q1 q2 q3 q4 hcb m1 m2 m3 m4 n1 n2 n3 n4 n5
              go_wp2
              go_roundw
              case rel => exact ⟨j + 1, some j, by omega, rfl, by go_num, HB7.out, HNB.out⟩
              case measure => simp [intOf]; omega
            · have HNB := Lib.hid (best_more hbest.out HL.out (hsv.out.1 _ (nth_mem (by rw [HLEN.out]; omega))) (fun e' q' hq => by rw [hLb] at hq; cases hq; exact fun k => hc (Ent.cmp_lt.2 k)))
              have t3 : decide (Ent.cmp x e < 0) = false := by rw [cmp_neg]; exact decide_eq_false hc
              clear hc hLb hl1 hl2 he2 hv2 heb heb' e0
              generalize Ent.cmp x e = cm at *
              go_wp2_with fail
              refine wp_region_class (by kernel_rfl) (by kernel_rfl) (Below.refl _ _) ?_
              have m1 := BW.cell p1
              have m2 := BW.cell p2
              have m3 := BW.cell p3
              have m4 := BW.cell p4
              have n1 := BW.cell q1
              have n2 := BW.cell q2
              have n3 := BW.cell q3
              have n4 := BW.cell q4
              have n5 := BW.cell hcb
              repeat (first | go_big_quiet_step ((go_at_call 67; exact calls_class (HC0.out _))))
              refine wpQuiet_nil ?_
              intro w7 hb7; replace hb7 := BW.of hb7
              have HB7 := Lib.hid (HBI.out.trans (hb7.mono HBI.out.size))
              clear hb7 p1 p2 p3 p4 q1 q2 q3 q4 hcb m1 m2 m3 m4 n1 n2 n3 n4 n5
              go_wp2
              go_roundw
              case rel => exact ⟨j + 1, some b, by omega, rfl, by go_num, HB7.out, HNB.out⟩
              case measure => simp [intOf]; omega
      · obtain rfl : n = j := by omega
        have HBI := Lib.hid hbi
        have HBW := Lib.hid (HB0.out.trans (HB.out.trans (hbi.mono (Nat.le_trans HB0.out.size HB.out.size))))
        have hbest' := hbest.out
        rw [← HLEN.out] at hbest'
        cases o with
        | none =>
          have hm0 := best_none hbest'
          have HP : Hid (RetL w0.heap.size (Ent.mergeL L0) w (.returned (.slice ao m co)) wr) := Lib.hid ⟨ao, m, co, rfl, by
            have := hto.out
            rw [hm0, List.append_nil] at this
            rw [← this]
            exact HAC.out.below hbi, HB.out.trans (hbi.mono (Nat.le_trans HB0.out.size HB.out.size))⟩
          clear hm0 hbest' hbi
          simp only [bestI]
          go_wp2
          go_ret
          exact HP.out
        | some b =>
          have hbest2 := hbest'
          obtain ⟨hbj, e, q, hLb, _, _⟩ := hbest2
          have HBM := Lib.hid (best_merge hbest' hsv.out.1 hLb)
          rw [HLEN.out] at hbj
          obtain ⟨g, ab, nb, cb, rfl, hcb, _, hg0, hg1, heb⟩ := HLR.out.get hbj
          have hcb2 := cell_later hbi hcb
          have heb' := heb.below HBW.out
          have hnb : 0 < nb := by rw [← heb'.1, hLb]; simp
          obtain ⟨b2, o2, a2, d2, rfl, he2, hv2⟩ := heb'.vals hnb
          rw [hLb] at he2 hv2
          have e0 : nth (e :: q) 0 = e := rfl
          rw [e0] at he2 hv2
          have q1 := he2.key
          have q2 := he2.seq
          have q3 := he2.gone
          have q4 := he2.val
          simp only [Nat.zero_mul, Nat.add_zero] at q1 q2 q3 q4
          have hel : e.val.length ≤ 1000000000 := hsv.out.2 _ (nth_mem (by rw [HLEN.out]; exact hbj)) e (by rw [hLb]; simp)
          have hml : m < (Ent.mergeL L0).length := by
            rw [← hto.out, HBM.out, List.length_append, HAC.out.len]; simp
          have HML := Lib.hid hml
          have HV2 := Lib.hid hv2
          have HLB := Lib.hid hLb
          have hbx := load_box wr e a2 d2
          have hA := below_alloc1 wr (.cells #[.string (bstr e.key), .int .u64 e.seq, .bool e.gone, .slice a2 e.val.length d2] 33)
          have HBX := Lib.hid hbx
          have HA := Lib.hid hA
          have HG := Lib.hid (And.intro hg0 hg1)
          clear he2 hv2 heb' heb hLb e0 hbest' hbi hcb hbx hA hg0 hg1
          simp only [bestI]
          go_wp2_with fail
          obtain ⟨W1, hW1⟩ : ∃ W1, wr.alloc (.cells #[.string (bstr e.key), .int .u64 e.seq, .bool e.gone, .slice a2 e.val.length d2] 33) = W1 := ⟨_, rfl⟩
          rw [hW1] at HBX HA ⊢
          have hz1 : wr.heap.size < W1.heap.size := by rw [← hW1]; simp
          have hz2 : wo.heap.size ≤ wr.heap.size := HBI.out.size
          have hz3 : w0.heap.size ≤ wo.heap.size := Nat.le_trans HB0.out.size HB.out.size
          clear hW1 q1 q2 q3 q4
          refine (apart_any e a2 d2 W1 (HV2.out.below HA.out) hel).mono ?_
          rintro en w3 ⟨a3, c3, rfl, ho3, hb3⟩
          simp only [ev]
          have HO3 := Lib.hid ho3
          have HB3 := Lib.hid hb3
          have HW3 := Lib.hid (HBI.out.trans ((HA.out.trans (hb3.mono HA.out.size)).mono HBI.out.size))
          have hz4 : W1.heap.size ≤ w3.heap.size := hb3.size
          have hkl : m ≤ 900000000 := by have := HML.out; have := HT.out; omega
          clear ho3 hb3
          go_wp2_with (at_builtin; refine app_ent rfl _ _ rfl w0.heap.size rfl ((HAC.out.below HW3.out).below (below_alloc1 w3 _)) rfl (load_box w3 _ _ _) (HO3.out.bs.below (below_alloc1 w3 _)) (fun _ x y hx hy e => by have h1 := (HO3.out.new x hx).1; have h2 := (HAC.out.new y hy).2; omega) (by omega) (le_alloc (by omega)) ?_; intro a4 c4 w4 h4 hb4 hev4; have H4 := Lib.hid h4; have HB4 := Lib.hid hb4; have HEV4 := Lib.hid hev4; clear h4 hb4 hev4)
          have hA3 := (HAC.out.below HW3.out).below (below_alloc1 w3 (.cells #[.string (bstr e.key), .int .u64 e.seq, .bool e.gone, .slice a3 e.val.length c3] 33))
          have hCut : Cut w0 w g n c wr.heap.size e a2 d2 a4 (m + 1) c4 (lo ++ [e]) L 0 w4 := by
            refine ⟨H4.out, by rw [cutTo_zero]; exact ((HLR.out.below HW3.out).below (below_alloc1 w3 _)).evol hA3 HEV4.out, ((HBX.out.below HB3.out).below (below_alloc1 w3 _)).evol HEV4.out ?_, HB.out.trans (((HW3.out.mono hz3).trans ((below_alloc1 w3 _).mono (by omega))).trans HB4.out)⟩
            intro k
            cases ao with
            | none => cases k
            | some x =>
              have h1 := (HAC.out.new x rfl).2
              have h2 : wr.heap.size = x.block := by simpa using k
              omega
          have HCUT := Lib.hid hCut
          have hge : wr.heap.size ≠ g := by have := HG.out.2; omega
          have hge' : w0.heap.size ≤ g := HG.out.1
          have hww : w0.heap.size ≤ w.heap.size := HB0.out.size
          clear hA3 hCut HB4 H4 HEV4 HO3 HW3 HB3 HBX HA HV2 HAC HLR hz1 hz2 hz3 hz4 hkl hel hml
          obtain ⟨Be, hBe⟩ : ∃ Be, Be = wr.heap.size := ⟨_, rfl⟩
          rw [← hBe] at HCUT hge ⊢
          clear hBe
          go_loopw [55] (fun i wi => ∃ k : Nat, k ≤ n ∧ i = .int .i64 k ∧ Cut w0 w g n c Be e a2 d2 a4 (m + 1) c4 (lo ++ [e]) L k wi) (fun i _ => n - (intOf i).toNat)
          case atStart => exact ⟨0, Nat.zero_le _, rfl, HCUT.out⟩
          case round =>
            clear HCUT
            obtain ⟨wc, rfl⟩ : ∃ wc, wc = wr := ⟨_, rfl⟩
            obtain ⟨k, hk, rfl, hcut⟩ := hrel
            by_cases hlt : k < n
            · obtain ⟨g', ai, ni, ci, eg, hci, hfi, _, _, hei⟩ := hcut.lr.get hlt
              cases eg
              rw [cutTo_at e L (by rw [HLEN.out]; exact hlt)] at hei
              have HCUT := Lib.hid hcut
              have HEI := Lib.hid hei
              clear hcut hei
              go_wp2_with fail
              go_loopw [9] (fun v wi => ∃ (rest : List Ent) (ar : Option Addr) (nr cr : Nat), v = .slice ar nr cr ∧ Es w0 ar nr cr rest ∧ Below wc.heap.size wc wi ∧ Hid (Ent.dropEq e rest = Ent.dropEq e (nth L k))) (fun v _ => slen v)
              case atStart => exact ⟨nth L k, ai, ni, ci, rfl, HEI.out, Below.refl _ _, Lib.hid rfl⟩
              case round =>
                obtain ⟨rest, ar, nr, cr, rfl, her, hbr, hdr⟩ := hrel
                have hcr := HCUT.out.below hbr hww
                have hes := her.below (HB0.out.trans hcr.bel)
                have hnr := hes.le
                have HBR := Lib.hid hbr
                have k1 := hcr.ent.key
                have k2 := hcr.ent.seq
                have k3 := hcr.ent.gone
                have k4 := hcr.ent.val
                have HER := Lib.hid her
                cases rest with
                | nil =>
                  have h0 : nr = 0 := by rw [← hes.1]; rfl
                  subst h0
                  have t1 : decide ((0 : Nat) < 0) = false := rfl
                  have hci' := cell_later hbr hci
                  have HDR := Lib.hid hdr.out
                  clear hes hbr her hcr hnr
                  go_wp2_with fail
                  refine wp_region_class (by kernel_rfl) (by kernel_rfl) (Below.refl _ _) ?_
                  repeat (first | go_big_quiet_step (fail))
                  refine wpQuiet_nil ?_
                  intro w7 hb7; replace hb7 := BW.of hb7
                  have hbc7 := HBR.out.trans (hb7.mono HBR.out.size)
                  have hc7 := HCUT.out.below hbc7 hww
                  obtain ⟨g7, a7, n7, c7, e7, hci7, hfi7, _, _, _⟩ := hc7.lr.get hlt
                  cases e7
                  have HNX := Lib.hid (hc7.next hlt HLEN.out hge' hge hci7 HER.out (by rw [← HDR.out]; rfl))
                  clear hc7 hbc7 hb7 hci' k1 k2 k3 k4
                  go_wp2
                  go_roundw
                  case rel => exact ⟨k + 1, by omega, by go_num, HNX.out⟩
                  case measure => simp [intOf]; omega
                | cons x r =>
                  have hn0 : 0 < nr := by rw [← hes.1]; simp
                  have t1 : decide (0 < nr) = true := decide_eq_true hn0
                  obtain ⟨b1, o1, a1, d1, rfl, he1, hv1⟩ := hes.vals hn0
                  have e0 : nth (x :: r) 0 = x := rfl
                  rw [e0] at he1 hv1
                  have p1 := he1.key
                  have p2 := he1.seq
                  have p3 := he1.gone
                  have p4 := he1.val
                  simp only [Nat.zero_mul, Nat.add_zero] at p1 p2 p3 p4
                  have HC0 := Lib.hid (fun V : World => cmp_any x e a1 a2 d1 d2 V)
                  have HDR := Lib.hid hdr.out
                  clear he1 hv1 hes hbr her hcr e0
                  by_cases hc : Ent.cmp x e = 0
                  · have t3 : ((Ent.cmp x e : Int) == 0) = true := by rw [hc]; rfl
                    have HD2 : Hid (Ent.dropEq e r = Ent.dropEq e (nth L k)) := Lib.hid (by rw [← HDR.out, Ent.dropEq_cons, if_pos (Ent.cmp_eq.1 hc)])
                    obtain ⟨i0, hi0, _, hz1, _⟩ := info_parts infoE
                    have hs := fun W => run_slice_l (P := Try.prog) Try.underlying26 hi0 hz1 (some ⟨b1, o1, none⟩) nr cr (lo := 1) (lo' := 1) rfl hn0 W
                    have HT1 := Lib.hid (HER.out.tail hn0)
                    clear hc hi0 hz1
                    generalize Ent.cmp x e = cm at *
                    go_wp2_with fail
                    refine wp_region_class (by kernel_rfl) (by kernel_rfl) (Below.refl _ _) ?_
                    have m1 := BW.cell p1
                    have m2 := BW.cell p2
                    have m3 := BW.cell p3
                    have m4 := BW.cell p4
                    have n1 := BW.cell k1
                    have n2 := BW.cell k2
                    have n3 := BW.cell k3
                    have n4 := BW.cell k4
                    repeat (first | go_big_quiet_step ((go_at_call 67; exact calls_class (HC0.out _))))
                    refine wpQuiet_nil ?_
                    intro w7 hb7; replace hb7 := BW.of hb7
                    have HB7 := Lib.hid (HBR.out.trans (hb7.mono HBR.out.size))
                    clear hb7 p1 p2 p3 p4 k1 k2 k3 k4 m1 m2 m3 m4 n1 n2 n3 n4
                    go_wp2
                    go_roundw
                    case rel => exact ⟨r, _, _, _, rfl, HT1.out, HB7.out, HD2⟩
                    case measure => simp only [slen_slice]; omega
                  · have t3 : ((Ent.cmp x e : Int) == 0) = false := by simpa using hc
                    have HD2 : Hid (x :: r = Ent.dropEq e (nth L k)) := Lib.hid (by rw [← HDR.out, Ent.dropEq_cons, if_neg (fun h => hc (Ent.cmp_eq.2 h))])
                    clear hc
                    generalize Ent.cmp x e = cm at *
                    go_wp2_with fail
                    refine wp_region_class (by kernel_rfl) (by kernel_rfl) (Below.refl _ _) ?_
                    have m1 := BW.cell p1
                    have m2 := BW.cell p2
                    have m3 := BW.cell p3
                    have m4 := BW.cell p4
                    have n1 := BW.cell k1
                    have n2 := BW.cell k2
                    have n3 := BW.cell k3
                    have n4 := BW.cell k4
                    repeat (first | go_big_quiet_step ((go_at_call 67; exact calls_class (HC0.out _))))
                    refine wpQuiet_nil ?_
                    intro w7 hb7; replace hb7 := BW.of hb7
                    have hbc7 := HBR.out.trans (hb7.mono HBR.out.size)
                    have hc7 := HCUT.out.below hbc7 hww
                    obtain ⟨g7, a7, n7, c7, e7, hci7, hfi7, _, _, _⟩ := hc7.lr.get hlt
                    cases e7
                    have HNX := Lib.hid (hc7.next hlt HLEN.out hge' hge hci7 HER.out HD2.out)
                    clear hc7 hbc7 hb7 p1 p2 p3 p4 k1 k2 k3 k4 m1 m2 m3 m4 n1 n2 n3 n4
                    go_wp2
                    go_roundw
                    case rel => exact ⟨k + 1, by omega, by go_num, HNX.out⟩
                    case measure => simp [intOf]; omega
            · obtain rfl : n = k := by omega
              have hcl : cutTo e L n = L.map (Ent.dropEq e) := by rw [← HLEN.out, cutTo_all]
              have HTO : Hid ((lo ++ [e]) ++ Ent.mergeL (L.map (Ent.dropEq e)) = Ent.mergeL L0) := Lib.hid (by rw [← hto.out, HBM.out]; simp)
              have HSV : Hid ((∀ l ∈ L.map (Ent.dropEq e), l.Pairwise Ent.lt) ∧ ∀ l ∈ L.map (Ent.dropEq e), ∀ e ∈ l, e.val.length ≤ 1000000000) := Lib.hid ⟨fun l hl => by
                obtain ⟨l', hl', rfl⟩ := List.mem_map.1 hl
                exact Ent.dropEq_sorted (hsv.out.1 _ hl'), fun l hl e' he' => by
                obtain ⟨l', hl', rfl⟩ := List.mem_map.1 hl
                exact hsv.out.2 _ hl' e' ((List.dropWhile_sublist _).subset he')⟩
              have HA5 := Lib.hid hcut.acc
              have HL5 : Hid (LR w0 wc (some ⟨g, 0, none⟩) n c (L.map (Ent.dropEq e))) := Lib.hid (by rw [← hcl]; exact hcut.lr)
              have HB5 := Lib.hid hcut.bel
              clear hcut hcl
              go_wp2
              go_roundw
              case rel => exact ⟨m + 1, c4, a4, lo ++ [e], L.map (Ent.dropEq e), rfl, HA5.out, HL5.out, HB5.out, HTO, HSV⟩
              case measure =>
                simp only [slen_slice]
                have := HML.out
                omega
end Go.Proofs.Ytfcfipoldkjloaa
