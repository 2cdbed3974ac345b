/- Bounds; the law's looks. -/
import Derived.Test.YtjigfinpbdglnaaGreatDoorZSoM
set_option linter.unusedVariables false
set_option linter.unusedSimpArgs false
set_option maxRecDepth 100000
set_option linter.unusedVariables false
set_option linter.unusedSimpArgs false
namespace Go.Proofs.YtjigfinpbdglnaaGreatDoor
open Go.RowKit

def Ent.first (l : List Ent) : List UInt8 := if l.length = 0 then [] else (nth l 0).key
def Ent.last (l : List Ent) : List UInt8 := if l.length = 0 then [] else (nth l (l.length - 1)).key
set_option maxHeartbeats 1000000 in
theorem bounds_any {w : World} {bk : Nat} {a : Option Addr} {n c : Nat} {l : List Ent} {m : Nat} {af : Option Addr} {nf cf : Nat} {f : List UInt8} (h : Tb w bk a n c l m af nf cf f) :
    Calls Tryz.prog 28 #[.pointer (some ⟨bk, 0, none⟩)] w fun e w' => e = .returned (.tuple #[.string (bstr (Ent.first l)), .string (bstr (Ent.last l)), .bool (decide (0 < n))]) ∧ Below w.heap.size w w' := by
  have hle := h.es.le.1
  have hln := h.es.1
  obtain ⟨c0, _, _, _⟩ := cells3 h.heap
  by_cases h0 : n = 0
  · subst h0
    have HF : Hid (bstr (Ent.first l) = ⟨#[]⟩ ∧ bstr (Ent.last l) = ⟨#[]⟩) := Lib.hid (by unfold Ent.first Ent.last; rw [if_pos hln, if_pos hln]; exact ⟨rfl, rfl⟩)
    clear h hln
    go_enter Tryz.func28, Tryz.ntmps28
    go_wp2
    go_ret3
    rw [HF.out.1, HF.out.2]
    exact ⟨rfl, Below.refl _ _⟩
  · obtain ⟨k, rfl⟩ : ∃ k, n = k + 1 := ⟨n - 1, by omega⟩
    obtain ⟨b1, o1, a1, d1, ea, he1, _⟩ := h.es.vals (i := 0) (by omega)
    obtain ⟨b2, o2, a2, d2, eb, he2, _⟩ := h.es.vals (i := k) (by omega)
    subst ea
    cases eb
    have p0 := BW.cell c0
    have p1 := BW.cell he1.key
    have p2 := BW.cell he2.key
    simp only [Nat.zero_mul, Nat.add_zero] at p1
    have HF : Hid (bstr (Ent.first l) = bstr (nth l 0).key ∧ bstr (Ent.last l) = bstr (nth l k).key) := Lib.hid (by unfold Ent.first Ent.last; rw [if_neg (by omega), if_neg (by omega), hln]; exact ⟨rfl, rfl⟩)
    rw [HF.out.1, HF.out.2]
    have tz : ((((k + 1 : Nat) : Int)) == 0) = false := by rw [beq_eq_false_iff_ne]; omega
    have tz' : (((k : Int) + 1) == 0) = false := by rw [beq_eq_false_iff_ne]; omega
    have td : decide (0 < k + 1) = true := decide_eq_true (by omega)
    rw [td]
    clear h hln he1 he2 HF td h0
    generalize (nth l 0).key = x at *
    generalize (nth l k).key = y at *
    go_enter Tryz.func28, Tryz.ntmps28
    go_wp2_with fail
    refine wp_region_class (w0 := w) (by kernel_rfl) (by kernel_rfl) (Below.refl _ _) ?_
    repeat (first | go_big_quiet_step (fail))
    refine wpQuiet_nil ?_
    intro w1 hb1; replace hb1 := BW.of hb1
    have HB1 := Lib.hid hb1
    clear hb1 p0 p1 p2
    go_wp2
    go_ret3
    exact ⟨rfl, HB1.out⟩
/-- A table looks as the document's. -/
theorem rcells {w : World} {bk : Nat} {a : Option Addr} {n c : Nat} {l : List Ent} {ab : Option Addr} {m cb : Nat} {bl : List Bk} {af : Option Addr} {nf cf : Nat} {f : List UInt8} (h : Rtb w bk a n c l ab m cb bl af nf cf f) : w.cell? ⟨bk, 0, none⟩ = some (.slice a n c) ∧ w.cell? ⟨bk, 1, none⟩ = some (.slice ab m cb) := by
  obtain ⟨c0, c1, _, _⟩ := cells3 h.heap
  exact ⟨c0, c1⟩
set_option maxHeartbeats 4000000 in
theorem looks_any {w : World} {bk : Nat} {a : Option Addr} {n c : Nat} {l : List Ent} {m : Nat} {af : Option Addr} {nf cf : Nat} {f : List UInt8} (h : Tb w bk a n c l m af nf cf f) {rk : Nat} {a' : Option Addr} {c' : Nat} {ab : Option Addr} {cb : Nat} {bl : List Bk} {af' : Option Addr} {nf' cf' : Nat} {f' : List UInt8} (h' : Rtb w rk a' n c' l ab m cb bl af' nf' cf' f')
    (hn : n ≤ 1000000000) (hm : m ≤ 1000000000) (hvl : ∀ e ∈ l, e.val.length ≤ 1000000000) (hsq : ∀ i, i < n → (nth l i).seq ≤ 18446744073709551615) :
    Calls Tryz.prog 7 #[.pointer (some ⟨bk, 0, none⟩), .pointer (some ⟨rk, 0, none⟩)] w fun e w' => e = .returned (.bool true) ∧ Below w.heap.size w w' := by
  have HBN := Lib.hid (bounds_any h)
  have HT := Lib.hid h
  have HR := Lib.hid h'
  have HA : Hid (∀ W, Below w.heap.size w W → Calls Tryz.prog 29 #[.pointer (some ⟨bk, 0, none⟩)] W (ColP W l)) := Lib.hid fun W hW => lall_any (h.below hW) hn hvl hsq
  have HN := Lib.hid h.es.1
  have hle := h.es.le.1
  obtain ⟨r0, r1⟩ := rcells h'
  have HQ0 : Hid (∀ V : BW w, V.w.cell? ⟨rk, 0, none⟩ = some (.slice a' n c')) := Lib.hid (fun V => cell_later V.b r0)
  have HQ1 : Hid (∀ V : BW w, V.w.cell? ⟨rk, 1, none⟩ = some (.slice ab m cb)) := Lib.hid (fun V => cell_later V.b r1)
  have HFL : Hid (∀ W, Below w.heap.size w W → 0 < n → ∃ b off k, a' = some ⟨b, off, none⟩ ∧ n = k + 1 ∧ W.cell? ⟨b, off, none⟩ = some (.string (bstr (Ent.first l))) ∧ W.cell? ⟨b, off + k * 4, none⟩ = some (.string (bstr (Ent.last l)))) := Lib.hid (by
    intro W hW h0
    obtain ⟨k, rfl⟩ : ∃ k, n = k + 1 := ⟨n - 1, by omega⟩
    have hs := h'.es.below hW
    obtain ⟨b1, o1, a1, d1, ea, he1, _⟩ := hs.vals (i := 0) (by omega)
    obtain ⟨b2, o2, a2, d2, eb, he2, _⟩ := hs.vals (i := k) (by omega)
    subst ea
    cases eb
    have p1 := he1.key
    have p2 := he2.key
    simp only [Nat.zero_mul, Nat.add_zero] at p1 p2
    refine ⟨b1, o1, k, rfl, rfl, ?_, ?_⟩
    · unfold Ent.first
      rw [if_neg (by rw [hs.1]; omega)]
      exact p1
    · unfold Ent.last
      rw [if_neg (by rw [hs.1]; omega), hs.1]
      exact p2)
  have HE : Hid (n = 0 → Ent.first l = [] ∧ Ent.last l = []) := Lib.hid fun e => by unfold Ent.first Ent.last; rw [h.es.1, if_pos e, if_pos e]; exact ⟨rfl, rfl⟩
  clear h h' hvl hsq r0 r1
  obtain ⟨x, hx⟩ : ∃ x, x = Ent.first l := ⟨_, rfl⟩
  obtain ⟨y, hy⟩ : ∃ y, y = Ent.last l := ⟨_, rfl⟩
  rw [← hx, ← hy] at HBN HE HFL
  clear hx hy
  go_enter Tryz.func7, Tryz.ntmps7
  go_wp2_with fail
  refine HBN.out.mono ?_
  rintro e w1 ⟨rfl, hb1⟩
  have HB1 := Lib.hid hb1
  clear hb1
  have tg : decide ((0 : Int) < (n : Int)) = decide (0 < n) := by
    by_cases h0 : 0 < n
    · rw [decide_eq_true h0]; exact decide_eq_true (by omega)
    · rw [decide_eq_false h0]; exact decide_eq_false (by omega)
  obtain ⟨some_, hsm⟩ : ∃ b, b = decide (0 < n) := ⟨_, rfl⟩
  have tg' : decide (0 < n) = some_ := hsm.symm
  rw [← hsm] at tg ⊢
  have HSM := Lib.hid hsm
  clear hsm
  go_upto_region 2 with fail
  cases some_
  all_goals (
    refine wp_region_steps [37] 37 37 (by kernel_rfl) (by kernel_rfl) rfl (fun W' => ∃ V : BW w, W' = V.w) ?_
    have HBD := Lib.hid (HB1.out.drew)
    generalize w1.drew = wD at *
    refine anyT_pull [0, 1, 2, 3, 4, 5, 6, 7, 8, 9, 11, 12, 13, 14, 15] 37 22 (by intro c a d v w h; cases d <;> exact h) (by kernel_rfl) ⟨⟨_, HBD.out⟩, rfl⟩ ?_
    simp only [opsAt, List.filterMap_cons, List.filterMap_nil, List.getElem?_cons_zero, List.getElem?_cons_succ]
    iterate 15
      apply held_step
      · kernel_rfl
      · rintro _ ⟨V, rfl⟩
        have q0 := HQ0.out V
        have q1 := HQ1.out V
        go_simp
        rfl
    refine held_nil ?_
    apply anyT_one 10
    · rfl
    · kernel_rfl
    · kernel_rfl
    intro K hK
    go_simp
    refine (tlen_any (HT.out.below HBD.out)).mono ?_
    rintro en wD ⟨rfl, rfl⟩
    refine hK _ _ ⟨⟨_, HBD.out⟩, rfl⟩ ?_
    clear hK
    refine anyT_pull [16, 17, 18, 19, 21, 22, 23, 24, 25] 37 12 (by intro c a d v w h; cases d <;> exact h) (by kernel_rfl) ⟨⟨_, HBD.out⟩, rfl⟩ ?_
    simp only [opsAt, List.filterMap_cons, List.filterMap_nil, List.getElem?_cons_zero, List.getElem?_cons_succ]
    iterate 9
      apply held_step
      · kernel_rfl
      · rintro _ ⟨V, rfl⟩
        have q0 := HQ0.out V
        have q1 := HQ1.out V
        go_simp
        rfl
    refine held_nil ?_
    apply anyT_one 20
    · rfl
    · kernel_rfl
    · kernel_rfl
    intro K hK
    go_simp
    refine (tblocks_any (HT.out.below HBD.out)).mono ?_
    rintro en wD ⟨rfl, rfl⟩
    refine hK _ _ ⟨⟨_, HBD.out⟩, rfl⟩ ?_
    clear hK
    refine anyT_pull [26, 27, 28, 29, 31, 32, 33, 34] 37 3 (by intro c a d v w h; cases d <;> exact h) (by kernel_rfl) ⟨⟨_, HBD.out⟩, rfl⟩ ?_
    simp only [opsAt, List.filterMap_cons, List.filterMap_nil, List.getElem?_cons_zero, List.getElem?_cons_succ]
    iterate 8
      apply held_step
      · kernel_rfl
      · rintro _ ⟨V, rfl⟩
        have q0 := HQ0.out V
        have q1 := HQ1.out V
        go_simp
        rfl
    refine held_nil ?_
    apply anyT_one 30
    · rfl
    · kernel_rfl
    · kernel_rfl
    intro K hK
    go_simp
    refine (HA.out _ HBD.out).mono ?_
    rintro en w2 ⟨a2, n2, c2, rfl, ho2, hb2⟩
    obtain rfl : n = n2 := by rw [← ho2.len, HN.out]
    have HB2 := Lib.hid (HBD.out.trans (hb2.mono HBD.out.size))
    have HS2 := Lib.hid (srows_any a2 a' n c2 n c' l l w2 ho2.es (HR.out.es.below HB2.out))
    refine hK _ _ ⟨⟨_, HB2.out⟩, rfl⟩ ?_
    clear hK ho2 hb2
    apply anyT_one 35
    · rfl
    · kernel_rfl
    · kernel_rfl
    intro K hK
    go_simp
    refine HS2.out.mono ?_
    rintro en w3 ⟨rfl, hb3⟩
    have HB3 := Lib.hid (HB2.out.trans (hb3.mono HB2.out.size))
    refine hK _ _ ⟨⟨_, HB3.out⟩, rfl⟩ ?_
    clear hK hb3 HS2
    have tl : decide (l = l) = true := decide_eq_true rfl
    rw [tl]
    refine anyT_pull [36] 37 0 (by intro c a d v w h; cases d <;> exact h) (by kernel_rfl) ⟨⟨_, HB3.out⟩, rfl⟩ ?_
    simp only [opsAt, List.filterMap_cons, List.filterMap_nil, List.getElem?_cons_zero, List.getElem?_cons_succ]
    iterate 1
      apply held_step
      · kernel_rfl
      · rintro _ ⟨V, rfl⟩
        have q0 := HQ0.out V
        have q1 := HQ1.out V
        go_simp
        rfl
    refine held_nil ?_
    refine anyT_done (by kernel_rfl) ?_
    simp only [opsAt, List.filterMap_cons, List.filterMap_nil, List.getElem?_cons_zero, List.getElem?_cons_succ]
    go_wp2_with fail
    have q3 := HQ0.out ⟨w3, HB3.out⟩
    have q4 := BW.cell q3
    dsimp only at q4
    clear HQ0 HQ1 HA HR HT
  )
  · have h0 : n = 0 := by have h1 : ¬ 0 < n := of_decide_eq_false HSM.out.symm; omega
    obtain ⟨rfl, rfl⟩ := HE.out h0
    have e0 : bstr [] = (⟨#[]⟩ : ByteArray) := rfl
    rw [e0]
    refine wp_region_class (w0 := w3) (by kernel_rfl) (by kernel_rfl) (Below.refl _ _) ?_
    repeat (first | go_big_quiet_step (fail))
    refine wpQuiet_nil ?_
    intro w4 hb4; replace hb4 := BW.of hb4
    have HB4 := Lib.hid (HB3.out.trans (hb4.mono HB3.out.size))
    clear hb4 q4
    go_wp2
    go_ret
    exact ⟨rfl, HB4.out⟩
  · have h0 : 0 < n := of_decide_eq_true HSM.out.symm
    obtain ⟨b, off, k, rfl, rfl, p1, p2⟩ := HFL.out w3 HB3.out h0
    have p3 := BW.cell p1
    have p4 := BW.cell p2
    clear p1 p2 HFL HE HBN
    refine wp_region_class (w0 := w3) (by kernel_rfl) (by kernel_rfl) (Below.refl _ _) ?_
    repeat (first | go_big_quiet_step (fail))
    refine wpQuiet_nil ?_
    intro w4 hb4; replace hb4 := BW.of hb4
    have HB4 := Lib.hid (HB3.out.trans (hb4.mono HB3.out.size))
    clear hb4 q4 p3 p4
    go_wp2
    go_ret
    exact ⟨rfl, HB4.out⟩
end Go.Proofs.YtjigfinpbdglnaaGreatDoor
