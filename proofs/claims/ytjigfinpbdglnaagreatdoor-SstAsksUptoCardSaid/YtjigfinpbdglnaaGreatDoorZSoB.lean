/- Sorted tables: a reader's entry, whatever it reads. -/
import Derived.Test.YtjigfinpbdglnaaGreatDoorZSoA
import Derived.Deep.RegionWith
set_option linter.unusedVariables false
set_option linter.unusedSimpArgs false
set_option maxRecDepth 100000
set_option linter.unusedVariables false
set_option linter.unusedSimpArgs false
namespace Go.Proofs.YtjigfinpbdglnaaGreatDoor
open Go.RowKit

/-- One entry from the front; what is left. -/
def Sst.dent (l : List UInt8) : Option (Ent × List UInt8) :=
  let s1 := Sst.tk (l, false) (Codec.rdBytes l (65535 : Nat)).2.1 (Codec.rdBytes l (65535 : Nat)).2.2
  let s2 := Sst.tk s1 (Codec.dec s1.1).2.1 (Codec.dec s1.1).2.2
  if s2.2 = true ∨ s2.1 = [] ∨ 1 < (nth s2.1 0).toNat then none
  else if (Codec.rdBytes (s2.1.drop 1) (33554432 : Nat)).2.2 ≠ 0 then none
  else some (⟨(Codec.rdBytes l (65535 : Nat)).1, (Codec.dec s1.1).1, nth s2.1 0 == 1, (Codec.rdBytes (s2.1.drop 1) (33554432 : Nat)).1⟩, (s2.1.drop 1).drop (Codec.rdBytes (s2.1.drop 1) (33554432 : Nat)).2.1)
theorem tk_le (s : List UInt8 × Bool) (k er : Nat) : (Sst.tk s k er).1.length ≤ s.1.length := by
  unfold Sst.tk; split <;> simp
theorem oth_bad {w w1 w2 W : World} {bk : Nat} (h1 : Below w.heap.size w w1) (h2 : Oth (some ⟨bk, 0, none⟩) w1 w2) (h3 : Oth (some ⟨w.heap.size, 0, none⟩) w2 W) : Oth (some ⟨bk, 0, none⟩) w W := by
  have l1 := h1.size
  have l2 := h2.size
  refine ⟨by rw [h3.os, h2.os, h1.os], by rw [h3.tape, h2.tape, h1.tape], by rw [h3.output, h2.output, h1.output], Nat.le_trans l1 (Nat.le_trans l2 h3.size), fun b hb hn => ?_⟩
  exact (h3.block b (by omega) (fun x hx => by cases hx; simp only; omega)).trans ((h2.block b (by omega) hn).trans (h1.block b hb))
theorem fin_box2 {w0 w : World} {bk g : Nat} {l : List UInt8 × Bool} {kk : List UInt8} {sq : Nat} (h : w.heap[g]? = some (.cells #[.string ⟨#[]⟩, .int .u64 0, .bool false, .slice none 0 0] 37 (0, 0))) (hr : RS2 w bk l) (ho : Oth (some ⟨bk, 0, none⟩) w0 w) (hg : w0.heap.size ≤ g) (hne : bk ≠ g) :
    ∃ g3 : Nat, Value.pointer (some ⟨g, 0, none⟩) = .pointer (some ⟨g3, 0, none⟩) ∧ w0.heap.size ≤ g3 ∧ Hid (((((w.setCell ⟨g, 0, none⟩ (.string (bstr kk))).setCell ⟨g, 1, none⟩ (.int .u64 sq)).setCell ⟨g, 2, none⟩ (.bool false)).setCell ⟨g, 3, none⟩ (.slice none 0 0)).heap[g3]? = some (.cells #[.string (bstr kk), .int .u64 sq, .bool false, .slice none 0 0] 37 (0, 0))) ∧ Hid (RS2 ((((w.setCell ⟨g, 0, none⟩ (.string (bstr kk))).setCell ⟨g, 1, none⟩ (.int .u64 sq)).setCell ⟨g, 2, none⟩ (.bool false)).setCell ⟨g, 3, none⟩ (.slice none 0 0)) bk l) ∧ Hid (Oth (some ⟨bk, 0, none⟩) w0 ((((w.setCell ⟨g, 0, none⟩ (.string (bstr kk))).setCell ⟨g, 1, none⟩ (.int .u64 sq)).setCell ⟨g, 2, none⟩ (.bool false)).setCell ⟨g, 3, none⟩ (.slice none 0 0))) := by
  obtain ⟨h1, h2⟩ := set4 (.string (bstr kk)) (.int .u64 sq) (.bool false) (.slice none 0 0) h
  refine ⟨g, rfl, hg, Lib.hid h1, Lib.hid ?_, Lib.hid ?_⟩
  · obtain ⟨a, n, c, r1, r2, r3⟩ := hr
    refine ⟨a, n, c, (h2.block bk (Array.getElem?_eq_some_iff.1 r1).1 (fun x hx => by cases hx; exact Ne.symm hne)).trans r1, r2.notin h2 h (fun v hv z e => ?_), r3⟩
    simp only [List.mem_cons, List.not_mem_nil, or_false] at hv
    rcases hv with rfl | rfl | rfl | rfl <;> cases e
  · refine ⟨h2.os.trans ho.os, h2.tape.trans ho.tape, h2.output.trans ho.output, Nat.le_trans ho.size h2.size, fun b hb hn => ?_⟩
    exact (h2.block b (Nat.lt_of_lt_of_le hb ho.size) (fun x hx => by cases hx; simp only; omega)).trans (ho.block b hb hn)

set_option maxHeartbeats 8000000 in
theorem rentry_two (bk : Nat) (l : List UInt8) (w : World) (h : RS2 w bk (l, false)) (hl : l.length ≤ 100000000) :
    Calls Tryz.prog 83 #[.pointer (some ⟨bk, 0, none⟩)] w fun en w' => ∃ (e : Ent) (a : Option Addr) (c : Nat) (b : Bool) (r : List UInt8), en = .returned (ev e a c) ∧ Own w' 0 a e.val.length c e.val ∧ RS2 w' bk (r, b) ∧ Oth (some ⟨bk, 0, none⟩) w w' ∧ ((b = false ∧ Sst.dent l = some (e, r)) ∨ (b = true ∧ Sst.dent l = none)) := by
  have HR := Lib.hid h
  have hbk : bk < w.heap.size := by obtain ⟨_, _, _, h1, _⟩ := h; exact (Array.getElem?_eq_some_iff.1 h1).1
  clear h
  have hdent : Sst.dent l = Sst.dent l := rfl
  conv at hdent => rhs; unfold Sst.dent
  dsimp only at hdent
  have HK1 := Lib.hid (fun W (hW : RS2 W bk (l, false)) => rbytes_two bk (l, false) 65535 W hW (by dsimp only; omega) (by omega))
  have hle1 := tk_le (l, false) (Codec.rdBytes l (65535 : Nat)).2.1 (Codec.rdBytes l (65535 : Nat)).2.2
  dsimp only at HK1 hle1
  generalize Sst.tk (l, false) (Codec.rdBytes l (65535 : Nat)).2.1 (Codec.rdBytes l (65535 : Nat)).2.2 = s1 at *
  generalize (Codec.rdBytes l (65535 : Nat)).1 = xk at *
  have HK2 := Lib.hid (fun W (hW : RS2 W bk s1) => rnumber_two bk s1 W hW (by omega))
  have hle2 := tk_le s1 (Codec.dec s1.1).2.1 (Codec.dec s1.1).2.2
  generalize Sst.tk s1 (Codec.dec s1.1).2.1 (Codec.dec s1.1).2.2 = s2 at *
  generalize (Codec.dec s1.1).1 = sq at *
  have HDE := Lib.hid hdent
  have HL2 : Hid (s2.1.length ≤ 100000000) := Lib.hid (by omega)
  clear hdent hle1 hle2
  go_enter Tryz.func83, Tryz.ntmps83
  go_upto_region 1 with fail
  obtain ⟨w1, hw1⟩ : ∃ w1, w.alloc (.cells #[.string ByteArray.empty, .int .u64 0, .bool false, .slice none 0 0] 37) = w1 := ⟨_, rfl⟩
  have hr1w := heap_alloc_new w (.cells #[.string ByteArray.empty, .int .u64 0, .bool false, .slice none 0 0] 37)
  have hb1 := below_alloc1 w (.cells #[.string ByteArray.empty, .int .u64 0, .bool false, .slice none 0 0] 37)
  rw [hw1] at hr1w hb1
  first | rw [hw1] | (change Code.wp _ _ _ _ (w.alloc (.cells #[.string ByteArray.empty, .int .u64 0, .bool false, .slice none 0 0] 37)); rw [hw1])
  have HZ1 := Lib.hid hr1w
  have HB1 := Lib.hid hb1
  have HR1 : Hid (RS2 w1 bk (l, false)) := Lib.hid (HR.out.below hb1)
  have hbk1 : bk < w1.heap.size := Nat.lt_of_lt_of_le hbk hb1.size
  clear hw1 hr1w hb1
  go_cut [3] (fun p wx => ∃ g3 : Nat, p = .pointer (some ⟨g3, 0, none⟩) ∧ w1.heap.size ≤ g3 ∧ Hid (wx.heap[g3]? = some (.cells #[.string (bstr xk), .int .u64 sq, .bool false, .slice none 0 0] 37 (0, 0))) ∧ Hid (RS2 wx bk s2) ∧ Hid (Oth (some ⟨bk, 0, none⟩) w1 wx))
  case first =>
    have HOD : Oth (some ⟨bk, 0, none⟩) w1 w1.drew := Oth.of_below (Below.refl _ _).drew
    have HRD := HR1.out.below (Below.refl _ _).drew
    refine wp_region_steps [7] 7 7 (by kernel_rfl) (by kernel_rfl) rfl (fun _ => True) ?_
    refine anyT_pull [0, 3] 7 5 (by intro c a d v w h; cases d <;> exact h) (by kernel_rfl) trivial ?_
    simp only [opsAt, List.filterMap_cons, List.filterMap_nil, List.getElem?_cons_zero, List.getElem?_cons_succ]
    iterate 2
      apply held_step
      · kernel_rfl
      · rintro _ _
        go_simp
        rfl
    refine held_nil ?_
    generalize w1.drew = wD at *
    refine anyT_two 1 6 rfl rfl (by kernel_rfl) (by kernel_rfl) (by kernel_rfl) (fun K hK => ?_) (fun K hK => ?_)
    · go_simp
      refine (HK1.out wD HRD).mono ?_
      rintro en q1w ⟨a2, n2, k2, rfl, hb1, hr1, ho1⟩
      have hoo1 := HOD.trans ho1
      refine hK _ _ trivial ?_
      clear hK
      refine anyT_three 2 4 6 rfl rfl rfl (by kernel_rfl) (by kernel_rfl) (by kernel_rfl) (by kernel_rfl) (fun K hK => ?_) (fun K hK => ?_) (fun K hK => ?_)
      · have v2 := conv_bytes hb1
        go_simp
        refine hK _ _ trivial ?_
        clear hK v2
        refine anyT_two 4 6 rfl rfl (by kernel_rfl) (by kernel_rfl) (by kernel_rfl) (fun K hK => ?_) (fun K hK => ?_)
        · go_simp
          refine (HK2.out q1w hr1).mono ?_
          rintro en q3w ⟨rfl, hr3, ho3⟩
          have hoo3 := hoo1.trans ho3
          refine hK _ _ trivial ?_
          clear hK
          refine anyT_pull [5] 7 1 (by intro c a d v w h; cases d <;> exact h) (by kernel_rfl) trivial ?_
          simp only [opsAt, List.filterMap_cons, List.filterMap_nil, List.getElem?_cons_zero, List.getElem?_cons_succ]
          apply held_step
          · kernel_rfl
          · rintro _ _
            go_simp
            rfl
          refine held_nil ?_
          apply anyT_one 6
          · rfl
          · kernel_rfl
          · kernel_rfl
          intro K hK
          go_simp
          have hg4 := heap_alloc_new q3w (.cells #[.string ⟨#[]⟩, .int .u64 0, .bool false, .slice none 0 0] 37)
          have ha4 := below_alloc1 q3w (.cells #[.string ⟨#[]⟩, .int .u64 0, .bool false, .slice none 0 0] 37)
          have hr4 := hr3.below ha4
          have hoo4 := hoo3.trans (Oth.of_below ha4)
          have hne4 : bk ≠ q3w.heap.size := Nat.ne_of_lt (Nat.lt_of_lt_of_le hbk1 hoo3.size)
          have hge4 : w1.heap.size ≤ q3w.heap.size := hoo3.size
          refine hK _ _ trivial ?_
          clear hK
          generalize hgw4 : q3w.alloc (.cells #[.string ⟨#[]⟩, .int .u64 0, .bool false, .slice none 0 0] 37) = q4w at *
          generalize hgs4 : q3w.heap.size = g3 at *
          clear hgw4 ha4 hgs4
          refine anyT_done (by kernel_rfl) ?_
          simp only [opsAt, List.filterMap_cons, List.filterMap_nil, List.getElem?_cons_zero, List.getElem?_cons_succ]
          obtain ⟨k0, k1, k2', k3', kf⟩ := cells4 hg4
          have HG := Lib.hid hg4
          have HRR := Lib.hid hr4
          have HOO := Lib.hid hoo4
          have HGE := Lib.hid hge4
          have HNE := Lib.hid hne4
          go_wp2
          go_meet
          exact fin_box2 HG.out HRR.out HOO.out HGE.out HNE.out
        · go_simp
          have hg5 := heap_alloc_new q1w (.cells #[.string ⟨#[]⟩, .int .u64 0, .bool false, .slice none 0 0] 37)
          have ha5 := below_alloc1 q1w (.cells #[.string ⟨#[]⟩, .int .u64 0, .bool false, .slice none 0 0] 37)
          have hr5 := hr1.below ha5
          have hoo5 := hoo1.trans (Oth.of_below ha5)
          have hne5 : bk ≠ q1w.heap.size := Nat.ne_of_lt (Nat.lt_of_lt_of_le hbk1 hoo1.size)
          have hge5 : w1.heap.size ≤ q1w.heap.size := hoo1.size
          refine hK _ _ trivial ?_
          clear hK
          generalize hgw5 : q1w.alloc (.cells #[.string ⟨#[]⟩, .int .u64 0, .bool false, .slice none 0 0] 37) = q5w at *
          generalize hgs5 : q1w.heap.size = g3 at *
          clear hgw5 ha5 hgs5
          apply anyT_one 4
          · rfl
          · kernel_rfl
          · kernel_rfl
          intro K hK
          go_simp
          refine (HK2.out q5w hr5).mono ?_
          rintro en q6w ⟨rfl, hr6, ho6⟩
          have hoo6 := hoo5.trans ho6
          have hg6 := (ho6.block _ (Array.getElem?_eq_some_iff.1 hg5).1 (fun x hx => by cases hx; exact hne5)).trans hg5
          refine hK _ _ trivial ?_
          clear hK
          refine anyT_pull [5] 7 0 (by intro c a d v w h; cases d <;> exact h) (by kernel_rfl) trivial ?_
          simp only [opsAt, List.filterMap_cons, List.filterMap_nil, List.getElem?_cons_zero, List.getElem?_cons_succ]
          apply held_step
          · kernel_rfl
          · rintro _ _
            go_simp
            rfl
          refine held_nil ?_
          refine anyT_done (by kernel_rfl) ?_
          simp only [opsAt, List.filterMap_cons, List.filterMap_nil, List.getElem?_cons_zero, List.getElem?_cons_succ]
          obtain ⟨k0, k1, k2', k3', kf⟩ := cells4 hg6
          have HG := Lib.hid hg6
          have HRR := Lib.hid hr6
          have HOO := Lib.hid hoo6
          have HGE := Lib.hid hge5
          have HNE := Lib.hid hne5
          go_wp2
          go_meet
          exact fin_box2 HG.out HRR.out HOO.out HGE.out HNE.out
      · go_simp
        refine (HK2.out q1w hr1).mono ?_
        rintro en q7w ⟨rfl, hr7, ho7⟩
        have hoo7 := hoo1.trans ho7
        have hb7 := hr1.keep ho7 hb1
        refine hK _ _ trivial ?_
        clear hK
        refine anyT_two 2 6 rfl rfl (by kernel_rfl) (by kernel_rfl) (by kernel_rfl) (fun K hK => ?_) (fun K hK => ?_)
        · have v2 := conv_bytes hb7
          go_simp
          refine hK _ _ trivial ?_
          clear hK v2
          refine anyT_pull [5] 7 1 (by intro c a d v w h; cases d <;> exact h) (by kernel_rfl) trivial ?_
          simp only [opsAt, List.filterMap_cons, List.filterMap_nil, List.getElem?_cons_zero, List.getElem?_cons_succ]
          apply held_step
          · kernel_rfl
          · rintro _ _
            go_simp
            rfl
          refine held_nil ?_
          apply anyT_one 6
          · rfl
          · kernel_rfl
          · kernel_rfl
          intro K hK
          go_simp
          have hg9 := heap_alloc_new q7w (.cells #[.string ⟨#[]⟩, .int .u64 0, .bool false, .slice none 0 0] 37)
          have ha9 := below_alloc1 q7w (.cells #[.string ⟨#[]⟩, .int .u64 0, .bool false, .slice none 0 0] 37)
          have hr9 := hr7.below ha9
          have hoo9 := hoo7.trans (Oth.of_below ha9)
          have hne9 : bk ≠ q7w.heap.size := Nat.ne_of_lt (Nat.lt_of_lt_of_le hbk1 hoo7.size)
          have hge9 : w1.heap.size ≤ q7w.heap.size := hoo7.size
          refine hK _ _ trivial ?_
          clear hK
          generalize hgw9 : q7w.alloc (.cells #[.string ⟨#[]⟩, .int .u64 0, .bool false, .slice none 0 0] 37) = q9w at *
          generalize hgs9 : q7w.heap.size = g3 at *
          clear hgw9 ha9 hgs9
          refine anyT_done (by kernel_rfl) ?_
          simp only [opsAt, List.filterMap_cons, List.filterMap_nil, List.getElem?_cons_zero, List.getElem?_cons_succ]
          obtain ⟨k0, k1, k2', k3', kf⟩ := cells4 hg9
          have HG := Lib.hid hg9
          have HRR := Lib.hid hr9
          have HOO := Lib.hid hoo9
          have HGE := Lib.hid hge9
          have HNE := Lib.hid hne9
          go_wp2
          go_meet
          exact fin_box2 HG.out HRR.out HOO.out HGE.out HNE.out
        · go_simp
          have hg10 := heap_alloc_new q7w (.cells #[.string ⟨#[]⟩, .int .u64 0, .bool false, .slice none 0 0] 37)
          have ha10 := below_alloc1 q7w (.cells #[.string ⟨#[]⟩, .int .u64 0, .bool false, .slice none 0 0] 37)
          have hr10 := hr7.below ha10
          have hoo10 := hoo7.trans (Oth.of_below ha10)
          have hne10 : bk ≠ q7w.heap.size := Nat.ne_of_lt (Nat.lt_of_lt_of_le hbk1 hoo7.size)
          have hge10 : w1.heap.size ≤ q7w.heap.size := hoo7.size
          have hb10 := hb7.below ha10
          refine hK _ _ trivial ?_
          clear hK
          generalize hgw10 : q7w.alloc (.cells #[.string ⟨#[]⟩, .int .u64 0, .bool false, .slice none 0 0] 37) = q10w at *
          generalize hgs10 : q7w.heap.size = g3 at *
          clear hgw10 ha10 hgs10
          apply anyT_one 2
          · rfl
          · kernel_rfl
          · kernel_rfl
          intro K hK
          have v2 := conv_bytes hb10
          go_simp
          refine hK _ _ trivial ?_
          clear hK v2
          refine anyT_pull [5] 7 0 (by intro c a d v w h; cases d <;> exact h) (by kernel_rfl) trivial ?_
          simp only [opsAt, List.filterMap_cons, List.filterMap_nil, List.getElem?_cons_zero, List.getElem?_cons_succ]
          apply held_step
          · kernel_rfl
          · rintro _ _
            go_simp
            rfl
          refine held_nil ?_
          refine anyT_done (by kernel_rfl) ?_
          simp only [opsAt, List.filterMap_cons, List.filterMap_nil, List.getElem?_cons_zero, List.getElem?_cons_succ]
          obtain ⟨k0, k1, k2', k3', kf⟩ := cells4 hg10
          have HG := Lib.hid hg10
          have HRR := Lib.hid hr10
          have HOO := Lib.hid hoo10
          have HGE := Lib.hid hge10
          have HNE := Lib.hid hne10
          go_wp2
          go_meet
          exact fin_box2 HG.out HRR.out HOO.out HGE.out HNE.out
      · go_simp
        have hg12 := heap_alloc_new q1w (.cells #[.string ⟨#[]⟩, .int .u64 0, .bool false, .slice none 0 0] 37)
        have ha12 := below_alloc1 q1w (.cells #[.string ⟨#[]⟩, .int .u64 0, .bool false, .slice none 0 0] 37)
        have hr12 := hr1.below ha12
        have hoo12 := hoo1.trans (Oth.of_below ha12)
        have hne12 : bk ≠ q1w.heap.size := Nat.ne_of_lt (Nat.lt_of_lt_of_le hbk1 hoo1.size)
        have hge12 : w1.heap.size ≤ q1w.heap.size := hoo1.size
        have hb12 := hb1.below ha12
        refine hK _ _ trivial ?_
        clear hK
        generalize hgw12 : q1w.alloc (.cells #[.string ⟨#[]⟩, .int .u64 0, .bool false, .slice none 0 0] 37) = q12w at *
        generalize hgs12 : q1w.heap.size = g3 at *
        clear hgw12 ha12 hgs12
        refine anyT_two 2 4 rfl rfl (by kernel_rfl) (by kernel_rfl) (by kernel_rfl) (fun K hK => ?_) (fun K hK => ?_)
        · have v2 := conv_bytes hb12
          go_simp
          refine hK _ _ trivial ?_
          clear hK v2
          apply anyT_one 4
          · rfl
          · kernel_rfl
          · kernel_rfl
          intro K hK
          go_simp
          refine (HK2.out q12w hr12).mono ?_
          rintro en q14w ⟨rfl, hr14, ho14⟩
          have hoo14 := hoo12.trans ho14
          have hg14 := (ho14.block _ (Array.getElem?_eq_some_iff.1 hg12).1 (fun x hx => by cases hx; exact hne12)).trans hg12
          refine hK _ _ trivial ?_
          clear hK
          refine anyT_pull [5] 7 0 (by intro c a d v w h; cases d <;> exact h) (by kernel_rfl) trivial ?_
          simp only [opsAt, List.filterMap_cons, List.filterMap_nil, List.getElem?_cons_zero, List.getElem?_cons_succ]
          apply held_step
          · kernel_rfl
          · rintro _ _
            go_simp
            rfl
          refine held_nil ?_
          refine anyT_done (by kernel_rfl) ?_
          simp only [opsAt, List.filterMap_cons, List.filterMap_nil, List.getElem?_cons_zero, List.getElem?_cons_succ]
          obtain ⟨k0, k1, k2', k3', kf⟩ := cells4 hg14
          have HG := Lib.hid hg14
          have HRR := Lib.hid hr14
          have HOO := Lib.hid hoo14
          have HGE := Lib.hid hge12
          have HNE := Lib.hid hne12
          go_wp2
          go_meet
          exact fin_box2 HG.out HRR.out HOO.out HGE.out HNE.out
        · go_simp
          refine (HK2.out q12w hr12).mono ?_
          rintro en q15w ⟨rfl, hr15, ho15⟩
          have hoo15 := hoo12.trans ho15
          have hg15 := (ho15.block _ (Array.getElem?_eq_some_iff.1 hg12).1 (fun x hx => by cases hx; exact hne12)).trans hg12
          have hb15 := hr12.keep ho15 hb12
          refine hK _ _ trivial ?_
          clear hK
          apply anyT_one 2
          · rfl
          · kernel_rfl
          · kernel_rfl
          intro K hK
          have v2 := conv_bytes hb15
          go_simp
          refine hK _ _ trivial ?_
          clear hK v2
          refine anyT_pull [5] 7 0 (by intro c a d v w h; cases d <;> exact h) (by kernel_rfl) trivial ?_
          simp only [opsAt, List.filterMap_cons, List.filterMap_nil, List.getElem?_cons_zero, List.getElem?_cons_succ]
          apply held_step
          · kernel_rfl
          · rintro _ _
            go_simp
            rfl
          refine held_nil ?_
          refine anyT_done (by kernel_rfl) ?_
          simp only [opsAt, List.filterMap_cons, List.filterMap_nil, List.getElem?_cons_zero, List.getElem?_cons_succ]
          obtain ⟨k0, k1, k2', k3', kf⟩ := cells4 hg15
          have HG := Lib.hid hg15
          have HRR := Lib.hid hr15
          have HOO := Lib.hid hoo15
          have HGE := Lib.hid hge12
          have HNE := Lib.hid hne12
          go_wp2
          go_meet
          exact fin_box2 HG.out HRR.out HOO.out HGE.out HNE.out
    · go_simp
      have hg17 := heap_alloc_new wD (.cells #[.string ⟨#[]⟩, .int .u64 0, .bool false, .slice none 0 0] 37)
      have ha17 := below_alloc1 wD (.cells #[.string ⟨#[]⟩, .int .u64 0, .bool false, .slice none 0 0] 37)
      have hr17 := HRD.below ha17
      have hoo17 := HOD.trans (Oth.of_below ha17)
      have hne17 : bk ≠ wD.heap.size := Nat.ne_of_lt (Nat.lt_of_lt_of_le hbk1 HOD.size)
      have hge17 : w1.heap.size ≤ wD.heap.size := HOD.size
      refine hK _ _ trivial ?_
      clear hK
      generalize hgw17 : wD.alloc (.cells #[.string ⟨#[]⟩, .int .u64 0, .bool false, .slice none 0 0] 37) = q17w at *
      generalize hgs17 : wD.heap.size = g3 at *
      clear hgw17 ha17 hgs17
      apply anyT_one 1
      · rfl
      · kernel_rfl
      · kernel_rfl
      intro K hK
      go_simp
      refine (HK1.out q17w hr17).mono ?_
      rintro en q18w ⟨a2, n2, k2, rfl, hb18, hr18, ho18⟩
      have hoo18 := hoo17.trans ho18
      have hg18 := (ho18.block _ (Array.getElem?_eq_some_iff.1 hg17).1 (fun x hx => by cases hx; exact hne17)).trans hg17
      refine hK _ _ trivial ?_
      clear hK
      refine anyT_two 2 4 rfl rfl (by kernel_rfl) (by kernel_rfl) (by kernel_rfl) (fun K hK => ?_) (fun K hK => ?_)
      · have v2 := conv_bytes hb18
        go_simp
        refine hK _ _ trivial ?_
        clear hK v2
        apply anyT_one 4
        · rfl
        · kernel_rfl
        · kernel_rfl
        intro K hK
        go_simp
        refine (HK2.out q18w hr18).mono ?_
        rintro en q20w ⟨rfl, hr20, ho20⟩
        have hoo20 := hoo18.trans ho20
        have hg20 := (ho20.block _ (Array.getElem?_eq_some_iff.1 hg18).1 (fun x hx => by cases hx; exact hne17)).trans hg18
        refine hK _ _ trivial ?_
        clear hK
        refine anyT_pull [5] 7 0 (by intro c a d v w h; cases d <;> exact h) (by kernel_rfl) trivial ?_
        simp only [opsAt, List.filterMap_cons, List.filterMap_nil, List.getElem?_cons_zero, List.getElem?_cons_succ]
        apply held_step
        · kernel_rfl
        · rintro _ _
          go_simp
          rfl
        refine held_nil ?_
        refine anyT_done (by kernel_rfl) ?_
        simp only [opsAt, List.filterMap_cons, List.filterMap_nil, List.getElem?_cons_zero, List.getElem?_cons_succ]
        obtain ⟨k0, k1, k2', k3', kf⟩ := cells4 hg20
        have HG := Lib.hid hg20
        have HRR := Lib.hid hr20
        have HOO := Lib.hid hoo20
        have HGE := Lib.hid hge17
        have HNE := Lib.hid hne17
        go_wp2
        go_meet
        exact fin_box2 HG.out HRR.out HOO.out HGE.out HNE.out
      · go_simp
        refine (HK2.out q18w hr18).mono ?_
        rintro en q21w ⟨rfl, hr21, ho21⟩
        have hoo21 := hoo18.trans ho21
        have hg21 := (ho21.block _ (Array.getElem?_eq_some_iff.1 hg18).1 (fun x hx => by cases hx; exact hne17)).trans hg18
        have hb21 := hr18.keep ho21 hb18
        refine hK _ _ trivial ?_
        clear hK
        apply anyT_one 2
        · rfl
        · kernel_rfl
        · kernel_rfl
        intro K hK
        have v2 := conv_bytes hb21
        go_simp
        refine hK _ _ trivial ?_
        clear hK v2
        refine anyT_pull [5] 7 0 (by intro c a d v w h; cases d <;> exact h) (by kernel_rfl) trivial ?_
        simp only [opsAt, List.filterMap_cons, List.filterMap_nil, List.getElem?_cons_zero, List.getElem?_cons_succ]
        apply held_step
        · kernel_rfl
        · rintro _ _
          go_simp
          rfl
        refine held_nil ?_
        refine anyT_done (by kernel_rfl) ?_
        simp only [opsAt, List.filterMap_cons, List.filterMap_nil, List.getElem?_cons_zero, List.getElem?_cons_succ]
        obtain ⟨k0, k1, k2', k3', kf⟩ := cells4 hg21
        have HG := Lib.hid hg21
        have HRR := Lib.hid hr21
        have HOO := Lib.hid hoo21
        have HGE := Lib.hid hge17
        have HNE := Lib.hid hne17
        go_wp2
        go_meet
        exact fin_box2 HG.out HRR.out HOO.out HGE.out HNE.out
  case rest =>
  obtain ⟨g3, rfl, hg3, HG, HR2, HO2⟩ := hcut
  clear HK1 HK2 HR1
  have hne : bk ≠ g3 := by omega
  have hzn : w.heap.size < w1.heap.size := (Array.getElem?_eq_some_iff.1 HZ1.out).1
  have HZ2 := Lib.hid ((HO2.out.block w.heap.size hzn (fun x hx => by cases hx; simp only; omega)).trans HZ1.out)
  by_cases hbad : s2.2 = true
  · have HBAD : Hid (Sst.dent l = none) := Lib.hid (by rw [HDE.out, if_pos (.inl hbad)])
    have c1 : wc.cell? ⟨bk, 1, none⟩ = some (.bool true) := by obtain ⟨_, _, _, g1, _⟩ := HR2.out; rw [hbad] at g1; exact (cells2 g1).2.1
    have cf : ∀ j, wc.frozen? ⟨bk, j, none⟩ = false := by obtain ⟨_, _, _, g1, _⟩ := HR2.out; exact (cells2 g1).2.2
    have c0 : True := trivial
    go_upto_region 3 with fail
    obtain ⟨HRS, HOS⟩ := HR2.out.setBad true
    have HPS := Lib.hid (And.intro HRS HOS)
    have HZ3 := Lib.hid ((HOS.block w.heap.size (Array.getElem?_eq_some_iff.1 HZ2.out).1 (fun x hx => by cases hx; simp only; omega)).trans HZ2.out)
    have hs3 : (wc.setCell ⟨bk, 1, none⟩ (.bool true)).cell? ⟨bk, 1, none⟩ = some (.bool true) := by
      obtain ⟨_, _, _, g1, _⟩ := HRS
      exact (cells2 g1).2.1
    clear HRS HOS c0 c1 cf
    obtain ⟨z0, z1, z2, z3, zf⟩ := cells4 HZ3.out
    generalize wc.setCell ⟨bk, 1, none⟩ (.bool true) = w3 at *
    go_wp2
    obtain ⟨hs4, hoth⟩ := set4 (.string ⟨#[]⟩) (.int .u64 0) (.bool false) (.slice none 0 0) HZ3.out
    have hbw : bk ≠ w.heap.size := by omega
    have hP2 := HPS.out.1.other hoth HZ3.out hbw
    have hP3 := oth_bad HB1.out (HO2.out.trans HPS.out.2) hoth
    generalize World.setCell _ _ _ = W9 at *
    obtain ⟨y0, y1, y2, y3, _⟩ := cells4 hs4
    exact bodyPost_ret (v := ev ⟨[], 0, false, []⟩ none 0) (by rw [show ev ⟨[], 0, false, []⟩ none 0 = .agg #[.string ⟨#[]⟩, .int .u64 0, .bool false, .slice none 0 0] from rfl]; simp [results, Tryz.results83, go_sem, y0, y1, y2, y3]) rfl ⟨⟨[], 0, false, []⟩, none, 0, true, s2.1, rfl, World.ownsRow_nil _ _ _ _, hP2, hP3, .inr ⟨rfl, HBAD.out⟩⟩
  have hbf : s2.2 = false := by cases h : s2.2; rfl; exact absurd h hbad
  obtain ⟨a, n, c, q1, q2, q3⟩ := HR2.out
  rw [hbf] at q1
  have hn := q2.1
  have hn9 : n ≤ 1000000000 := by have := HL2.out; omega
  by_cases hem : s2.1 = []
  · have HBAD : Hid (Sst.dent l = none) := Lib.hid (by rw [HDE.out, if_pos (.inr (.inl hem))])
    obtain rfl : n = 0 := by rw [hem] at hn; exact hn.symm
    obtain ⟨c0, c1, cf⟩ := cells2 q1
    clear q1 q2 q3 hn hem
    go_upto_region 3 with fail
    obtain ⟨HRS, HOS⟩ := HR2.out.setBad true
    have HPS := Lib.hid (And.intro HRS HOS)
    have HZ3 := Lib.hid ((HOS.block w.heap.size (Array.getElem?_eq_some_iff.1 HZ2.out).1 (fun x hx => by cases hx; simp only; omega)).trans HZ2.out)
    have hs3 : (wc.setCell ⟨bk, 1, none⟩ (.bool true)).cell? ⟨bk, 1, none⟩ = some (.bool true) := by
      obtain ⟨_, _, _, g1, _⟩ := HRS
      exact (cells2 g1).2.1
    clear HRS HOS c0 c1 cf
    obtain ⟨z0, z1, z2, z3, zf⟩ := cells4 HZ3.out
    generalize wc.setCell ⟨bk, 1, none⟩ (.bool true) = w3 at *
    go_wp2
    obtain ⟨hs4, hoth⟩ := set4 (.string ⟨#[]⟩) (.int .u64 0) (.bool false) (.slice none 0 0) HZ3.out
    have hbw : bk ≠ w.heap.size := by omega
    have hP2 := HPS.out.1.other hoth HZ3.out hbw
    have hP3 := oth_bad HB1.out (HO2.out.trans HPS.out.2) hoth
    generalize World.setCell _ _ _ = W9 at *
    obtain ⟨y0, y1, y2, y3, _⟩ := cells4 hs4
    exact bodyPost_ret (v := ev ⟨[], 0, false, []⟩ none 0) (by rw [show ev ⟨[], 0, false, []⟩ none 0 = .agg #[.string ⟨#[]⟩, .int .u64 0, .bool false, .slice none 0 0] from rfl]; simp [results, Tryz.results83, go_sem, y0, y1, y2, y3]) rfl ⟨⟨[], 0, false, []⟩, none, 0, true, s2.1, rfl, World.ownsRow_nil _ _ _ _, hP2, hP3, .inr ⟨rfl, HBAD.out⟩⟩
  have hnp : 1 ≤ n := by rw [← hn]; exact List.length_pos_iff.2 hem
  have tn0 : ((n : Int) == 0) = false := by rw [beq_eq_false_iff_ne]; omega
  obtain ⟨b0, o0, rfl, hb0⟩ := q2.2.2.2.byte (i := 0) (by omega)
  rw [Nat.add_zero] at hb0
  obtain ⟨c0, c1, cf⟩ := cells2 q1
  by_cases hone : 1 < (nth s2.1 0).toNat
  · have HBAD : Hid (Sst.dent l = none) := Lib.hid (by rw [HDE.out, if_pos (.inr (.inr hone))])
    have hx1 : decide ((1 : Int) < n8 (nth s2.1 0)) = true := decide_eq_true (by unfold n8; omega)
    generalize n8 (nth s2.1 0) = y at *
    clear q1 q2 q3 hn hem hone
    go_upto_region 3 with fail
    obtain ⟨HRS, HOS⟩ := HR2.out.setBad true
    have HPS := Lib.hid (And.intro HRS HOS)
    have HZ3 := Lib.hid ((HOS.block w.heap.size (Array.getElem?_eq_some_iff.1 HZ2.out).1 (fun x hx => by cases hx; simp only; omega)).trans HZ2.out)
    have hs3 : (wc.setCell ⟨bk, 1, none⟩ (.bool true)).cell? ⟨bk, 1, none⟩ = some (.bool true) := by
      obtain ⟨_, _, _, g1, _⟩ := HRS
      exact (cells2 g1).2.1
    clear HRS HOS c0 c1 cf
    obtain ⟨z0, z1, z2, z3, zf⟩ := cells4 HZ3.out
    generalize wc.setCell ⟨bk, 1, none⟩ (.bool true) = w3 at *
    go_wp2
    obtain ⟨hs4, hoth⟩ := set4 (.string ⟨#[]⟩) (.int .u64 0) (.bool false) (.slice none 0 0) HZ3.out
    have hbw : bk ≠ w.heap.size := by omega
    have hP2 := HPS.out.1.other hoth HZ3.out hbw
    have hP3 := oth_bad HB1.out (HO2.out.trans HPS.out.2) hoth
    generalize World.setCell _ _ _ = W9 at *
    obtain ⟨y0, y1, y2, y3, _⟩ := cells4 hs4
    exact bodyPost_ret (v := ev ⟨[], 0, false, []⟩ none 0) (by rw [show ev ⟨[], 0, false, []⟩ none 0 = .agg #[.string ⟨#[]⟩, .int .u64 0, .bool false, .slice none 0 0] from rfl]; simp [results, Tryz.results83, go_sem, y0, y1, y2, y3]) rfl ⟨⟨[], 0, false, []⟩, none, 0, true, s2.1, rfl, World.ownsRow_nil _ _ _ _, hP2, hP3, .inr ⟨rfl, HBAD.out⟩⟩
  have HIF : Hid (¬ (s2.2 = true ∨ s2.1 = [] ∨ 1 < (nth s2.1 0).toNat)) := Lib.hid (by
    rintro (h | h | h)
    · exact hbad h
    · exact hem h
    · exact hone h)
  have hx1 : decide ((1 : Int) < n8 (nth s2.1 0)) = false := decide_eq_false (by unfold n8; omega)
  have hx2 : (n8 (nth s2.1 0) == 1) = (nth s2.1 0 == 1) := by
    by_cases e : nth s2.1 0 = 1
    · rw [e]; rfl
    · rw [beq_eq_false_iff_ne.2 e, beq_eq_false_iff_ne]
      intro h
      exact e (UInt8.toNat_inj.1 (by unfold n8 at h; rw [show (1 : UInt8).toNat = 1 from rfl]; omega))
  obtain ⟨gb, hgb⟩ : ∃ gb, (nth s2.1 0 == 1) = gb := ⟨_, rfl⟩
  rw [hgb] at hx2
  have HGB := Lib.hid hgb
  have hr2p : 1 ≤ s2.1.length := by omega
  have HQ1 := Lib.hid q1
  have HQ2 := Lib.hid q2
  have HQ3 := Lib.hid q3
  have HN := Lib.hid hn
  have HBF := Lib.hid hbf
  obtain ⟨y, hy⟩ : ∃ y, nth s2.1 0 = y := ⟨_, rfl⟩
  rw [hy] at hx1 hx2 hb0
  have HY := Lib.hid hy
  clear q1 q2 q3 hn hy hgb hone hem hbad hbf
  go_upto_region 3 with fail
  have HOS : Hid (Oth (some ⟨bk, 0, none⟩) wc (wc.setCell ⟨bk, 1, none⟩ (.bool false))) := Lib.hid ((Oth.refl _ wc).set (p := ⟨bk, 1, none⟩) (x := ⟨bk, 0, none⟩) rfl rfl _)
  have HQS : Hid ((wc.setCell ⟨bk, 1, none⟩ (.bool false)).heap[bk]? = some (.cells #[.slice (some ⟨b0, o0, none⟩) n c, .bool false] 143 (0, 0))) := Lib.hid (heap_set HQ1.out)
  obtain ⟨w3, hw3⟩ : ∃ w3, wc.setCell ⟨bk, 1, none⟩ (.bool false) = w3 := ⟨_, rfl⟩
  rw [hw3] at HOS HQS
  first | rw [hw3] | skip
  have HW3 := Lib.hid hw3
  clear hw3 c0 c1 cf hb0
  obtain ⟨c0, c1, cf⟩ := cells2 HQS.out
  have HB3 := Lib.hid (HQ2.out.notin HOS.out HQ1.out no_rd)
  have HR3 : Hid (RS2 w3 bk (s2.1, false)) := Lib.hid ⟨_, _, _, HQS.out, HB3.out, HQ3.out⟩
  have HG3 := Lib.hid ((HOS.out.block g3 (Array.getElem?_eq_some_iff.1 HG.out).1 (fun x hx => by cases hx; exact hne)).trans HG.out)
  have HZ3 := Lib.hid ((HOS.out.block w.heap.size (Array.getElem?_eq_some_iff.1 HZ2.out).1 (fun x hx => by cases hx; simp only; omega)).trans HZ2.out)
  have HO3 := Lib.hid (HO2.out.trans HOS.out)
  obtain ⟨k0, k1, k2, k3, kf⟩ := cells4 HG3.out
  have hb0 : w3.cell? ⟨b0, o0, none⟩ = some (.int .u8 (n8 y)) := by
    obtain ⟨b', o', ea, hc⟩ := HB3.out.2.2.2.byte (i := 0) (by omega)
    cases ea
    rw [Nat.add_zero] at hc
    rw [hc, HY.out]
  go_upto_region 6 with fail
  have HOG : Hid (Oth (some ⟨g3, 0, none⟩) w3 (w3.setCell ⟨g3, 2, none⟩ (.bool gb))) := Lib.hid ((Oth.refl _ w3).set (p := ⟨g3, 2, none⟩) (x := ⟨g3, 0, none⟩) rfl rfl _)
  have HGS : Hid ((w3.setCell ⟨g3, 2, none⟩ (.bool gb)).heap[g3]? = some (.cells #[.string (bstr xk), .int .u64 sq, .bool gb, .slice none 0 0] 37 (0, 0))) := Lib.hid (heap_set HG3.out)
  obtain ⟨w4, hw4⟩ : ∃ w4, w3.setCell ⟨g3, 2, none⟩ (.bool gb) = w4 := ⟨_, rfl⟩
  rw [hw4] at HOG HGS
  first | rw [hw4] | skip
  clear hw4 c0 c1 cf hb0 k0 k1 k2 k3 kf
  have HR4 := Lib.hid (HR3.out.other HOG.out HG3.out hne)
  have HZ4 := Lib.hid ((HOG.out.block w.heap.size (Array.getElem?_eq_some_iff.1 HZ3.out).1 (fun x hx => by cases hx; simp only; omega)).trans HZ3.out)
  go_wp2_with fail
  refine (take_two bk 1 0 (s2.1, false) w4 HR4.out (fun _ _ => hr2p)).mono ?_
  rintro en w5 ⟨rfl, hr5, ho5⟩
  have HR5 : Hid (RS2 w5 bk (s2.1.drop 1, false)) := Lib.hid (by unfold Sst.tk at hr5; simpa using hr5)
  have HO5 := Lib.hid ho5
  have HG5 := Lib.hid ((ho5.block g3 (Array.getElem?_eq_some_iff.1 HGS.out).1 (fun x hx => by cases hx; exact hne)).trans HGS.out)
  have HZ5 := Lib.hid ((ho5.block w.heap.size (Array.getElem?_eq_some_iff.1 HZ4.out).1 (fun x hx => by cases hx; simp only; omega)).trans HZ4.out)
  clear hr5 ho5
  go_wp2_with fail
  refine (rbytes_own bk (s2.1.drop 1, false) 33554432 w5 HR5.out (by have := HL2.out; rw [List.length_drop]; omega) (by omega)).mono ?_
  rintro en w6 ⟨a6, n6, k6, rfl, hb6, hr6, ho6⟩
  dsimp only at hb6 hr6
  obtain ⟨yv, hyv⟩ : ∃ yv, (Codec.rdBytes (s2.1.drop 1) (33554432 : Nat)).1 = yv := ⟨_, rfl⟩
  rw [hyv] at hb6
  have HYV := Lib.hid hyv
  obtain rfl : n6 = yv.length := hb6.bs.1.symm
  have HR6 := Lib.hid hr6
  have HB6 := Lib.hid hb6
  have HG6 := Lib.hid ((ho6.block g3 (Array.getElem?_eq_some_iff.1 HG5.out).1 (fun x hx => by cases hx; exact hne)).trans HG5.out)
  have HZ6 := Lib.hid ((ho6.block w.heap.size (Array.getElem?_eq_some_iff.1 HZ5.out).1 (fun x hx => by cases hx; simp only; omega)).trans HZ5.out)
  have HO56 := Lib.hid (HO5.out.trans ho6)
  obtain ⟨k0, k1, k2, k3, kf⟩ := cells4 HG6.out
  clear hb6 hr6 ho6 hyv
  go_upto_region 8 with fail
  have HOH : Hid (Oth (some ⟨g3, 0, none⟩) w6 (w6.setCell ⟨g3, 3, none⟩ (.slice a6 yv.length k6))) := Lib.hid ((Oth.refl _ w6).set (p := ⟨g3, 3, none⟩) (x := ⟨g3, 0, none⟩) rfl rfl _)
  have HGH : Hid ((w6.setCell ⟨g3, 3, none⟩ (.slice a6 yv.length k6)).heap[g3]? = some (.cells #[.string (bstr xk), .int .u64 sq, .bool gb, .slice a6 yv.length k6] 37 (0, 0))) := Lib.hid (heap_set HG6.out)
  obtain ⟨w7, hw7⟩ : ∃ w7, w6.setCell ⟨g3, 3, none⟩ (.slice a6 yv.length k6) = w7 := ⟨_, rfl⟩
  rw [hw7] at HOH HGH
  first | rw [hw7] | skip
  clear hw7 k0 k1 k2 k3 kf
  have HR7 := Lib.hid (HR6.out.other HOH.out HG6.out hne)
  have HB7 := Lib.hid (own_oth HB6.out HOH.out HG6.out (by decide))
  have HZ7 := Lib.hid ((HOH.out.block w.heap.size (Array.getElem?_eq_some_iff.1 HZ6.out).1 (fun x hx => by cases hx; simp only; omega)).trans HZ6.out)
  obtain ⟨k0, k1, k2, k3, kf⟩ := cells4 HGH.out
  obtain ⟨z0, z1, z2, z3, zf⟩ := cells4 HZ7.out
  go_wp2
  obtain ⟨hs4, hoth⟩ := set4 (.string (bstr xk)) (.int .u64 sq) (.bool gb) (.slice a6 yv.length k6) HZ7.out
  have hbw : bk ≠ w.heap.size := by omega
  have hP1 := own_oth HB7.out hoth HZ7.out (by decide)
  have hP2 := HR7.out.other hoth HZ7.out hbw
  have hP3 := oth_chain HB1.out HO3.out HOG.out HO56.out HOH.out hoth hg3
  generalize World.setCell _ _ _ = W9 at *
  obtain ⟨y0, y1, y2, y3, _⟩ := cells4 hs4
  refine bodyPost_ret (v := ev ⟨xk, sq, gb, yv⟩ a6 k6) (by simp [results, Tryz.results83, go_sem, y0, y1, y2, y3, ev]) rfl ?_
  have hfin := HDE.out
  rw [if_neg HIF.out, HYV.out, HGB.out] at hfin
  by_cases her : (Codec.rdBytes (s2.1.drop 1) (33554432 : Nat)).2.2 ≠ 0
  · rw [if_pos her] at hfin
    have e : Sst.tk (s2.1.drop 1, false) (Codec.rdBytes (s2.1.drop 1) (33554432 : Nat)).2.1 (Codec.rdBytes (s2.1.drop 1) (33554432 : Nat)).2.2 = (s2.1.drop 1, true) := by unfold Sst.tk; rw [if_pos (.inr her)]
    rw [e] at hP2
    exact ⟨_, a6, k6, true, _, rfl, hP1, hP2, hP3, .inr ⟨rfl, hfin⟩⟩
  · rw [if_neg her] at hfin
    have e : Sst.tk (s2.1.drop 1, false) (Codec.rdBytes (s2.1.drop 1) (33554432 : Nat)).2.1 (Codec.rdBytes (s2.1.drop 1) (33554432 : Nat)).2.2 = ((s2.1.drop 1).drop (Codec.rdBytes (s2.1.drop 1) (33554432 : Nat)).2.1, false) := by unfold Sst.tk; rw [if_neg (by rintro (h | h); exact absurd h (by simp); exact her h)]
    rw [e] at hP2
    exact ⟨_, a6, k6, false, _, rfl, hP1, hP2, hP3, .inl ⟨rfl, hfin⟩⟩
end Go.Proofs.YtjigfinpbdglnaaGreatDoor
