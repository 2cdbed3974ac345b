/- A value laid into a skip list. -/
import Derived.Test.YtgcealgkhlbgmaaMmU
import Derived.Test.YtgcealgkhlbgmaaReads2
namespace Go.Proofs.Ytgcealgkhlbgmaa
open Go.RowKit
set_option linter.unusedVariables false
set_option maxRecDepth 8000

/-- What putting tells. -/
def PutP (w : World) (B tb t0 : Nat) (ns : List Nd) (hg sz : Nat) (ad : Option Addr) (nd cd : Nat) (ld : List Int) (v : Ent) (va : Option Addr) (vc : Nat) (e : Ending) (w' : World) : Prop :=
  Keep (blocks tb t0 ns) w w' ∧
  ((∃ j, j < ns.length ∧ Ent.cmp (nth ns j).e v = 0 ∧ e = .returned (.tuple #[ev (nth ns j).e (nth ns j).va (nth ns j).vc, .bool true]) ∧ Tb w' B tb t0 (setv ns j v va vc) hg sz ad nd cd ld) ∨
   ((∀ j, j < ns.length → Ent.cmp (nth ns j).e v ≠ 0) ∧ e = .returned (.tuple #[.agg #[.string ByteArray.empty, .int .u64 0, .bool false, .slice none 0 0], .bool false]) ∧
     ∃ x : Nd, x.e = v ∧ x.va = va ∧ x.vc = vc ∧ x.h = tower ld ns.length ∧ (w.heap.size ≤ x.b ∧ w.heap.size ≤ x.t) ∧ Tb w' B tb t0 (ins ns (below ns v) x) (max hg (tower ld ns.length)) sz ad nd cd ld))
set_option maxHeartbeats 4000000 in
theorem put_any (B tb t0 : Nat) (ns : List Nd) (hg sz : Nat) (ad : Option Addr) (nd cd : Nat) (ld : List Int) (v : Ent) (va : Option Addr) (vc : Nat) (w : World) (h : Tb w B tb t0 ns hg sz ad nd cd ld) (hv : Bs w va v.val.length vc v.val) (hn : ns.length ≤ 1000000000) :
    Calls Try.prog 33 #[.pointer (some ⟨tb, 0, none⟩), ev v va vc, .func (.func 34) #[.pointer (some ⟨tb, 0, none⟩)] #[]] w (PutP w B tb t0 ns hg sz ad nd cd ld v va vc) := by
  have HT := Lib.hid h
  have HV := Lib.hid hv
  have HDR : Hid (∀ x, ad = some x → x.block < w.heap.size) := Lib.hid h.old
  have HLT : Hid (∀ b ∈ blocks tb t0 ns, b < w.heap.size) := Lib.hid fun b hb => (h.own b hb).2.1
  clear h hv
  unfold ev
  go_enter Try.func33, Try.ntmps33
  go_upto_region 1 with fail
  have hz0 : ((w.alloc (.cells #[.string (bstr v.key), .int .u64 v.seq, .bool v.gone, .slice va v.val.length vc] 30)).alloc (.cells #[.string ⟨#[]⟩, .int .u64 0, .bool false, .slice none 0 0] 30)).heap.size = w.heap.size + 2 := by simp
  have hb0 := two_boxes w (.cells #[.string (bstr v.key), .int .u64 v.seq, .bool v.gone, .slice va v.val.length vc] 30) (.cells #[.string ⟨#[]⟩, .int .u64 0, .bool false, .slice none 0 0] 30)
  have hx0 := (load_box w v va vc).below (below_alloc1 _ (.cells #[.string ⟨#[]⟩, .int .u64 0, .bool false, .slice none 0 0] 30))
  have hr0 := heap_alloc_new (w.alloc (.cells #[.string (bstr v.key), .int .u64 v.seq, .bool v.gone, .slice va v.val.length vc] 30)) (.cells #[.string ⟨#[]⟩, .int .u64 0, .bool false, .slice none 0 0] 30)
  rw [World.size_alloc] at hr0
  obtain ⟨W0, hW0⟩ : ∃ W0, (w.alloc (.cells #[.string (bstr v.key), .int .u64 v.seq, .bool v.gone, .slice va v.val.length vc] 30)).alloc (.cells #[.string ⟨#[]⟩, .int .u64 0, .bool false, .slice none 0 0] 30) = W0 := ⟨_, rfl⟩
  rw [hW0] at hz0 hb0 hx0 hr0 ⊢
  clear hW0
  have HZ0 := Lib.hid hz0
  have HB0 := Lib.hid hb0
  have HX0 := Lib.hid hx0
  have HR0 := Lib.hid hr0
  have HT0 := Lib.hid (HT.out.below hb0)
  have HV0 := Lib.hid (HV.out.below hb0)
  have x1 := hx0.key
  have x2 := hx0.seq
  have x3 := hx0.gone
  have x4 := hx0.val
  clear hz0 hb0 hx0 hr0
  obtain ⟨p, hp⟩ : ∃ p, p = below ns v := ⟨_, rfl⟩
  have hpl : p ≤ ns.length := by rw [hp]; exact below_le ns v
  go_wp2_with fail
  refine (ahead_any tb t0 ns v va vc W0 HT0.out.sl HV0.out).mono ?_
  rintro e w1 ⟨P, hP, rfl, hb1⟩
  rw [← hp] at hP
  have HP := Lib.hid hP
  have HPE := Lib.hid hp
  clear hp
  have HB1 := Lib.hid hb1
  have hsz1 := hb1.size
  clear hP hb1 x1 x2 x3 x4
  have e12 : ((List.range 12).map fun k => ptr (some (bk tb ns (P k)))).toArray = #[.pointer (some ⟨bk tb ns (P 0), 0, none⟩), .pointer (some ⟨bk tb ns (P 1), 0, none⟩), .pointer (some ⟨bk tb ns (P 2), 0, none⟩), .pointer (some ⟨bk tb ns (P 3), 0, none⟩), .pointer (some ⟨bk tb ns (P 4), 0, none⟩), .pointer (some ⟨bk tb ns (P 5), 0, none⟩), .pointer (some ⟨bk tb ns (P 6), 0, none⟩), .pointer (some ⟨bk tb ns (P 7), 0, none⟩), .pointer (some ⟨bk tb ns (P 8), 0, none⟩), .pointer (some ⟨bk tb ns (P 9), 0, none⟩), .pointer (some ⟨bk tb ns (P 10), 0, none⟩), .pointer (some ⟨bk tb ns (P 11), 0, none⟩)] := rfl
  rw [e12]
  clear e12
  go_upto_region 2 with fail
  have hr2 := heap_alloc_new w1 (.cells #[.pointer (some ⟨bk tb ns (P 0), 0, none⟩), .pointer (some ⟨bk tb ns (P 1), 0, none⟩), .pointer (some ⟨bk tb ns (P 2), 0, none⟩), .pointer (some ⟨bk tb ns (P 3), 0, none⟩), .pointer (some ⟨bk tb ns (P 4), 0, none⟩), .pointer (some ⟨bk tb ns (P 5), 0, none⟩), .pointer (some ⟨bk tb ns (P 6), 0, none⟩), .pointer (some ⟨bk tb ns (P 7), 0, none⟩), .pointer (some ⟨bk tb ns (P 8), 0, none⟩), .pointer (some ⟨bk tb ns (P 9), 0, none⟩), .pointer (some ⟨bk tb ns (P 10), 0, none⟩), .pointer (some ⟨bk tb ns (P 11), 0, none⟩)] 75)
  have hb2 := below_alloc1 w1 (.cells #[.pointer (some ⟨bk tb ns (P 0), 0, none⟩), .pointer (some ⟨bk tb ns (P 1), 0, none⟩), .pointer (some ⟨bk tb ns (P 2), 0, none⟩), .pointer (some ⟨bk tb ns (P 3), 0, none⟩), .pointer (some ⟨bk tb ns (P 4), 0, none⟩), .pointer (some ⟨bk tb ns (P 5), 0, none⟩), .pointer (some ⟨bk tb ns (P 6), 0, none⟩), .pointer (some ⟨bk tb ns (P 7), 0, none⟩), .pointer (some ⟨bk tb ns (P 8), 0, none⟩), .pointer (some ⟨bk tb ns (P 9), 0, none⟩), .pointer (some ⟨bk tb ns (P 10), 0, none⟩), .pointer (some ⟨bk tb ns (P 11), 0, none⟩)] 75)
  have hz2 := World.size_alloc w1 (.cells #[.pointer (some ⟨bk tb ns (P 0), 0, none⟩), .pointer (some ⟨bk tb ns (P 1), 0, none⟩), .pointer (some ⟨bk tb ns (P 2), 0, none⟩), .pointer (some ⟨bk tb ns (P 3), 0, none⟩), .pointer (some ⟨bk tb ns (P 4), 0, none⟩), .pointer (some ⟨bk tb ns (P 5), 0, none⟩), .pointer (some ⟨bk tb ns (P 6), 0, none⟩), .pointer (some ⟨bk tb ns (P 7), 0, none⟩), .pointer (some ⟨bk tb ns (P 8), 0, none⟩), .pointer (some ⟨bk tb ns (P 9), 0, none⟩), .pointer (some ⟨bk tb ns (P 10), 0, none⟩), .pointer (some ⟨bk tb ns (P 11), 0, none⟩)] 75)
  obtain ⟨W2, hW2⟩ : ∃ W2, w1.alloc (.cells #[.pointer (some ⟨bk tb ns (P 0), 0, none⟩), .pointer (some ⟨bk tb ns (P 1), 0, none⟩), .pointer (some ⟨bk tb ns (P 2), 0, none⟩), .pointer (some ⟨bk tb ns (P 3), 0, none⟩), .pointer (some ⟨bk tb ns (P 4), 0, none⟩), .pointer (some ⟨bk tb ns (P 5), 0, none⟩), .pointer (some ⟨bk tb ns (P 6), 0, none⟩), .pointer (some ⟨bk tb ns (P 7), 0, none⟩), .pointer (some ⟨bk tb ns (P 8), 0, none⟩), .pointer (some ⟨bk tb ns (P 9), 0, none⟩), .pointer (some ⟨bk tb ns (P 10), 0, none⟩), .pointer (some ⟨bk tb ns (P 11), 0, none⟩)] 75) = W2 := ⟨_, rfl⟩
  rw [hW2] at hr2 hb2 hz2 ⊢
  clear hW2
  have hall : AllC W2 w1.heap.size (fun j => .pointer (some ⟨bk tb ns (P j), 0, none⟩)) := fun j hj => by
    rw [cell_of_row _ _ j _ _ _ hr2]
    match j, hj with
    | 0, _ | 1, _ | 2, _ | 3, _ | 4, _ | 5, _ | 6, _ | 7, _ | 8, _ | 9, _ | 10, _ | 11, _ => rfl
    | k + 12, hj => omega
  have HALL := Lib.hid hall
  clear hr2 hall
  have hb12 := HB1.out.trans (hb2.mono HB1.out.size)
  have HB2 := Lib.hid (HB0.out.trans (hb12.mono HB0.out.size))
  have HT2 := Lib.hid (HT0.out.below hb12)
  have HV2 := Lib.hid (HV0.out.below hb12)
  have HX2 := Lib.hid (HX0.out.below hb12)
  have HR2 := Lib.hid ((hb12.block (w.heap.size + 1) (by have := HZ0.out; omega)).trans HR0.out)
  have HG : Hid (w.heap.size + 2 ≤ w1.heap.size ∧ W2.heap.size = w1.heap.size + 1) := Lib.hid ⟨by have := HZ0.out; omega, hz2⟩
  clear hb12 hb2 hz2 HB1 HB0 HT0 HV0 HX0 HR0 hsz1 HT HV HZ0
  have i0 := HALL.out 0 (by omega)
  obtain ⟨i1, ih12, itw⟩ := HT2.out.sl.place (i := P 0) (by have := (HP.out 0 (by omega)).1; omega)
  have i2 := itw 0 (HP.out 0 (by omega)).2.1
  rw [nxt_last hpl (HP.out 0 (by omega))] at i2
  clear itw ih12
  have hnx : (p < ns.length ∧ nxt 0 (ns.drop p) = some (nth ns p).b) ∨ (¬ p < ns.length ∧ nxt 0 (ns.drop p) = none) := by
    rcases nxt_from 0 ns p with ⟨h1, h2⟩ | ⟨j, h1, h2, h3, h4, h5⟩
    · refine .inr ⟨fun hlt => ?_, h1⟩
      have h3 := h2 p (Nat.le_refl _) hlt
      have h4 := (HT2.out.sl.nd p hlt).1.h1
      omega
    · by_cases e : p = j
      · subst e; exact .inl ⟨h2, h3⟩
      · have h6 := h5 p (Nat.le_refl _) (by omega)
        have h7 := (HT2.out.sl.nd p (by omega)).1.h1
        omega
  obtain ⟨o, ho⟩ : ∃ o, o = nxt 0 (ns.drop p) := ⟨_, rfl⟩
  rw [← ho] at i2 hnx
  have HNX := Lib.hid hnx
  clear ho hnx
  have hpos0 := (HP.out 0 (by omega)).2.1
  go_upto_region 3 with fail
  clear i0 i1 i2 hpos0
  have i5 := HT2.out.sl.cmp
  have v1 := HX2.out.key
  have v2 := HX2.out.seq
  have v3 := HX2.out.gone
  have v4 := HX2.out.val
  go_cut [36] (fun t wx => Hid (Below W2.heap.size W2 wx) ∧ ((t = .bool false ∧ Hid (∀ j, j < ns.length → Ent.cmp (nth ns j).e v ≠ 0)) ∨ (t = .bool true ∧ Hid (p < ns.length ∧ o = some (nth ns p).b ∧ Ent.cmp (nth ns p).e v = 0))))
  case first =>
    have hno : ∀ j, j < ns.length → j ≠ p → Ent.cmp (nth ns j).e v ≠ 0 := fun j hj hjp h0 => by
      have hp := HPE.out
      rcases Nat.lt_or_ge j p with h1 | h1
      · have := below_lt (ns := ns) (v := v) (j := j) (by omega)
        omega
      · have hs := List.pairwise_iff_getElem.1 HT2.out.sl.sorted p j (by simp; omega) (by simpa using hj) (by omega)
        rw [List.getElem_map, List.getElem_map, ← nth_eq _ (by omega), ← nth_eq _ hj] at hs
        have h2 := below_ge HT2.out.sl.sorted (v := v) (j := p) (by omega) (by omega)
        exact h2 (Ent.cmp_lt.2 (Ent.lt_eqv hs (Ent.cmp_eq.1 h0)))
    rcases HNX.out with ⟨hlt, rfl⟩ | ⟨hlt, rfl⟩
    · have hnd := (HT2.out.sl.nd p hlt).1.ent
      have x1 := hnd.key
      have x2 := hnd.seq
      have x3 := hnd.gone
      have x4 := hnd.val
      clear hnd
      obtain ⟨z, hz⟩ : ∃ z, z = Ent.cmp (nth ns p).e v := ⟨_, rfl⟩
      have HSM : Hid (∀ W : BW W2, Calls Try.prog 31 #[ev (nth ns p).e (nth ns p).va (nth ns p).vc, ev v va vc] W.w fun e w' => e = .returned (.int .i64 z) ∧ Below W.w.heap.size W.w w') := Lib.hid fun W => by
        have := cmp_any (nth ns p).e v (nth ns p).va va (nth ns p).vc vc W.w
        rwa [← hz] at this
      have HNO := Lib.hid hno
      have HZZ := Lib.hid hz
      clear hno hz
      show Code.wp _ _ _ _ _
      have hptr : ptr (some (nth ns p).b) = .pointer (some ⟨(nth ns p).b, 0, none⟩) := rfl
      simp only [hptr]
      clear hptr
      refine wp_region_class (w0 := W2) (by kernel_rfl) (by kernel_rfl) (Below.refl _ _) ?_
      replace i5 := BW.cell i5
      replace v1 := BW.cell v1
      replace v2 := BW.cell v2
      replace v3 := BW.cell v3
      replace v4 := BW.cell v4
      replace x1 := BW.cell x1
      replace x2 := BW.cell x2
      replace x3 := BW.cell x3
      replace x4 := BW.cell x4
      repeat (first | go_big_quiet_step ((go_at_call 31; exact calls_class (HSM.out _))))
      refine wpQuiet_nil ?_
      intro w9 hb9; replace hb9 := BW.of hb9
      clear i5 v1 v2 v3 v4 x1 x2 x3 x4
      go_wp2
      go_meet
      refine ⟨Lib.hid hb9, ?_⟩
      by_cases h0 : z = 0
      · exact .inr ⟨by simp [h0], Lib.hid ⟨hlt, by trivial, by rw [← HZZ.out]; exact h0⟩⟩
      · refine .inl ⟨by simp [h0], Lib.hid fun j hj => ?_⟩
        by_cases e : j = p
        · rw [e, ← HZZ.out]; exact h0
        · exact HNO.out j hj e
    · have HNO := Lib.hid hno
      clear hno
      have hptr : ptr none = .pointer none := rfl
      simp only [hptr]
      clear hptr
      refine wp_region_class (w0 := W2) (by kernel_rfl) (by kernel_rfl) (Below.refl _ _) ?_
      replace i5 := BW.cell i5
      replace v1 := BW.cell v1
      replace v2 := BW.cell v2
      replace v3 := BW.cell v3
      replace v4 := BW.cell v4
      repeat (first | go_big_quiet_step (fail))
      refine wpQuiet_nil ?_
      intro w9 hb9; replace hb9 := BW.of hb9
      clear i5 v1 v2 v3 v4
      go_wp2
      go_meet
      exact ⟨Lib.hid hb9, .inl ⟨rfl, Lib.hid fun j hj => HNO.out j hj (fun e => hlt (e ▸ hj))⟩⟩
  case rest =>
    obtain ⟨hbc, ⟨rfl, hno⟩ | ⟨rfl, hyes⟩⟩ := hcut
    · have hTc := HT2.out.below hbc.out
      have hXc := HX2.out.below hbc.out
      have v1 := hXc.key
      have v2 := hXc.seq
      have v3 := hXc.gone
      have v4 := hXc.val
      simp at v1 v2 v3 v4
      have HTC := Lib.hid hTc
      have HXC := Lib.hid hXc
      have HBW := Lib.hid (HB2.out.trans (hbc.out.mono HB2.out.size))
      have HRC := Lib.hid ((hbc.out.block (w.heap.size + 1) (by have := HG.out; omega)).trans HR2.out)
      have HALC : Hid (AllC wc w1.heap.size (fun j => .pointer (some ⟨bk tb ns (P j), 0, none⟩))) := Lib.hid fun j hj => cell_later hbc.out (HALL.out j hj)
      have HVC := Lib.hid (HV2.out.below hbc.out)
      have HSZ : Hid (w.heap.size + 2 ≤ w1.heap.size ∧ w1.heap.size < wc.heap.size) := Lib.hid ⟨HG.out.1, by have := HG.out.2; have := hbc.out.size; omega⟩
      have HTOW : Hid (∀ V : BW wc, Calls Try.prog 34 #[.pointer (some ⟨tb, 0, none⟩)] V.w fun r w' => r = .returned (.int .i64 (tower ld ns.length : Nat)) ∧ Below V.w.heap.size V.w w') := Lib.hid fun V => by
        have hTV := hTc.below V.b
        exact tower_any tb ad nd cd ns.length ld V.w hTV.draws hTV.sl.count hTV.ints hn
      clear hTc hXc hbc HB2 HT2 HV2 HX2 HR2 HALL HG HNX
      have hh : 1 ≤ tower ld ns.length ∧ tower ld ns.length ≤ 12 := by
        unfold tower
        split
        · omega
        · omega
      obtain ⟨h, hhe⟩ : ∃ h, h = tower ld ns.length := ⟨_, rfl⟩
      rw [← hhe] at HTOW hh
      have HHE := Lib.hid hhe
      clear hhe
      have hmk : ∀ w, (Instr.makeSlice 58 (.int .i64 h) (.int .i64 h)).run Try.prog w = .ok (.slice (some ⟨w.heap.size, 0, none⟩) h h) (w.alloc (.cells (madeCells #[.pointer none] h) 74)) := run_make_row' (P := Try.prog) 58 74 (.pointer none) 8 Try.underlying58 infoP rfl .i64 .i64 h (by omega) (by omega)
      go_upto_region 6 with fail
      refine wp_region_order [1] [0] [2, 3, 4, 5] [6] 6 (by intro c a d v w h; cases d <;> exact h) (by kernel_rfl) (by kernel_rfl) (fun W' => ∃ V : BW wc, W' = V.w) ⟨⟨wc.drew, (Below.refl _ _).drew⟩, rfl⟩ ?_
      simp only [opsAt, List.filterMap_cons, List.filterMap_nil, List.getElem?_cons_zero, List.getElem?_cons_succ]
      iterate 1
        apply held_step
        · rfl
        · intro W _
          go_simp
          rfl
      refine held_nil ?_
      iterate 1
        apply held_step
        · rfl
        · rintro _ ⟨V, rfl⟩
          have m1 := BW.cell v1 V
          have m2 := BW.cell v2 V
          have m3 := BW.cell v3 V
          have m4 := BW.cell v4 V
          go_simp
          rfl
      refine held_nil ?_
      refine walkS_step rfl (fun K hK => ?_)
      go_simp
      refine (HTOW.out ⟨wc.drew, (Below.refl _ _).drew⟩).mono ?_
      rintro _ w5 ⟨rfl, hb5⟩
      have hb5' : Below wc.heap.size wc w5 := ((Below.refl wc.heap.size wc).drew).trans hb5
      refine hK _ _ ⟨⟨w5, hb5'⟩, rfl⟩ ?_
      refine walkS_step rfl (fun K hK => ?_)
      go_simp
      refine hK _ _ ⟨⟨_, hb5'.alloc hb5'.size _⟩, rfl⟩ ?_
      refine walkS_step rfl (fun K hK => ?_)
      go_simp
      refine hK _ _ ⟨⟨_, hb5'.alloc hb5'.size _⟩, rfl⟩ ?_
      refine walkS_step rfl (fun K hK => ?_)
      go_simp
      refine hK _ _ ⟨⟨_, (hb5'.alloc hb5'.size _).alloc (by simp; have := hb5'.size; omega) _⟩, rfl⟩ ?_
      refine walkS_nil ?_
      clear hK hmk v1 v2 v3 v4
      have hrt := (Below.heap_alloc (w5.alloc (.cells (madeCells #[.pointer none] h) 74)) (.cells #[.string (bstr v.key), .int .u64 v.seq, .bool v.gone, .slice va v.val.length vc, .slice (some ⟨w5.heap.size, 0, none⟩) h h] 60) w5.heap.size (by simp)).trans (heap_alloc_new w5 (.cells (madeCells #[.pointer none] h) 74))
      have hrb := heap_alloc_new (w5.alloc (.cells (madeCells #[.pointer none] h) 74)) (.cells #[.string (bstr v.key), .int .u64 v.seq, .bool v.gone, .slice va v.val.length vc, .slice (some ⟨w5.heap.size, 0, none⟩) h h] 60)
      rw [World.size_alloc] at hrb
      have hz6 : ((w5.alloc (.cells (madeCells #[.pointer none] h) 74)).alloc (.cells #[.string (bstr v.key), .int .u64 v.seq, .bool v.gone, .slice va v.val.length vc, .slice (some ⟨w5.heap.size, 0, none⟩) h h] 60)).heap.size = w5.heap.size + 2 := by simp
      have hb6 := (hb5'.alloc hb5'.size (.cells (madeCells #[.pointer none] h) 74)).alloc (by simp; have := hb5'.size; omega) (.cells #[.string (bstr v.key), .int .u64 v.seq, .bool v.gone, .slice va v.val.length vc, .slice (some ⟨w5.heap.size, 0, none⟩) h h] 60)
      obtain ⟨W6, hW6⟩ : ∃ W6, (w5.alloc (.cells (madeCells #[.pointer none] h) 74)).alloc (.cells #[.string (bstr v.key), .int .u64 v.seq, .bool v.gone, .slice va v.val.length vc, .slice (some ⟨w5.heap.size, 0, none⟩) h h] 60) = W6 := ⟨_, rfl⟩
      rw [hW6] at hrt hrb hz6 hb6 ⊢
      clear hW6
      have hz5 := hb5'.size
      have hsz := HSZ.out
      have HT6 := Lib.hid (HTC.out.below hb6)
      have hxn : NdAt W6 ⟨w5.heap.size + 1, w5.heap.size, h, v, va, vc⟩ := ⟨EntAt.of_cells fun j u hj => by
          rw [cell_of_row _ _ _ _ _ _ hrb, Nat.zero_add]
          match j, hj with
          | 0, hj => exact hj
          | 1, hj => exact hj
          | 2, hj => exact hj
          | 3, hj => exact hj
          | j + 4, hj => simp [entCells] at hj, cell_of_row _ _ 4 _ _ _ hrb, HVC.out.below hb6, hh.1, hh.2⟩
      have hxc : ∀ j, j < h → W6.cell? ⟨w5.heap.size, j, none⟩ = some (ptr none) := fun j hj => by
        rw [cell_of_row _ _ _ _ _ _ hrt]
        have h1 : j % 1 = 0 := Nat.mod_one j
        simp [madeCells, hj, ptr, h1]
      have HXN := Lib.hid hxn
      have HM0 : Hid (Mid W6 W6 t0 ns p ⟨w5.heap.size + 1, w5.heap.size, h, v, va, vc⟩ 0) := Lib.hid (Mid.start HT6.out.sl hpl hxc)
      have HAL6 : Hid (AllC W6 w1.heap.size (fun j => .pointer (some ⟨bk tb ns (P j), 0, none⟩))) := Lib.hid fun j hj => cell_later hb6 (HALC.out j hj)
      have HR6 := Lib.hid ((hb6.block (w.heap.size + 1) (by omega)).trans HRC.out)
      have HB6 := Lib.hid (HBW.out.trans (hb6.mono HBW.out.size))
      have HF6 : Hid (∀ b, b = w5.heap.size + 1 ∨ b = w5.heap.size → b < W6.heap.size ∧ (∀ j, W6.frozen? ⟨b, j, none⟩ = false) ∧ Kind W6 b) := Lib.hid fun b hb => by
        rcases hb with rfl | rfl
        · exact ⟨by omega, fun j => by simp [World.frozen?, hrb], _, _, shape_of hrb, .inr (.inl rfl)⟩
        · exact ⟨by omega, fun j => by simp [World.frozen?, hrt], _, _, shape_of hrt, .inr (.inr rfl)⟩
      have i4 := hxn.nx
      clear hb5 hb5' hrt hrb hb6 hxn hxc HTC HXC HBW HRC HALC HVC HSZ
      have hz6' := Lib.hid hz6
      clear hz6
      have hnod := HT6.out.nodup
      have hbB : ∀ b, b = w5.heap.size + 1 ∨ b = w5.heap.size → b ∉ blocks tb t0 ns := fun b hb hm => by
        have h1 := HLT.out b hm
        omega
      have HNOD := Lib.hid hnod
      have HBB := Lib.hid hbB
      have hkeepc : ∀ (wr : World) (k : Nat), Mid W6 wr t0 ns p ⟨w5.heap.size + 1, w5.heap.size, h, v, va, vc⟩ k → ∀ b j u, b ≠ w5.heap.size → b ∉ tws t0 ns → W6.cell? ⟨b, j, none⟩ = some u → wr.cell? ⟨b, j, none⟩ = some u := fun wr k hm b j u h1 h2 h3 =>
        hm.keep.cell (p := ⟨b, j, none⟩) (fun h' => by
          rcases List.mem_cons.1 h' with e | e
          · exact h1 e
          · exact h2 e) h3
      have HKC := Lib.hid hkeepc
      clear hnod hbB hkeepc
      go_wp2_with fail
      go_loopw [57] (fun i wr => ∃ k : Nat, k ≤ h ∧ i = .int .i64 k ∧ Hid (Mid W6 wr t0 ns p ⟨w5.heap.size + 1, w5.heap.size, h, v, va, vc⟩ k)) (fun i _ => h - (intOf i).toNat)
      case atStart => exact ⟨0, Nat.zero_le _, rfl, HM0⟩
      case round =>
        obtain ⟨k, hk, rfl, hM⟩ := hrel
        by_cases hlt : k < h
        · have hL := HP.out k (by omega)
          have hPl : P k ≤ ns.length := by have := hL.1; omega
          have hkht := hL.2.1
          obtain ⟨j1, j2, _⟩ := HT6.out.sl.place (i := P k) hPl
          have htws : ∀ b, b ∉ blocks tb t0 ns → b ∉ tws t0 ns := fun b h1 h2 => h1 (tws_sub h2)
          have c1 := HKC.out wr k hM.out _ _ _ (by omega) (htws _ (HBB.out _ (.inl rfl))) i4
          have c2 : wr.cell? ⟨w1.heap.size, k, none⟩ = some (.pointer (some ⟨bk tb ns (P k), 0, none⟩)) := HKC.out wr k hM.out _ _ _ (by omega) (fun hm => by have := HLT.out _ (tws_sub hm); omega) (HAL6.out k (by omega))
          have c3 := HKC.out wr k hM.out _ _ _ (fun e => HBB.out _ (.inr rfl) (e ▸ bk_mem hPl)) (bk_tws HNOD.out hPl) j1
          have c4 := hM.out.low (P k) hL.1 k hkht
          rw [if_neg (Nat.lt_irrefl _), nxt_last hpl hL] at c4
          have c5 := hM.out.new k hlt
          rw [if_neg (Nat.lt_irrefl _)] at c5
          have f5 : wr.frozen? ⟨w5.heap.size, k, none⟩ = false := by
            obtain ⟨g1, g2, g3⟩ := HF6.out _ (.inr rfl)
            exact (hM.out.keep.frz ⟨w5.heap.size, k, none⟩ g1).trans (g2 k)
          have f4 : wr.frozen? ⟨tw t0 ns (P k), k, none⟩ = false := by
            obtain ⟨g1, g2, g3, g4⟩ := HT6.out.own _ (tw_mem hPl)
            exact (hM.out.keep.frz ⟨tw t0 ns (P k), k, none⟩ g2).trans (g3 k)
          have HMS := Lib.hid (hM.out.drew.step hlt hh.2 hpl hL HNOD.out (HBB.out _ (.inr rfl)))
          have hk12 : (k : Int) < 12 := by omega
          have hkh : (k : Int) < (h : Int) := by omega
          have hkt : (k : Int) < (ht ns (P k) : Int) := by omega
          have hne1 : tw t0 ns (P k) ≠ w5.heap.size := fun e => HBB.out _ (.inr rfl) (e ▸ tw_mem hPl)
          have hne2 : w5.heap.size ≠ tw t0 ns (P k) := fun e => hne1 e.symm
          clear hM i4 j1 htws j2 hPl hL
          have c6 : (wr.setCell ⟨w5.heap.size, k, none⟩ (ptr (nxt k (ns.drop p)))).cell? ⟨tw t0 ns (P k), k, none⟩ = some (ptr (nxt k (ns.drop p))) := (World.cell?_setCell_other _ _ _ _ (fun e => hne2 (congrArg Addr.block e))).trans c4
          generalize P k = i at *
          obtain ⟨nx, hnx⟩ : ∃ nx, nx = (nxt k (ns.drop p)).map (fun b => (⟨b, 0, none⟩ : Addr)) := ⟨_, rfl⟩
          have hnx2 : ptr (nxt k (ns.drop p)) = .pointer nx := by rw [hnx]
          rw [hnx2] at c4 c6 HMS
          clear hnx hnx2
          go_upto_region 10 with fail
          refine wp_region_order [0, 1, 2, 4, 5, 6, 11, 12, 13, 18, 21] [3, 7, 8, 9, 10, 14, 15, 16, 17, 19, 20] [] [22, 23, 24, 25] 22 (by intro c a d v w h; cases d <;> exact h) (by kernel_rfl) (by kernel_rfl) (fun W' => ∃ V : BW wr, W' = V.w) ⟨⟨wr.drew, (Below.refl _ _).drew⟩, rfl⟩ ?_
          simp only [opsAt, List.filterMap_cons, List.filterMap_nil, List.getElem?_cons_zero, List.getElem?_cons_succ]
          iterate 11
            apply held_step
            · rfl
            · intro W _
              go_simp
              rfl
          refine held_nil ?_
          iterate 11
            apply held_step
            · rfl
            · rintro _ ⟨V, rfl⟩
              have m1 := BW.cell c1 V
              have m2 := BW.cell c2 V
              have m3 := BW.cell c3 V
              have m4 := BW.cell c4 V
              go_simp
              rfl
          refine held_nil ?_
          refine walkS_nil ?_
          go_wp2
          go_roundw
          case rel => exact ⟨k + 1, by omega, by go_num, HMS.out⟩
          case measure => simp [intOf]; omega
        · obtain rfl : k = h := by omega
          have hMd := hM.out
          have hMk := hMd.keep
          have HM9 := Lib.hid hMd
          have htb1 : ∀ j u, W6.cell? ⟨tb, j, none⟩ = some u → wr.cell? ⟨tb, j, none⟩ = some u := fun j u hu => HKC.out wr k hMd _ _ _ (fun e => HBB.out _ (.inr rfl) (e ▸ (by simp [blocks]))) (bk_tws HNOD.out (i := 0) (Nat.zero_le _)) hu
          have c1 := HKC.out wr k hMd _ _ _ (by omega) (fun hm => HBB.out _ (.inl rfl) (tws_sub hm)) i4
          have c2 := htb1 6 _ HT6.out.height
          have c3 := htb1 7 _ HT6.out.sl.count
          have hR9 : ∀ j u, (#[Value.string ⟨#[]⟩, .int .u64 0, .bool false, .slice none 0 0] : Array Value)[j]? = some u → wr.cell? ⟨w.heap.size + 1, j, none⟩ = some u := fun j u hu => HKC.out wr k hMd _ _ _ (by omega) (fun hm => by have := HLT.out _ (tws_sub hm); omega) (by rw [cell_of_row _ _ _ _ _ _ HR6.out]; exact hu)
          have r0 := hR9 0 _ rfl
          have r1 := hR9 1 _ rfl
          have r2 := hR9 2 _ rfl
          have r3 := hR9 3 _ rfl
          have fr9 : ∀ j, wr.frozen? ⟨w.heap.size + 1, j, none⟩ = false := fun j => (hMk.frz ⟨w.heap.size + 1, j, none⟩ (by have := hz6'.out; show w.heap.size + 1 < W6.heap.size; omega)).trans (by simp [World.frozen?, HR6.out])
          have ft9 : ∀ j, wr.frozen? ⟨tb, j, none⟩ = false := fun j => by
            obtain ⟨g1, g2, g3, g4⟩ := HT6.out.own tb (by simp [blocks])
            exact (hMk.frz ⟨tb, j, none⟩ g2).trans (g3 j)
          clear hM hMd hMk htb1 hR9 i4
          go_upto_region 12 with fail
          refine wp_region_still_tail 11 (by kernel_rfl) (by kernel_rfl) ?_
          simp only [List.take_succ_cons, List.take_zero, List.drop_succ_cons, List.drop_zero]
          repeat still_step
          refine wpStill_nil ?_
          have HPN := Lib.hid hpl
          have hend : ∀ hg' : Nat, hg' = max hg k → ∀ W9, W9 = (put4 ((wr.setCell ⟨tb, 6, none⟩ (.int .i64 (hg' : Nat))).setCell ⟨tb, 7, none⟩ (.int .i64 ((ns.length + 1 : Nat) : Int))) (w.heap.size + 1) default none 0).drew →
              PutP w B tb t0 ns hg sz ad nd cd ld v va vc (.returned (.tuple #[.agg #[.string ByteArray.empty, .int .u64 0, .bool false, .slice none 0 0], .bool false])) W9 ∧ EntAt W9 (w.heap.size + 1) 0 default none 0 := fun hg' hge W9 hW9 => by
            subst hW9
            have hTi : Tb ((wr.setCell ⟨tb, 6, none⟩ (.int .i64 (hg' : Nat))).setCell ⟨tb, 7, none⟩ (.int .i64 ((ns.length + 1 : Nat) : Int))) B tb t0 (ins ns p ⟨w5.heap.size + 1, w5.heap.size, k, v, va, vc⟩) hg' sz ad nd cd ld :=
              HT6.out.insert HM9.out HPE.out HXN.out hno.out (fun b hb => ⟨HBB.out b hb, by have hb' : b = w5.heap.size + 1 ∨ b = w5.heap.size := hb; have := HLT.out tb (by simp [blocks]); have := (HT6.out.own tb (by simp [blocks])).1; omega, (HF6.out b hb).1, (HF6.out b hb).2.1, (HF6.out b hb).2.2, fun a ha => by have hb' : b = w5.heap.size + 1 ∨ b = w5.heap.size := hb; have := HDR.out a ha; omega⟩) (by show w5.heap.size + 1 ≠ w5.heap.size; omega)
            have hk1 : Keep (w5.heap.size :: tws t0 ns) W6 wr := HM9.out.keep
            have hEz : EntAt wr (w.heap.size + 1) 0 default none 0 := ⟨r0, r1, r2, r3⟩
            have hk2 : Keep (blocks tb t0 ns) w wr := (Keep.of_below HB6.out).trans' hk1 (fun g hg => by
              rcases List.mem_cons.1 hg with e | e
              · exact .inr (by omega)
              · exact .inl (tws_sub e))
            have hntb : w.heap.size + 1 ≠ tb := by have := HLT.out tb (by simp [blocks]); omega
            have c3' : (wr.setCell ⟨tb, 6, none⟩ (.int .i64 (hg' : Nat))).cell? ⟨tb, 7, none⟩ = some (.int .i64 ns.length) := (World.cell?_setCell_other _ _ _ _ (addr_ne (by decide))).trans c3
            have hk3 : Keep (blocks tb t0 ns) w ((wr.setCell ⟨tb, 6, none⟩ (.int .i64 (hg' : Nat))).setCell ⟨tb, 7, none⟩ (.int .i64 ((ns.length + 1 : Nat) : Int))) :=
              (hk2.set (p := ⟨tb, 6, none⟩) _ (.inr ⟨by simp [blocks], fun n => by rw [c2]; exact fun e => by cases e⟩)).set (p := ⟨tb, 7, none⟩) _ (.inr ⟨by simp [blocks], fun n => by rw [c3']; exact fun e => by cases e⟩)
            have hE9 : EntAt ((wr.setCell ⟨tb, 6, none⟩ (.int .i64 (hg' : Nat))).setCell ⟨tb, 7, none⟩ (.int .i64 ((ns.length + 1 : Nat) : Int))) (w.heap.size + 1) 0 default none 0 := by
              have ho : ∀ j u, wr.cell? ⟨w.heap.size + 1, j, none⟩ = some u → ((wr.setCell ⟨tb, 6, none⟩ (.int .i64 (hg' : Nat))).setCell ⟨tb, 7, none⟩ (.int .i64 ((ns.length + 1 : Nat) : Int))).cell? ⟨w.heap.size + 1, j, none⟩ = some u := fun j u hu =>
                (World.cell?_setCell_other _ _ _ _ (fun e => hntb (congrArg Addr.block e).symm)).trans ((World.cell?_setCell_other _ _ _ _ (fun e => hntb (congrArg Addr.block e).symm)).trans hu)
              exact ⟨ho _ _ hEz.key, ho _ _ hEz.seq, ho _ _ hEz.gone, ho _ _ hEz.val⟩
            have hk4 := (hk3.put4 (e := default) (a := none) (c := 0) (e' := default) (a' := none) (c' := 0) (b := w.heap.size + 1) (.inl (Nat.le_succ _))).trans (Keep.of_below (Below.refl _ _).drew)
            refine ⟨⟨hk4, .inr ⟨hno.out, rfl, ⟨w5.heap.size + 1, w5.heap.size, k, v, va, vc⟩, rfl, rfl, rfl, HHE.out, ⟨by show w.heap.size ≤ w5.heap.size + 1; omega, by show w.heap.size ≤ w5.heap.size; omega⟩, ?_⟩⟩, (put4_at hE9).below (Below.refl _ _).drew⟩
            rw [← HHE.out, ← hge, ← HPE.out]
            refine (hTi.keep (S := [w.heap.size + 1]) ((Keep.refl _ _).put4 (e' := default) (a' := none) (c' := 0) (.inr ⟨List.mem_singleton.2 rfl, hE9⟩)) (fun b hb hm => ?_) (fun x hx hm => ?_)).below (Below.refl _ _).drew
            · have h1 := List.mem_singleton.1 hb
              have h2 : p ≤ ns.length := HPN.out
              rcases List.mem_cons.1 ((blocks_perm tb t0 ns p _).mem_iff.1 hm) with e | e
              · have e' : b = w5.heap.size + 1 := e
                omega
              · rcases List.mem_cons.1 e with e | e
                · have e' : b = w5.heap.size := e
                  omega
                · have := HLT.out b e
                  omega
            · have h1 := HDR.out x hx
              have h2 := List.mem_singleton.1 hm
              omega
          have HEND := Lib.hid hend
          clear hend
          go_wp2_with fail
          · generalize hW : World.drew _ = W9
            obtain ⟨hp9, he9⟩ := HEND.out k (by omega) W9 hW.symm
            have q0 : W9.cell? ⟨w.heap.size + 1, 0, none⟩ = some (.string ⟨#[]⟩) := he9.key
            have q1 : W9.cell? ⟨w.heap.size + 1, 1, none⟩ = some (.int .u64 0) := he9.seq
            have q2 : W9.cell? ⟨w.heap.size + 1, 2, none⟩ = some (.bool false) := he9.gone
            have q3 : W9.cell? ⟨w.heap.size + 1, 3, none⟩ = some (.slice none 0 0) := he9.val
            refine bodyPost_ret (v := .tuple #[.agg #[.string ⟨#[]⟩, .int .u64 0, .bool false, .slice none 0 0], .bool false]) (by simp [results, Try.results33, go_sem, q0, q1, q2, q3]) rfl hp9
          · generalize hW : World.drew _ = W9
            obtain ⟨hp9, he9⟩ := HEND.out hg (by omega) W9 hW.symm
            have q0 : W9.cell? ⟨w.heap.size + 1, 0, none⟩ = some (.string ⟨#[]⟩) := he9.key
            have q1 : W9.cell? ⟨w.heap.size + 1, 1, none⟩ = some (.int .u64 0) := he9.seq
            have q2 : W9.cell? ⟨w.heap.size + 1, 2, none⟩ = some (.bool false) := he9.gone
            have q3 : W9.cell? ⟨w.heap.size + 1, 3, none⟩ = some (.slice none 0 0) := he9.val
            refine bodyPost_ret (v := .tuple #[.agg #[.string ⟨#[]⟩, .int .u64 0, .bool false, .slice none 0 0], .bool false]) (by simp [results, Try.results33, go_sem, q0, q1, q2, q3]) rfl hp9
    · have hbW := HB2.out.trans (hbc.out.mono HB2.out.size)
      have hTc := HT2.out.below hbc.out
      have hVc := HV2.out.below hbc.out
      have hXc := HX2.out.below hbc.out
      have hRc := (hbc.out.block (w.heap.size + 1) (by have := HG.out; omega)).trans HR2.out
      obtain ⟨hlt, rfl, hc0⟩ := hyes.out
      have hbm := hTc.own (nth ns p).b (by rw [nth_bk (tb := tb)]; exact bk_mem (by omega))
      have hne1 : (nth ns p).b < w.heap.size := HLT.out _ (by rw [nth_bk (tb := tb)]; exact bk_mem (by omega))
      have hnd := (hTc.sl.nd p hlt).1.ent
      have n1 := hnd.key
      have n2 := hnd.seq
      have n3 := hnd.gone
      have n4 := hnd.val
      have v1 := hXc.key
      have v2 := hXc.seq
      have v3 := hXc.gone
      have v4 := hXc.val
      have r0 := cell_of_row _ _ 0 _ _ _ hRc
      have r1 := cell_of_row _ _ 1 _ _ _ hRc
      have r2 := cell_of_row _ _ 2 _ _ _ hRc
      have r3 := cell_of_row _ _ 3 _ _ _ hRc
      have fr : ∀ j, wc.frozen? ⟨w.heap.size + 1, j, none⟩ = false := fun j => by simp [World.frozen?, hRc]
      have fn : ∀ j, wc.frozen? ⟨(nth ns p).b, j, none⟩ = false := hbm.2.2.1
      simp at n1 n2 n3 n4 v1 v2 v3 v4 r0 r1 r2 r3
      have HTC := Lib.hid hTc
      have HVC := Lib.hid hVc
      have HBW := Lib.hid hbW
      have HND := Lib.hid hnd
      have HXC := Lib.hid hXc
      have HRC := Lib.hid hRc
      have HC0 := Lib.hid hc0
      have HNE := Lib.hid hne1
      clear hbW hTc hVc hXc hRc hyes hbm hnd hc0 hne1
      have hptr : ptr (some (nth ns p).b) = .pointer (some ⟨(nth ns p).b, 0, none⟩) := rfl
      simp only [hptr]
      clear hptr
      go_upto_region 4 with fail
      refine wp_region_order [0, 1, 2, 3] [4, 5] [6] [7, 8, 9] 7 (by intro c a d v w h; cases d <;> exact h) (by kernel_rfl) (by kernel_rfl) (fun W' => EntAt W' (nth ns p).b 0 (nth ns p).e (nth ns p).va (nth ns p).vc ∧ EntAt W' w.heap.size 0 v va vc) ?_ ?_
      · exact ⟨HND.out.below (Below.refl _ _).drew, HXC.out.below (Below.refl _ _).drew⟩
      simp only [opsAt, List.filterMap_cons, List.filterMap_nil, List.getElem?_cons_zero, List.getElem?_cons_succ]
      iterate 4
        apply held_step
        · rfl
        · intro W _
          go_simp
          rfl
      refine held_nil ?_
      iterate 2
        apply held_step
        · rfl
        · rintro W ⟨⟨q1, q2, q3, q4⟩, q5, q6, q7, q8⟩
          simp at q1 q2 q3 q4 q5 q6 q7 q8
          go_simp
          rfl
      refine held_nil ?_
      refine walkS_step rfl (fun K hK => ?_)
      go_simp
      have e4 : ((((wc.setCell ⟨w.heap.size + 1, 0, none⟩ (.string (bstr (nth ns p).e.key))).setCell ⟨w.heap.size + 1, 1, none⟩ (.int .u64 (nth ns p).e.seq)).setCell ⟨w.heap.size + 1, 2, none⟩ (.bool (nth ns p).e.gone)).setCell ⟨w.heap.size + 1, 3, none⟩ (.slice (nth ns p).va (nth ns p).e.val.length (nth ns p).vc)).drew = (put4 wc (w.heap.size + 1) (nth ns p).e (nth ns p).va (nth ns p).vc).drew := rfl
      have hk4 : Keep [w.heap.size + 1] wc (put4 wc (w.heap.size + 1) (nth ns p).e (nth ns p).va (nth ns p).vc).drew :=
        ((Keep.refl [w.heap.size + 1] wc).put4 (e' := default) (a' := none) (c' := 0) (.inr ⟨List.mem_singleton.2 rfl, ⟨r0, r1, r2, r3⟩⟩)).trans (Keep.of_below (Below.refl _ _).drew)
      have hr4 : EntAt (put4 wc (w.heap.size + 1) (nth ns p).e (nth ns p).va (nth ns p).vc).drew (w.heap.size + 1) 0 (nth ns p).e (nth ns p).va (nth ns p).vc := (put4_at (e' := default) (a' := none) (c' := 0) ⟨r0, r1, r2, r3⟩).below (Below.refl _ _).drew
      rw [e4]
      clear e4 r0 r1 r2 r3
      obtain ⟨W4, hW4⟩ : ∃ W4, (put4 wc (w.heap.size + 1) (nth ns p).e (nth ns p).va (nth ns p).vc).drew = W4 := ⟨_, rfl⟩
      rw [hW4] at hk4 hr4 ⊢
      clear hW4
      have hnd4 := HND.out.keep hk4 (fun hm => by have := List.mem_singleton.1 hm; have := HNE.out; omega)
      have hx4 := HXC.out.keep hk4 (fun hm => by have := List.mem_singleton.1 hm; omega)
      have hsl : w.heap.size + 1 < wc.heap.size := by have := hbc.out.size; have := HG.out; omega
      have hT4 := HTC.out.keep hk4 (fun b hb hm => by have := List.mem_singleton.1 hb; have := HLT.out b hm; omega) (fun x hx hm => by
        have h1 := HDR.out x hx
        have h2 := List.mem_singleton.1 hm
        omega)
      refine hK _ _ ⟨hnd4, hx4⟩ ?_
      refine walkS_nil ?_
      clear hK
      have fr4 : ∀ j, W4.frozen? ⟨w.heap.size + 1, j, none⟩ = false := fun j => (hk4.frz ⟨w.heap.size + 1, j, none⟩ hsl).trans (fr j)
      have fn4 : ∀ j, W4.frozen? ⟨(nth ns p).b, j, none⟩ = false := fun j => (hk4.frz ⟨(nth ns p).b, j, none⟩ (by have := HNE.out; show (nth ns p).b < _; omega)).trans (fn j)
      have n1 := hnd4.key
      have n2 := hnd4.seq
      have n3 := hnd4.gone
      have n4 := hnd4.val
      have r0 := hr4.key
      have r1 := hr4.seq
      have r2 := hr4.gone
      have r3 := hr4.val
      simp at n1 n2 n3 n4 r0 r1 r2 r3
      have HT4 := Lib.hid hT4
      have HK4 := Lib.hid (hk4.more (S' := (w.heap.size + 1) :: blocks tb t0 ns) (fun g hg => by rw [List.mem_singleton.1 hg]; exact List.mem_cons_self))
      have HR4 := Lib.hid hr4
      have HND4 := Lib.hid hnd4
      clear v1 v2 v3 v4 fr fn hk4 hr4 hnd4 hx4 hT4
      go_upto_region 5 with fail
      have e5 : (((W4.setCell ⟨(nth ns p).b, 0, none⟩ (.string (bstr v.key))).setCell ⟨(nth ns p).b, 1, none⟩ (.int .u64 v.seq)).setCell ⟨(nth ns p).b, 2, none⟩ (.bool v.gone)).setCell ⟨(nth ns p).b, 3, none⟩ (.slice va v.val.length vc) = put4 W4 (nth ns p).b v va vc := rfl
      have hT5 := HT4.out.replace hlt HC0.out (HVC.out.keep HK4.out)
      have hk5 : Keep ((w.heap.size + 1) :: blocks tb t0 ns) wc (put4 W4 (nth ns p).b v va vc) := HK4.out.put4 (.inr ⟨List.mem_cons_of_mem _ (by rw [nth_bk (tb := tb)]; exact bk_mem (by omega)), HND4.out⟩)
      have hr5 : EntAt (put4 W4 (nth ns p).b v va vc) (w.heap.size + 1) 0 (nth ns p).e (nth ns p).va (nth ns p).vc := by
        have h4 := HR4.out
        have hne : w.heap.size + 1 ≠ (nth ns p).b := by have := HNE.out; omega
        exact ⟨(put4_other (fun j _ e => hne (congrArg Addr.block e).symm)).trans h4.key, (put4_other (fun j _ e => hne (congrArg Addr.block e).symm)).trans h4.seq, (put4_other (fun j _ e => hne (congrArg Addr.block e).symm)).trans h4.gone, (put4_other (fun j _ e => hne (congrArg Addr.block e).symm)).trans h4.val⟩
      have hf5 : ∀ j, (put4 W4 (nth ns p).b v va vc).frozen? ⟨w.heap.size + 1, j, none⟩ = false := fun j => by
        unfold put4
        simp only [World.frozen?_setCell]
        exact fr4 j
      rw [e5]
      obtain ⟨W5, hW5⟩ : ∃ W5, put4 W4 (nth ns p).b v va vc = W5 := ⟨_, rfl⟩
      rw [hW5] at hT5 hk5 hr5 hf5 ⊢
      clear hW5 e5 fr4 fn4 n1 n2 n3 n4 r0 r1 r2 r3
      have r0 := hr5.key
      have r1 := hr5.seq
      have r2 := hr5.gone
      have r3 := hr5.val
      simp at r0 r1 r2 r3
      have HT5 := Lib.hid hT5
      have HK5 := Lib.hid hk5
      have HR5 := Lib.hid hr5
      have HSL := Lib.hid hsl
      clear hT5 hk5 hr5 hsl
      go_wp2
      have hT6 : Tb (put4 W5 (w.heap.size + 1) (nth ns p).e (nth ns p).va (nth ns p).vc) B tb t0 (setv ns p v va vc) hg sz ad nd cd ld := HT5.out.keep ((Keep.refl [w.heap.size + 1] W5).put4 (.inr ⟨List.mem_singleton.2 rfl, HR5.out⟩)) (fun b hb hm => by
        have := List.mem_singleton.1 hb
        rw [setv_blocks v va vc hlt] at hm
        have := HLT.out b hm
        omega) (fun x hx hm => by
        have h1 := HDR.out x hx
        have h2 := List.mem_singleton.1 hm
        omega)
      have hr6 : EntAt (put4 W5 (w.heap.size + 1) (nth ns p).e (nth ns p).va (nth ns p).vc) (w.heap.size + 1) 0 (nth ns p).e (nth ns p).va (nth ns p).vc := put4_at HR5.out
      have hk6 : Keep ((w.heap.size + 1) :: blocks tb t0 ns) wc (put4 W5 (w.heap.size + 1) (nth ns p).e (nth ns p).va (nth ns p).vc) := HK5.out.put4 (.inr ⟨List.mem_cons_self, HR5.out⟩)
      have q0 := hr6.key
      have q1 := hr6.seq
      have q2 := hr6.gone
      have q3 := hr6.val
      simp at q0 q1 q2 q3
      have e6 : (((W5.setCell ⟨w.heap.size + 1, 0, none⟩ (.string (bstr (nth ns p).e.key))).setCell ⟨w.heap.size + 1, 1, none⟩ (.int .u64 (nth ns p).e.seq)).setCell ⟨w.heap.size + 1, 2, none⟩ (.bool (nth ns p).e.gone)).setCell ⟨w.heap.size + 1, 3, none⟩ (.slice (nth ns p).va (nth ns p).e.val.length (nth ns p).vc) = put4 W5 (w.heap.size + 1) (nth ns p).e (nth ns p).va (nth ns p).vc := rfl
      rw [e6]
      obtain ⟨W6, hW6⟩ : ∃ W6, put4 W5 (w.heap.size + 1) (nth ns p).e (nth ns p).va (nth ns p).vc = W6 := ⟨_, rfl⟩
      rw [hW6] at hT6 hk6 q0 q1 q2 q3 ⊢
      refine bodyPost_ret (v := .tuple #[ev (nth ns p).e (nth ns p).va (nth ns p).vc, .bool true]) (by simp [results, Try.results33, go_sem, ev, q0, q1, q2, q3]) rfl ⟨?_, .inl ⟨p, hlt, HC0.out, rfl, hT6⟩⟩
      have hkw : Keep ((w.heap.size + 1) :: blocks tb t0 ns) w wc := Keep.of_below HBW.out
      exact (hkw.trans hk6).old (fun g hg hl => by
        rcases List.mem_cons.1 hg with e | e
        · omega
        · exact e)
end Go.Proofs.Ytgcealgkhlbgmaa
