/- MemOwn. -/
import Derived.Test.YtgcealgkhlbgmaaMmp
import Derived.Test.YtgcealgkhlbgmaaReads3
import Derived.LoopN
namespace Go.Proofs.Ytgcealgkhlbgmaa
open Go.RowKit
set_option linter.unusedVariables false
attribute [local go_sem] Oper.semAt_some

/-- An entry or none, as two values; its bytes the call's own. -/
theorem TGet.twoOwn {W w' : World} {x : Ent} {e : Ending} (h : TGet W (some x) e w') : Below W.heap.size W w' ∧ ∃ a c, e = .returned (.tuple #[ev x a c, .bool true]) ∧ Own w' W.heap.size a x.val.length c x.val := by
  obtain ⟨hb, a, c, h1, h2⟩ := h; exact ⟨hb, a, c, h1, h2⟩
theorem put_newO {v0 w5 w6 : World} {g n₀ : Nat} {x : Ent} {a : Option Addr} {c : Nat} (hb : Below v0.heap.size v0 w6) (hg : v0.heap.size ≤ g) (hz : EntAt w6 g 0 default none 0) (h5 : Below w5.heap.size w5 w6) (hv : Own w5 n₀ a x.val.length c x.val) (hgt : ∃ m, w6.shape? g = some (30, m)) :
    EntAt (put4 w6 g x a c) g 0 x a c ∧ Own (put4 w6 g x a c) n₀ a x.val.length c x.val ∧ Below v0.heap.size v0 (put4 w6 g x a c) := by
  have k := (Keep.refl [g] w6).put4 (e := x) (a := a) (c := c) (.inr ⟨List.mem_singleton.2 rfl, hz⟩)
  refine ⟨put4_at hz, own_apart (S := [g]) (hv.below h5 : World.ownsRow _ _ _ _ _ _ _) k (fun b hb => ?_), ((Keep.of_below (S := []) hb).put4 (e := x) (a := a) (c := c) (e' := default) (a' := none) (c' := 0) (.inl hg)).below (fun b h => by cases h) (Nat.le_refl _)⟩
  rw [List.mem_singleton.1 hb]
  obtain ⟨m, hm⟩ := hgt
  exact ⟨_, m, hm, by decide⟩
theorem own_same {w w' : World} {B n c : Nat} {a : Option Addr} {l : List UInt8} (h : Own w B a n c l) (hk : ∀ b, B ≤ b → b < w.heap.size → w'.heap[b]? = w.heap[b]?) : Own w' B a n c l := by
  refine ⟨h.1, ?_⟩
  rcases h.2 with g | ⟨g, cap, cur, g1, g2, g3, g4⟩
  · exact .inl g
  · refine .inr ⟨g, cap, cur, g1, g2, ?_, g4⟩
    rw [hk g g2 (Array.getElem?_eq_some_iff.1 g3).1]
    exact g3
set_option maxRecDepth 8000 in
set_option maxHeartbeats 6000000 in
theorem memOwn_walk (al : Option Addr) (n c : Nat) (l : List Ent) (stop : Int) (w : World) (h : Es w al n c l) (hf : Ent.tot l + n ≤ 1000000000) (hsq : ∀ e ∈ l, e.seq ≤ 18446744073709551615) :
    Calls Try.prog 4 #[.slice al n c, .int .i64 stop] w fun e w' => e = .returned (.bool true) ∧ Below w.heap.size w w' := by
  have hle := h.le.1
  have HN := Lib.hid h.1
  have HE := Lib.hid h
  have HF := Lib.hid hf
  have HSQ := Lib.hid hsq
  clear h hf hsq
  refine calls_marks Try.func4 rfl ?_
  simp only [Try.ntmps4, List.size_toArray, List.length_cons, List.length_nil, Nat.reduceAdd, Nat.reduceSub, Array.replicate_succ, Array.replicate_zero, List.push_toArray, List.append_toArray, List.nil_append, List.cons_append]
  go_wp2_with fail
  have z1 : ((w.alloc (.cells #[.int .i64 stop] 3)).alloc (.cells #[.bool false] 4)).heap.size = w.heap.size + 2 := by simp
  have g0 := (Below.heap_alloc (w.alloc (.cells #[.int .i64 stop] 3)) (.cells #[.bool false] 4) w.heap.size (by simp)).trans (heap_alloc_new w (.cells #[.int .i64 stop] 3))
  have g1 := heap_alloc_new (w.alloc (.cells #[.int .i64 stop] 3)) (.cells #[.bool false] 4)
  rw [World.size_alloc] at g1
  have hb0 : Below w.heap.size w ((w.alloc (.cells #[.int .i64 stop] 3)).alloc (.cells #[.bool false] 4)) := (below_alloc1 w _).trans ((below_alloc1 _ _).mono (by simp))
  obtain ⟨W1, hW1⟩ : ∃ W1, (w.alloc (.cells #[.int .i64 stop] 3)).alloc (.cells #[.bool false] 4) = W1 := ⟨_, rfl⟩
  rw [hW1] at z1 g0 g1 hb0 ⊢
  clear hW1
  have HB0 := Lib.hid hb0
  have HG0 := Lib.hid g0
  have HG1 := Lib.hid g1
  have HZ1 := Lib.hid z1
  clear hb0 g0 g1 z1
  refine (known_any W1).mono ?_
  rintro e w1 ⟨rfl, hb1⟩
  have HB1 := Lib.hid hb1
  clear hb1
  go_wp2_with fail
  refine (efew_any al n c l 300 w1 ((HE.out.below HB0.out).below HB1.out) HF.out (by omega)).mono ?_
  rintro e w2 ⟨rfl, q, rfl⟩
  have HB2 : Hid (Below W1.heap.size W1 (w1.drewN q)) := Lib.hid (below_drewN HB1.out q)
  obtain ⟨wo, hwo⟩ : ∃ wo, w1.drewN q = wo := ⟨_, rfl⟩
  rw [hwo] at HB2 ⊢
  clear hwo HB1
  have HEO := Lib.hid ((HE.out.below HB0.out).below HB2.out)
  have HC3 : Hid (wo.cell? ⟨w.heap.size, 0, none⟩ = some (.int .i64 stop)) := Lib.hid (by
    have h1 := cell_of_row _ _ 0 _ _ _ HG0.out
    simp at h1
    exact cell_later HB2.out h1)
  have HG4 : Hid (wo.heap[w.heap.size + 1]? = some (.cells #[.bool false] 4)) := Lib.hid ((HB2.out.block _ (by have := HZ1.out; omega)).trans HG1.out)
  have HBO : Hid (Below w.heap.size w wo) := Lib.hid (HB0.out.trans (HB2.out.mono HB0.out.size))
  have HZO : Hid (w.heap.size + 2 ≤ wo.heap.size) := Lib.hid (by have := HB2.out.size; have := HZ1.out; omega)
  clear HB0 HG0 HG1 HZ1 HB2 HE
  cases hfew : decide (n ≤ 300 ∧ Ent.tot l ≤ 131072) with
  | false =>
    clear hfew
    have c4 := cell_of_row _ _ 0 _ _ _ HG4.out
    simp at c4
    have f4 : ∀ j, wo.frozen? ⟨w.heap.size + 1, j, none⟩ = false := fun j => by have h9 := HG4.out; simp [World.frozen?, h9]
    have y4 : (wo.setCell ⟨w.heap.size + 1, 0, none⟩ (.bool true)).cell? ⟨w.heap.size + 1, 0, none⟩ = some (.bool true) := World.cell?_setCell_same' _ _ _ (by rw [c4]; rfl)
    have HFI : Hid (Below w.heap.size w (wo.setCell ⟨w.heap.size + 1, 0, none⟩ (.bool true))) := Lib.hid (HBO.out.setCell (p := ⟨w.heap.size + 1, 0, none⟩) (by show w.heap.size ≤ w.heap.size + 1; omega) _)
    go_wp2
    refine ret_m0 (v := .bool true) (by simp [results, Try.results4, go_sem, y4]) ⟨rfl, HFI.out⟩
  | true =>
    have hfe := of_decide_eq_true hfew
    have HSM := Lib.hid (sm_of hfe.2 HSQ.out)
    have hn3 := hfe.1
    clear hfew hfe
    go_wp2_with fail
    have hba := below_alloc1 wo (.cells #[.int .i64 2, .int .i64 5, .int .i64 1] 3)
    have hI : Is (wo.alloc (.cells #[.int .i64 2, .int .i64 5, .int .i64 1] 3)) (some ⟨wo.heap.size, 0, none⟩) 3 3 [2, 5, 1] := by
      have hrow := heap_alloc_new wo (.cells #[.int .i64 2, .int .i64 5, .int .i64 1] 3)
      refine ⟨rfl, Nat.le_refl _, by simp [maxLen], fun j v hj => ⟨wo.heap.size, 0, rfl, ?_⟩, fun z hz => ?_⟩
      · rw [cell_of_row _ _ _ _ _ _ hrow, Nat.zero_add]
        show (zv [2, 5, 1]).toArray[j]? = some v
        rw [List.getElem?_toArray]
        exact hj
      · simp at hz
        rcases hz with rfl | rfl | rfl <;> exact ⟨by decide, by decide⟩
    refine (tnew_any (some ⟨wo.heap.size, 0, none⟩) 3 3 [2, 5, 1] _ hI (by omega)).mono ?_
    rintro e w4 ⟨tb, bs, rfl, hT, hb4⟩
    obtain ⟨wp, hwp⟩ : ∃ wp, wo.alloc (.cells #[.int .i64 2, .int .i64 5, .int .i64 1] 3) = wp := ⟨_, rfl⟩
    rw [hwp] at hba hT hb4
    clear hwp hI
    have HO4 : Hid (One wp w4 tb [] [2, 5, 1]) := Lib.hid ⟨bs, _, _, hT, hb4⟩
    have HBP := Lib.hid hba
    clear hT hb4 hba
    go_wp2_with fail
    go_loopw [6, 7] (fun i s7 wr => ∃ k : Nat, k ≤ n ∧ i = .int .i64 k ∧ Hid (One wp wr tb (Ent.lays [] ((l.take k).map Ent.laid)) [2, 5, 1])) (fun i _ _ => n - (intOf i).toNat)
    case atStart => exact ⟨0, Nat.zero_le _, rfl, HO4⟩
    case round =>
      obtain ⟨k, hk, rfl, hO⟩ := hrel
      by_cases hlt : k < n
      · have hb : Below wp.heap.size wp wr := by obtain ⟨_, _, _, _, h2⟩ := hO.out; exact h2
        have hwpr : Below wo.heap.size wo wr := HBP.out.trans (hb.mono HBP.out.size)
        obtain ⟨bx, ox, ax, cx, rfl, hex, hvx⟩ := (HEO.out.below hwpr).vals hlt
        have hN := HN.out
        have HNA : Hid (Ent.lays [] ((l.take (k + 1)).map Ent.laid) = Ent.lay (Ent.lays [] ((l.take k).map Ent.laid)) (nth l k).laid) := Lib.hid (by
          rw [List.take_succ_eq_append_getElem (by omega), List.map_append, List.map_cons, List.map_nil, lays_snoc, ← nth_eq _ (by omega)])
        have hLA := lays_len [] ((l.take k).map Ent.laid)
        rw [List.length_map, List.length_take] at hLA
        simp only [List.length_nil, Nat.zero_add] at hLA
        have HSV : Hid (Sm (nth l k)) := Lib.hid (HSM.out _ (by rw [nth_eq _ (by omega)]; exact List.getElem_mem _))
        have HLS : Hid (∀ e ∈ Ent.lays [] ((l.take k).map Ent.laid), Sm e) := Lib.hid (lays_sm (es := l.take k) (fun e he => HSM.out e (List.mem_of_mem_take he)))
        have HLL : Hid ((Ent.lays [] ((l.take k).map Ent.laid)).length ≤ 10000) := Lib.hid (by omega)
        have HTW := Lib.hid (reftwin_any (nth l k) ax cx wr hvx (by have := HSV.out.1; omega))
        have p1 := hex.key
        have p2 := hex.seq
        have p3 := hex.gone
        have p4 := hex.val
        clear hex hvx hLA hN hb hwpr
        go_wp2_with fail
        unfold ev at HTW
        refine HTW.out.mono ?_
        rintro e w8 ⟨a3, c3, rfl, ho3, hb8⟩
        clear HTW p1 p2 p3 p4
        simp only [ev]
        go_upto_region 12 with fail
        have hx9 := load_box w8 (nth l k) a3 c3
        have hz9 := below_alloc1 w8 (.cells #[.string (bstr (nth l k).key), .int .u64 (nth l k).seq, .bool (nth l k).gone, .slice a3 (nth l k).val.length c3] 30)
        have hs9 := World.size_alloc w8 (.cells #[.string (bstr (nth l k).key), .int .u64 (nth l k).seq, .bool (nth l k).gone, .slice a3 (nth l k).val.length c3] 30)
        obtain ⟨W9, hW9⟩ : ∃ W9, w8.alloc (.cells #[.string (bstr (nth l k).key), .int .u64 (nth l k).seq, .bool (nth l k).gone, .slice a3 (nth l k).val.length c3] 30) = W9 := ⟨_, rfl⟩
        rw [hW9] at hx9 hz9 hs9 ⊢
        clear hW9
        have hb9 : Below wr.heap.size wr W9 := hb8.trans ((show Below w8.heap.size w8 W9 from hz9).mono hb8.size)
        have ho9 : Own W9 wr.heap.size a3 (nth l k).val.length c3 (nth l k).val := ho3.below hz9
        have HOW := Lib.hid ho9
        have HPA := Lib.hid (One.putSpo hO.out hb9 (nth l k) a3 c3 ho9.bs (fun x hx => ho9.new x hx) HLL.out HLS.out HSV.out)
        have HX9 := Lib.hid hx9
        have HS9 : Hid (wr.heap.size ≤ w8.heap.size ∧ w8.heap.size < W9.heap.size) := Lib.hid ⟨hb8.size, by omega⟩
        have y1 := hx9.key
        have y2 := hx9.seq
        have y3 := hx9.gone
        have y4 := hx9.val
        simp only [Nat.zero_add] at y1 y2 y3 y4
        clear hx9 hz9 hs9 hb9 ho9 ho3 hb8
        go_wp2_with fail
        unfold ev at HPA
        refine HPA.out.mono ?_
        rintro e wq ⟨rfl, hsz, hkp, hfin⟩
        have HFIN := Lib.hid hfin
        have hown : Own wq wr.heap.size a3 (nth l k).val.length c3 (nth l k).val := own_same HOW.out hkp
        have HSP := Lib.hid (spoil_any wr.heap.size a3 (nth l k).val.length c3 (nth l k).val wq hown)
        have y5 : wq.cell? ⟨w8.heap.size, 3, none⟩ = some (.slice a3 (nth l k).val.length c3) := (World.cell?_of_block (hkp _ HS9.out.1 HS9.out.2)).trans y4
        clear hsz hkp hfin hown HPA y1 y2 y3 y4 HX9 HOW
        go_wp2_with fail
        refine HSP.out.mono ?_
        rintro e ws ⟨rfl, hsp⟩
        have HO9 := Lib.hid (HFIN.out ws hsp)
        rw [← HNA.out] at HO9
        clear hsp HFIN HSP y5
        go_wp2
        go_roundw
        case rel => exact ⟨k + 1, by omega, by go_num, HO9⟩
        case measure => simp [intOf]; omega
      · obtain rfl : k = n := by omega
        have hO2 := hO.out
        rw [List.take_of_length_le (by have := HN.out; omega)] at hO2
        have hLA := lays_len [] (l.map Ent.laid)
        rw [List.length_map] at hLA
        simp only [List.length_nil, Nat.zero_add] at hLA
        have HSA := Lib.hid (lays_sm (es := l) HSM.out)
        have HSO : Hid ((Ent.lays [] (l.map Ent.laid)).Pairwise Ent.lt) := Lib.hid (lays_sorted List.Pairwise.nil)
        have HLL : Hid ((Ent.lays [] (l.map Ent.laid)).length ≤ 10000) := Lib.hid (by have := HN.out; omega)
        have HGE : Hid (∀ j, j < k → ∃ y, Ent.getAt (Ent.lays [] (l.map Ent.laid)) (nth l j).key (nth l j).seq = some y) := Lib.hid fun j hj => lays_get (by rw [nth_eq _ (by rw [HN.out]; exact hj)]; exact List.getElem_mem _)
        obtain ⟨L, hL⟩ : ∃ L, L = Ent.lays [] (l.map Ent.laid) := ⟨_, rfl⟩
        have HLE : Hid (L = Ent.lays [] (l.map Ent.laid)) := Lib.hid hL
        rw [← hL] at hO2 HSA HSO HLL HGE
        have HO2 := Lib.hid hO2
        clear hO hO2 hLA hL HO4
        go_upto_region 15 with fail
        have hzp : ((wr.alloc (.cells #[.slice none 0 0, .slice none 0 0, .slice none 0 0, .int .i64 0] 43)).alloc (.cells #[.pointer (some ⟨wr.heap.size, 0, none⟩)] 41)).heap.size = wr.heap.size + 2 := by simp
        have hbx : Below wr.heap.size wr ((wr.alloc (.cells #[.slice none 0 0, .slice none 0 0, .slice none 0 0, .int .i64 0] 43)).alloc (.cells #[.pointer (some ⟨wr.heap.size, 0, none⟩)] 41)) := (below_alloc1 wr _).trans ((below_alloc1 _ _).mono (by simp))
        have HPR : Hid (Pair wo ((wr.alloc (.cells #[.slice none 0 0, .slice none 0 0, .slice none 0 0, .int .i64 0] 43)).alloc (.cells #[.pointer (some ⟨wr.heap.size, 0, none⟩)] 41)) tb wr.heap.size (wr.heap.size + 1) [2, 5, 1] L []) := Lib.hid (by
          obtain ⟨bs, hg, hs, h1, h2⟩ := HO2.out
          have hbpo := HBP.out.size
          have hsz := h2.size
          have g1 := heap_alloc_new (wr.alloc (.cells #[.slice none 0 0, .slice none 0 0, .slice none 0 0, .int .i64 0] 43)) (.cells #[.pointer (some ⟨wr.heap.size, 0, none⟩)] 41)
          rw [World.size_alloc] at g1
          have c8 := (cell_of_row _ _ 0 _ _ _ g1).trans (show _ = some (Value.pointer (some ⟨wr.heap.size, 0, none⟩)) from rfl)
          have hrt := (RT.start (w := wr) (B := wo.heap.size) (ad := none) (nd := 0) (cd := 0) (ld := []) ⟨rfl, Nat.le_refl _, by simp [maxLen], fun j v hj => (by simp [zv] at hj), fun z hz => (by cases hz)⟩ (by omega) (fun h => by omega)).below (below_alloc1 _ (.cells #[.pointer (some ⟨wr.heap.size, 0, none⟩)] 41))
          have hT2 := h1.below hbx
          obtain ⟨t0, ns, ad, nd, cd, e1, e2, e3, e4, e5⟩ := hT2
          have hown : ∀ b ∈ bs, wo.heap.size ≤ b ∧ b < wr.heap.size := fun b hb => ⟨Nat.le_trans hbpo (h1.bs b hb).1, (h1.bs b hb).2⟩
          refine ⟨⟨bs, hg, hs, _, _, ⟨t0, ns, ad, nd, cd, ⟨e1.sl, e1.height, e1.draws, e1.size, fun b hm => ⟨Nat.le_trans hbpo (e1.own b hm).1, (e1.own b hm).2⟩, e1.nodup, e1.ints, e1.apart, e1.old⟩, e2, e3, e4, fun x hx => Nat.le_trans hbpo (e5 x hx)⟩, hrt, fun b hb hm => ?_, fun hm => ?_, fun hm => ?_⟩, ?_, c8⟩
          · have := hown b hm
            have := List.mem_singleton.1 hb
            omega
          · have := hown _ hm
            omega
          · have := List.mem_singleton.1 hm
            omega
          · exact HBP.out.trans ((h2.trans (hbx.mono hsz)).mono hbpo))
        obtain ⟨rb, hrb⟩ : ∃ rb, rb = wr.heap.size := ⟨_, rfl⟩
        obtain ⟨b8, hb8⟩ : ∃ b8, b8 = wr.heap.size + 1 := ⟨_, rfl⟩
        obtain ⟨vo, hvo⟩ : ∃ vo, vo = ((wr.alloc (.cells #[.slice none 0 0, .slice none 0 0, .slice none 0 0, .int .i64 0] 43)).alloc (.cells #[.pointer (some ⟨wr.heap.size, 0, none⟩)] 41)) := ⟨_, rfl⟩
        rw [← hvo, ← hb8, ← hrb] at HPR
        rw [← hrb] at hvo hb8
        try rw [← hrb]
        rw [← hvo, ← hb8]
        clear hvo hbx hzp hrb hb8 HO2
        go_wp2_with fail
        go_loopw [9, 10, 11] (fun i s10 s11 wr => ∃ j : Nat, j ≤ k ∧ i = .int .i64 j ∧ Hid (Pair wo wr tb rb b8 [2, 5, 1] L (Ent.lays [] ((l.take j).map Ent.laid)))) (fun i _ _ _ => k - (intOf i).toNat)
        case atStart => exact ⟨0, Nat.zero_le _, rfl, HPR⟩
        case round =>
          obtain ⟨j, hj, rfl, hP⟩ := hrel
          by_cases hlj : j < k
          · have hb : Below wo.heap.size wo wr := hP.out.below
            obtain ⟨bx, ox, ax, cx, rfl, hex, hvx⟩ := (HEO.out.below hb).vals hlj
            have hN := HN.out
            have HNA : Hid (Ent.lays [] ((l.take (j + 1)).map Ent.laid) = Ent.lay (Ent.lays [] ((l.take j).map Ent.laid)) (nth l j).laid) := Lib.hid (by
              rw [List.take_succ_eq_append_getElem (by omega), List.map_append, List.map_cons, List.map_nil, lays_snoc, ← nth_eq _ (by omega)])
            have hLA := lays_len [] ((l.take j).map Ent.laid)
            rw [List.length_map, List.length_take] at hLA
            simp only [List.length_nil, Nat.zero_add] at hLA
            have hPR := Pair.putR (hP.out.later (Below.refl _ _).drew) (nth l j) ax cx (hvx.below (Below.refl _ _).drew) (by omega) (lays_sorted List.Pairwise.nil) (HSM.out _ (by rw [nth_eq _ (by omega)]; exact List.getElem_mem _))
            rw [← HNA.out] at hPR
            have HPT := Lib.hid hPR
            have p1 := hex.key
            have p2 := hex.seq
            have p3 := hex.gone
            have p4 := hex.val
            have p8 := hP.out.cell
            have HEX := Lib.hid hex
            clear hex hvx hLA hN hPR HNA hP
            go_upto_region 18 with fail
            refine wp_then_only ?_
            refine wp_region_steps [5] 5 5 (by kernel_rfl) (by kernel_rfl) rfl (fun W' => ∃ V : BW wr, W' = V.w) ?_
            refine anyT_pull [0, 1, 2, 3, 4] 5 0 (fun c a d v w h => False.elim h) (by kernel_rfl) ⟨⟨wr.drew, (Below.refl _ _).drew⟩, rfl⟩ ?_
            simp only [opsAt, List.filterMap_cons, List.filterMap_nil, List.getElem?_cons_zero, List.getElem?_cons_succ]
            iterate 5
              apply held_step
              · rfl
              · rintro _ ⟨V, rfl⟩
                have m1 := BW.cell p1 V
                have m2 := BW.cell p2 V
                have m3 := BW.cell p3 V
                have m4 := BW.cell p4 V
                have m8 := BW.cell p8 V
                go_simp
                rfl
            refine held_nil ?_
            refine anyT_done (by kernel_rfl) ?_
            simp only [opsAt, List.filterMap_cons, List.filterMap_nil, List.getElem?_cons_zero, List.getElem?_cons_succ]
            go_wp2_with fail
            unfold ev at HPT
            refine HPT.out.mono ?_
            rintro e wv ⟨rfl, hP2⟩
            have HP2 := Lib.hid hP2
            clear hP2 HPT p1 p2 p3 p4 p8 HEX hb
            obtain ⟨bx', ox', ax', cx', hal, hex, hvx⟩ := (HEO.out.below HP2.out.below).vals hlj
            cases hal
            have p1 := hex.key
            have p2 := hex.seq
            obtain ⟨X, hX⟩ := HGE.out j hlj
            have HX := Lib.hid hX
            obtain ⟨kk, hkk⟩ : ∃ kk, kk = (nth l j).key := ⟨_, rfl⟩
            obtain ⟨uu, huu⟩ : ∃ uu, uu = (nth l j).seq := ⟨_, rfl⟩
            rw [← hkk] at p1 HX
            rw [← huu] at p2 HX
            have HG : Hid (∀ V : BW wv, Calls Try.prog 20 #[.pointer (some ⟨tb, 0, none⟩), .string (bstr kk), .int .u64 uu] V.w fun e w' => Below V.w.heap.size V.w w' ∧ ∃ a c, e = .returned (.tuple #[ev X a c, .bool true]) ∧ Own w' V.w.heap.size a X.val.length c X.val) := Lib.hid fun V => by
              have h9 := (HP2.out.later V.b).get kk uu HSA.out
              rw [HX.out] at h9
              exact h9.mono fun e w' h => h.twoOwn
            clear hex hvx hkk huu hX HX
            go_upto_region 19 with fail
            go_cut [10, 11] from 44 to 75 (fun p t wx => ∃ g a c, p = .pointer (some ⟨g, 0, none⟩) ∧ t = .bool true ∧ Hid (EntAt wx g 0 X a c ∧ Own wx wv.heap.size a X.val.length c X.val ∧ Below wv.heap.size wv wx))
            case first =>
              have hb0 := (Below.refl wv.heap.size wv).drew
              refine wp_then_only ?_
              refine wp_region_steps [17] 17 17 (by kernel_rfl) (by kernel_rfl) rfl (fun W' => ∃ V : BW wv, W' = V.w) ?_
              refine anyT_pull [0, 1, 2, 3, 4, 5, 6, 7, 8, 9, 10] 17 6 (fun c a d v w h => False.elim h) (by kernel_rfl) ⟨⟨wv.drew, hb0⟩, rfl⟩ ?_
              simp only [opsAt, List.filterMap_cons, List.filterMap_nil, List.getElem?_cons_zero, List.getElem?_cons_succ]
              iterate 11
                apply held_step
                · rfl
                · rintro _ ⟨V, rfl⟩
                  have m0 := BW.cell p1 V
                  have m1 := BW.cell p2 V
                  go_simp
                  rfl
              refine held_nil ?_
              refine anyT_two 11 15 rfl rfl (by kernel_rfl) rfl rfl (fun K hK => ?_) (fun K hK => ?_)
              · go_simp
                refine (HG.out ⟨wv.drew, hb0⟩).mono ?_
                rintro en w5 ⟨hb5, a, c, rfl, hv5⟩
                have hb5' : Below wv.heap.size wv w5 := hb0.trans (hb5.mono hb0.size)
                refine hK _ _ ⟨⟨w5, hb5'⟩, rfl⟩ ?_
                clear hK
                refine anyT_pull [12, 13, 14] 17 2 (fun c a d v w h => False.elim h) (by kernel_rfl) ⟨⟨w5, hb5'⟩, rfl⟩ ?_
                simp only [opsAt, List.filterMap_cons, List.filterMap_nil, List.getElem?_cons_zero, List.getElem?_cons_succ]
                iterate 3
                  apply held_step
                  · rfl
                  · rintro _ ⟨V, rfl⟩
                    go_simp
                    rfl
                refine held_nil ?_
                refine anyT_one 15 rfl (by kernel_rfl) rfl (fun K hK => ?_)
                go_simp
                have h56 := below_alloc1 w5 (.cells #[.string ⟨#[]⟩, .int .u64 0, .bool false, .slice none 0 0] 30)
                have hb6 := hb5'.trans (h56.mono hb5'.size)
                have hz : EntAt (w5.alloc (.cells #[.string ⟨#[]⟩, .int .u64 0, .bool false, .slice none 0 0] 30)) w5.heap.size 0 default none 0 := load_box w5 default none 0
                have hff : ∀ j, (w5.alloc (.cells #[.string ⟨#[]⟩, .int .u64 0, .bool false, .slice none 0 0] 30)).frozen? ⟨w5.heap.size, j, none⟩ = false := fun j => (frozen?_alloc_cells _ _ _ _).trans (by simp [World.frozen?])
                have hg := hb5'.size
                have hsh : ∃ m, (w5.alloc (.cells #[.string ⟨#[]⟩, .int .u64 0, .bool false, .slice none 0 0] 30)).shape? w5.heap.size = some (30, m) := ⟨_, shape_of (heap_alloc_new w5 _)⟩
                replace hv5 := hv5.mono hb0.size
                refine hK _ _ ⟨⟨_, hb6⟩, rfl⟩ ?_
                clear hK
                obtain ⟨w6, hw6⟩ : ∃ w6, w5.alloc (.cells #[.string ⟨#[]⟩, .int .u64 0, .bool false, .slice none 0 0] 30) = w6 := ⟨_, rfl⟩
                rw [hw6] at hb6 hz hff h56 hsh ⊢
                clear hw6
                have r0 : w6.cell? ⟨w5.heap.size, 0, none⟩ = some (.string ⟨#[]⟩) := hz.key
                have r1 : w6.cell? ⟨w5.heap.size, 1, none⟩ = some (.int .u64 0) := hz.seq
                have r2 : w6.cell? ⟨w5.heap.size, 2, none⟩ = some (.bool false) := hz.gone
                have r3 : w6.cell? ⟨w5.heap.size, 3, none⟩ = some (.slice none 0 0) := hz.val
                have HF := Lib.hid (put_newO (x := X) (a := a) (c := c) hb6 hg hz h56 hv5 hsh)
                clear hz h56 hv5 hb6 hg hsh
                refine anyT_one 16 rfl (by kernel_rfl) rfl (fun K hK => ?_)
                try unfold ev
                go_simp
                refine hK _ _ ⟨⟨_, HF.out.2.2⟩, rfl⟩ ?_
                clear hK
                refine anyT_done (by kernel_rfl) ?_
                simp only [opsAt, List.filterMap_cons, List.filterMap_nil, List.getElem?_cons_zero, List.getElem?_cons_succ]
                go_wp2
                go_meet
                exact ⟨w5.heap.size, a, c, rfl, rfl, HF⟩
              · go_simp
                have hba : Below wv.heap.size wv (wv.alloc (.cells #[.string ⟨#[]⟩, .int .u64 0, .bool false, .slice none 0 0] 30)).drew := (below_alloc1 wv (.cells #[.string ⟨#[]⟩, .int .u64 0, .bool false, .slice none 0 0] 30)).drew
                have hz0 : EntAt (wv.alloc (.cells #[.string ⟨#[]⟩, .int .u64 0, .bool false, .slice none 0 0] 30)).drew wv.heap.size 0 default none 0 := EntAt.below (load_box wv default none 0) ((Below.refl _ _).drew)
                have hff0 : ∀ j, (wv.alloc (.cells #[.string ⟨#[]⟩, .int .u64 0, .bool false, .slice none 0 0] 30)).drew.frozen? ⟨wv.heap.size, j, none⟩ = false := fun j => (frozen?_alloc_cells wv _ _ _).trans (by simp [World.frozen?])
                have hsz0 : (wv.alloc (.cells #[.string ⟨#[]⟩, .int .u64 0, .bool false, .slice none 0 0] 30)).drew.heap.size = wv.heap.size + 1 := World.size_alloc wv _
                have hsh0 : ∃ m, (wv.alloc (.cells #[.string ⟨#[]⟩, .int .u64 0, .bool false, .slice none 0 0] 30)).drew.shape? wv.heap.size = some (30, m) := ⟨_, shape_of (heap_alloc_new wv _)⟩
                refine hK _ _ ⟨⟨_, hba⟩, rfl⟩ ?_
                clear hK
                obtain ⟨w6, hw6⟩ : ∃ w6, (wv.alloc (.cells #[.string ⟨#[]⟩, .int .u64 0, .bool false, .slice none 0 0] 30)).drew = w6 := ⟨_, rfl⟩
                rw [hw6] at hba hz0 hff0 hsz0 hsh0 ⊢
                clear hw6
                refine anyT_one 11 rfl (by kernel_rfl) rfl (fun K hK => ?_)
                go_simp
                refine (HG.out ⟨w6, hba⟩).mono ?_
                rintro en w5 ⟨hb5, a, c, rfl, hv5⟩
                have hb5' : Below wv.heap.size wv w5 := hba.trans (hb5.mono hba.size)
                have hff : ∀ j, w5.frozen? ⟨wv.heap.size, j, none⟩ = false := fun j => (hb5.frozen (p := ⟨wv.heap.size, j, none⟩) (by show wv.heap.size < _; rw [hsz0]; exact Nat.lt_succ_self _)).trans (hff0 j)
                have hz := hz0.below hb5
                refine hK _ _ ⟨⟨w5, hb5'⟩, rfl⟩ ?_
                clear hK
                refine anyT_pull [12, 13, 14] 17 1 (fun c a d v w h => False.elim h) (by kernel_rfl) ⟨⟨w5, hb5'⟩, rfl⟩ ?_
                simp only [opsAt, List.filterMap_cons, List.filterMap_nil, List.getElem?_cons_zero, List.getElem?_cons_succ]
                iterate 3
                  apply held_step
                  · rfl
                  · rintro _ ⟨V, rfl⟩
                    go_simp
                    rfl
                refine held_nil ?_
                have hsh : ∃ m, w5.shape? wv.heap.size = some (30, m) := by obtain ⟨m, hm⟩ := hsh0; exact ⟨m, (shape_same (hb5.block _ (by rw [hsz0]; exact Nat.lt_succ_self _))).trans hm⟩
                replace hv5 := hv5.mono hba.size
                have hb6 := hb5'
                have h56 := Below.refl w5.heap.size w5
                have hg := Nat.le_refl wv.heap.size
                clear hz0 hff0 hsz0 hba hb5 hb5'
                have r0 : w5.cell? ⟨wv.heap.size, 0, none⟩ = some (.string ⟨#[]⟩) := hz.key
                have r1 : w5.cell? ⟨wv.heap.size, 1, none⟩ = some (.int .u64 0) := hz.seq
                have r2 : w5.cell? ⟨wv.heap.size, 2, none⟩ = some (.bool false) := hz.gone
                have r3 : w5.cell? ⟨wv.heap.size, 3, none⟩ = some (.slice none 0 0) := hz.val
                have HF := Lib.hid (put_newO (x := X) (a := a) (c := c) hb6 hg hz h56 hv5 hsh)
                clear hz h56 hv5 hb6 hg hsh
                refine anyT_one 16 rfl (by kernel_rfl) rfl (fun K hK => ?_)
                try unfold ev
                go_simp
                refine hK _ _ ⟨⟨_, HF.out.2.2⟩, rfl⟩ ?_
                clear hK
                refine anyT_done (by kernel_rfl) ?_
                simp only [opsAt, List.filterMap_cons, List.filterMap_nil, List.getElem?_cons_zero, List.getElem?_cons_succ]
                go_wp2
                go_meet
                exact ⟨wv.heap.size, a, c, rfl, rfl, HF⟩
            case rest =>
              obtain ⟨wd, hwd⟩ : ∃ wd, wd = wc := ⟨_, rfl⟩
              subst hwd
              obtain ⟨g1, ag, cg, rfl, rfl, HX1⟩ := hcut
              have y4 := HX1.out.1.val
              simp only [Nat.zero_add] at y4
              have HSP := Lib.hid (spoil_any wv.heap.size ag X.val.length cg X.val wd HX1.out.2.1)
              have HPF : Hid (∀ W, Spo ag wd W → Pair wo W tb rb b8 [2, 5, 1] L (Ent.lays [] ((l.take (j + 1)).map Ent.laid))) := Lib.hid fun W hsp =>
                HP2.out.later (HX1.out.2.2.trans (hsp.below HX1.out.2.2.size (fun x hx => (HX1.out.2.1.new x hx).1)))
              clear p1 p2 HG HX1 HP2
              go_wp2_with fail
              refine HSP.out.mono ?_
              rintro e w9 ⟨rfl, hsp⟩
              have HP9 := Lib.hid (HPF.out w9 hsp)
              clear hsp y4 HSP HPF
              go_wp2
              go_roundw
              case rel => exact ⟨j + 1, by omega, by go_num, HP9⟩
              case measure => simp [intOf]; omega
          · obtain rfl : j = k := by omega
            have hP2 := hP.out
            rw [List.take_of_length_le (by have := HN.out; omega), ← HLE.out] at hP2
            have HP2 := Lib.hid hP2
            clear hP hP2 HPR HGE
            go_wp2_with fail
            refine (HP2.out.all HLL.out HSA.out).mono ?_
            rintro e w5 ⟨bq, aq, kq, cq, rfl, hbq, hbox, hacc, hb5⟩
            have HQ := Lib.hid (show wr.heap.size ≤ bq ∧ w5.cell? ⟨bq, 0, none⟩ = some (.slice aq kq cq) ∧ AccE w5 wr.heap.size aq kq cq L ∧ Below wr.heap.size wr w5 from ⟨hbq, hbox.cell, hacc, hb5⟩)
            clear hbq hbox hacc hb5
            have cv5 := Lib.run_convert_bytes_const (P := Try.prog) w5 28 5 #[.int .u8 108, .int .u8 97, .int .u8 116, .int .u8 101, .int .u8 114] 5 5 Try.underlying28 Try.underlying5
            go_wp2_with fail
            have hlt : Bs (w5.alloc (.cells #[.int .u8 108, .int .u8 97, .int .u8 116, .int .u8 101, .int .u8 114] 5 (5, 6))) (some ⟨w5.heap.size, 0, none⟩) 5 5 [108, 97, 116, 101, 114] := Bs.litAt [108, 97, 116, 101, 114] (5, 6) rfl (by simp [maxLen])
            have hlb := below_alloc1 w5 (.cells #[.int .u8 108, .int .u8 97, .int .u8 116, .int .u8 101, .int .u8 114] 5 (5, 6))
            obtain ⟨w6, hw6⟩ : ∃ w6, w5.alloc (.cells #[.int .u8 108, .int .u8 97, .int .u8 116, .int .u8 101, .int .u8 114] 5 (5, 6)) = w6 := ⟨_, rfl⟩
            rw [hw6] at hlt hlb
            try rw [hw6]
            clear cv5
            have hq6 : Below wr.heap.size wr w6 := HQ.out.2.2.2.trans (hlb.mono HQ.out.2.2.2.size)
            have HPL := Lib.hid (HP2.out.putLate hq6 HQ.out.1 (cell_later hlb HQ.out.2.1) (HQ.out.2.2.1.below hlb) ⟨[122, 122], 1152921504606846976, false, [108, 97, 116, 101, 114]⟩ (some ⟨w5.heap.size, 0, none⟩) 5 hlt HLL.out HSA.out ⟨by decide, by decide⟩)
            have HB6 : Hid (Below wo.heap.size wo w6) := Lib.hid (HP2.out.below.trans (hq6.mono HP2.out.below.size))
            unfold ev at HPL
            refine HPL.out.mono ?_
            rintro e w7 ⟨rfl, hrd, hb7⟩
            have HRD := Lib.hid hrd
            have HB7 := Lib.hid (HB6.out.trans hb7)
            clear hrd hb7 HPL HB6 hw6 hlt hlb hq6 HQ HP2
            have ht0 := below_alloc1 w7 (.cells #[.int .i64 0] 3)
            have hbt0 := Boxed.new w7 3 (.int .i64 0)
            go_wp2_with fail
            obtain ⟨wt, hwt⟩ : ∃ wt, w7.alloc (.cells #[.int .i64 0] 3) = wt := ⟨_, rfl⟩
            rw [hwt] at ht0 hbt0
            try rw [hwt]
            obtain ⟨bt, hbt⟩ : ∃ bt, w7.heap.size = bt := ⟨_, rfl⟩
            rw [hbt] at hbt0
            try rw [hbt]
            have HRT := Lib.hid (HRD.out.later ht0)
            have HBT := Lib.hid (HB7.out.trans (ht0.mono HB7.out.size))
            have HTB := Lib.hid hbt0
            have hco := HLL.out
            clear ht0 hbt0 hwt hbt HRD HB7 hco
            refine wp_loop_rounds 3 ?_
            rw [rounds_succ]
            have ct := HTB.out.cell
            have hbn := Boxed.new wt 3 (.int .i64 0)
            have hb1 := below_alloc1 wt (.cells #[.int .i64 0] 3)
            obtain ⟨aq, kq, cq, hqc, hqe⟩ := HRT.out.seq
            have HST := Lib.hid (from2_low 3 bq aq kq cq L wt (wt.alloc (.cells #[.int .i64 0] 3)) hb1 hqe (fun i hi => by have h9 := (HSA.out _ (by rw [nth_eq _ (by rw [hqe.1]; exact hi)]; exact List.getElem_mem _ : nth L i ∈ L)).1; omega) hqc)
            have HLQ := Lib.hid hqe.1
            clear hqc hqe
            have eg := enters_of Try.func46 (by kernel_rfl) rfl
            go_wp2_with fail
            obtain ⟨W1, hW1⟩ : ∃ W1, wt.alloc (.cells #[.int .i64 0] 3) = W1 := ⟨_, rfl⟩
            have hz1 : (wt.alloc (.cells #[.int .i64 0] 3)).heap.size = wt.heap.size + 1 := World.size_alloc _ _
            rw [hW1] at hbn hb1 hz1 HST
            try rw [hW1]
            obtain ⟨bn, hbne⟩ : ∃ bn, wt.heap.size = bn := ⟨_, rfl⟩
            have HBNE := Lib.hid hbne
            rw [hbne] at hbn
            try rw [hbne]
            have HBN := Lib.hid hbn
            have HB1 := Lib.hid hb1
            have HZ1 := Lib.hid hz1
            clear hbn hb1 hz1 hW1 hbne ct
            refine range_brk (gf := 46) (lb := #[.pointer (some ⟨bq, 0, none⟩)]) rfl eg HST.out (fun h k => h.trans k) (fun W l o o' hl h hc hw => below_put (by have := HB1.out.size; omega) h) (fun W o hW => (below_alloc1 W o).mono (Nat.le_trans HB1.out.size hW)) (Below.refl _ _) (fun _ => rfl)
              (fun pre W => Boxed W bn 3 (.int .i64 (pre.length : Nat)) ∧ Below wt.heap.size wt W ∧ W1.heap.size ≤ W.heap.size) (fun c pre W => (c = .ret ∧ ¬ pre.map Prod.fst = List.range pre.length) ∨ (c = .exit 6 ∧ Below wt.heap.size wt W))
              ?_ ?_ OtX.own ⟨HBN.out, HB1.out, Nat.le_refl _⟩ (fun pre W h => h.2.2) (fun x => #[.string (bstr (nth L x.1).key), .int .u64 (nth L x.1).seq, .bool (nth L x.1).gone, .slice x.2.1 (nth L x.1).val.length x.2.2]) 30 ?_ (fun W => Below wt.heap.size wt W) ?_ ?_ ?_
            · rintro s W W' row ⟨h1, h2, h3⟩ hg hr
              exact ⟨Boxed.turned h1 hg (fun r e => (hr r e).2), h2.grown hg h2.size (fun r e => Nat.le_trans HB1.out.size (hr r e).1), Nat.le_trans h3 hg.size⟩
            · rintro c' s W W' row h1 hg hr
              rcases h1 with h1 | ⟨h1, h2⟩
              · exact .inl h1
              · exact .inr ⟨h1, h2.grown hg h2.size (fun r e => Nat.le_trans HB1.out.size (hr r e).1)⟩
            · apply Exists.intro
              apply And.intro
              · intro l x W K b hb hK
                simp only [otv, ev]
                gi_wp2
                exact hK
              · rintro l pre ⟨xi, xa, xc⟩ b W ⟨hbo, hbel, hb2⟩ hox hb hc hlen
                refine wpIn_block ?_
                gi_wp2_with fail
                obtain ⟨hxl, hxo⟩ := hox
                have hrd := HRT.out.later hbel
                obtain ⟨aL, kL, cL, hrc, hre⟩ := hrd.ref
                obtain rfl : kL = kq := hre.1.symm.trans HLQ.out
                obtain ⟨bL, oL, aY, cY, rfl, heY, hvY⟩ := hre.vals hlen
                have hxe : EntAt W b 0 (nth L xi) xa xc := EntAt.of_cells fun j v hj => by
                  rw [cell_of_row _ _ _ _ _ _ hc, Nat.zero_add]
                  match j, hj with
                  | 0, hj => exact hj
                  | 1, hj => exact hj
                  | 2, hj => exact hj
                  | 3, hj => exact hj
                  | j + 4, hj => simp [entCells] at hj
                have c8 := hrd.cell
                have cn := hbo.cell
                have HPRE : Hid ((pre ++ [((xi, xa, xc) : Ot)]).map Prod.fst = List.range (pre ++ [((xi, xa, xc) : Ot)]).length → nth L xi = nth L pre.length) := Lib.hid fun h9 => by
                  rw [List.map_append, List.length_append] at h9
                  have h8 := congrArg (fun l => l[pre.length]?) h9
                  simp at h8
                  rw [h8]
                have HV : Hid ((((pre ++ [((xi, xa, xc) : Ot)]).length : Nat) : Int) = (pre.length : Int) + 1) := Lib.hid (by simp)
                obtain ⟨p, hp⟩ : ∃ p, p = pre.length := ⟨_, rfl⟩
                rw [← hp] at cn heY hvY HPRE HV hlen hbo
                have hkl9 : kL ≤ 10000 := by have := HLQ.out; have := HLL.out; omega
                have tge : decide (kL ≤ p) = false := decide_eq_false (by omega)
                obtain ⟨d, hd⟩ : ∃ d, d = decide (nth L xi = nth L p) := ⟨_, rfl⟩
                have HSM2 : Hid (∀ V : BW W, Calls Try.prog 22 #[ev (nth L xi) xa xc, ev (nth L p) aY cY] V.w fun e w' => e = .returned (.bool d) ∧ Below V.w.heap.size V.w w') := Lib.hid fun V => by
                  rw [hd]
                  exact esame_any (nth L xi) (nth L p) xa aY xc cY V.w ((hxo : Own W _ _ _ _ _).bs.below V.b) (hvY.below V.b)
                have HDD : Hid (d = false → ¬ (pre ++ [((xi, xa, xc) : Ot)]).map Prod.fst = List.range (pre ++ [((xi, xa, xc) : Ot)]).length) := Lib.hid fun h0 h9 => by
                  rw [h0] at hd
                  exact of_decide_eq_false hd.symm (HPRE.out h9)
                have n1 := hxe.key
                have n2 := hxe.seq
                have n3 := hxe.gone
                have n4 := hxe.val
                simp only [Nat.zero_add] at n1 n2 n3 n4
                have y1 := heY.key
                have y2 := heY.seq
                have y3 := heY.gone
                have y4 := heY.val
                have HBO := Lib.hid hbo
                have HBE := Lib.hid hbel
                have HW2 := Lib.hid hb2
                have hbl : wt.heap.size ≤ W.heap.size := hbel.size
                generalize nth L xi = xe at *
                generalize nth L p = ye at *
                clear hxo hxl hre hrd hxe heY hvY hbo hbel hb2 hc hb hp HPRE hd
                have HB4 : Hid (∀ V, Below W.heap.size W V → V.heap[w.heap.size + 1]? = some (.cells #[.bool false] 4)) := Lib.hid fun V hV => by
                  have h1 := HZO.out
                  have h2 := HBT.out.size
                  have h3 := HBE.out.size
                  exact (hV.block _ (by omega)).trans ((HBE.out.block _ (by omega)).trans ((HBT.out.block _ (by omega)).trans HG4.out))
                have HTC : Hid (∀ V, Below W.heap.size W V → ∀ v, (V.setCell ⟨bn, 0, none⟩ v).cell? ⟨bt, 0, none⟩ = some (.int .i64 0) ∧ (V.setCell ⟨bn, 0, none⟩ v).cell? ⟨w.heap.size, 0, none⟩ = some (.int .i64 stop)) := Lib.hid fun V hV v => by
                  have h1 := HZO.out
                  have h2 := HBT.out.size
                  have h4 := HTB.out.lt
                  have h5 := HBNE.out
                  have hwv : Below wt.heap.size wt V := HBE.out.trans (hV.mono hbl)
                  constructor
                  · rw [World.cell?_setCell_other _ _ _ _ (fun e => by cases e; omega)]
                    exact cell_later hwv HTB.out.cell
                  · rw [World.cell?_setCell_other _ _ _ _ (fun e => by cases e; omega)]
                    exact cell_later hwv (cell_later (HBT.out.mono (Nat.le_refl _)) HC3.out)
                cases d with
                | false =>
                  refine round_class (w0 := W) (fun ⟨_, _, h⟩ => h) (by kernel_rfl) (by kernel_rfl) (by kernel_rfl) (Below.refl _ _) ?_
                  replace c8 := BW.cell c8
                  replace cn := BW.cell cn
                  replace hrc := BW.cell hrc
                  replace n1 := BW.cell n1
                  replace n2 := BW.cell n2
                  replace n3 := BW.cell n3
                  replace n4 := BW.cell n4
                  replace y1 := BW.cell y1
                  replace y2 := BW.cell y2
                  replace y3 := BW.cell y3
                  replace y4 := BW.cell y4
                  repeat (first | go_big_quiet_step ((go_at_call 22; exact calls_class (HSM2.out _))))
                  refine wpQuiet_nil ?_
                  intro w9 hb9; replace hb9 := BW.of hb9
                  have h4 := HB4.out w9 hb9
                  have c4 := cell_of_row _ _ 0 _ _ _ h4
                  simp at c4
                  have f4 : ∀ j, w9.frozen? ⟨w.heap.size + 1, j, none⟩ = false := fun j => by simp [World.frozen?, h4]
                  have HB9 := Lib.hid hb9
                  clear c8 cn hrc n1 n2 n3 n4 y1 y2 y3 y4 hb9 h4
                  gi_wp2
                  refine ⟨((keeps_below HB9.out).trans (KeepsOthers.setCell _ _ _)).from _, .inl ⟨rfl, HDD.out (by first | rfl | trivial)⟩⟩
                | true =>
                  refine round_class (w0 := W) (fun ⟨_, _, h⟩ => h) (by kernel_rfl) (by kernel_rfl) (by kernel_rfl) (Below.refl _ _) ?_
                  replace c8 := BW.cell c8
                  replace cn := BW.cell cn
                  replace hrc := BW.cell hrc
                  replace n1 := BW.cell n1
                  replace n2 := BW.cell n2
                  replace n3 := BW.cell n3
                  replace n4 := BW.cell n4
                  replace y1 := BW.cell y1
                  replace y2 := BW.cell y2
                  replace y3 := BW.cell y3
                  replace y4 := BW.cell y4
                  repeat (first | go_big_quiet_step ((go_at_call 22; exact calls_class (HSM2.out _))))
                  refine wpQuiet_nil ?_
                  intro w9 hb9; replace hb9 := BW.of hb9
                  have hbo9 := Boxed.below HBO.out hb9
                  have cn9 := hbo9.cell
                  have fn9 := hbo9.frozen
                  have tc := fun v => (HTC.out w9 hb9 v).1
                  have sc := fun v => (HTC.out w9 hb9 v).2
                  have nc : ∀ v, (w9.setCell ⟨bn, 0, none⟩ v).cell? ⟨bn, 0, none⟩ = some v := fun v => World.cell?_setCell_same' _ _ _ (by rw [cn9]; rfl)
                  have HB9 := Lib.hid hb9
                  have HFK : Hid (∀ v, KeepsFrom W1.heap.size W (w9.setCell ⟨bn, 0, none⟩ v) ∧ Below wt.heap.size W (w9.setCell ⟨bn, 0, none⟩ v) ∧ Boxed (w9.setCell ⟨bn, 0, none⟩ v) bn 3 v) := Lib.hid fun v => ⟨((keeps_below hb9).trans (KeepsOthers.setCell _ _ _)).from _, (hb9.mono hbl).setCell (p := ⟨bn, 0, none⟩) (by have := HBNE.out; show wt.heap.size ≤ bn; omega) v, hbo9.set _⟩
                  clear c8 cn hrc n1 n2 n3 n4 y1 y2 y3 y4 hb9 hbo9
                  by_cases hst : stop < (p : Int) + 1
                  · have ts : decide (stop < (p : Int) + 1) = true := decide_eq_true hst
                    gi_wp2
                    exact ⟨(HFK.out _).1, .inr ⟨rfl, HBE.out.trans (HFK.out _).2.1⟩⟩
                  · have ts : decide (stop < (p : Int) + 1) = false := decide_eq_false hst
                    gi_wp2
                    refine ⟨(HFK.out _).1, (HFK.out _).2.1, ?_, HBE.out.trans (HFK.out _).2.1, Nat.le_trans HW2.out (HFK.out _).1.size⟩
                    rw [HV.out]
                    exact (HFK.out _).2.2
            · rintro xs W hS ⟨h1, h2, h3⟩
              exact h2
            · rintro c' pre W hSp (⟨rfl, h1⟩ | ⟨rfl, h1⟩)
              · exact absurd hSp h1
              · exact ⟨rfl, h1⟩
            · rintro D0 W hD hJ hdef
              have ct := cell_later hJ HTB.out.cell
              have HJ := Lib.hid hJ
              have HDF := Lib.hid hdef
              have HDS := Lib.hid hD
              have HD0N : Hid (¬ D0 < w.heap.size) := Lib.hid (by have h2 := HB1.out.size; have h3 := HBT.out.size; have h5 := HZO.out; omega)
              clear hJ hdef hD
              go_upto_region 35 with fail
              refine wp_region_class (w0 := W) (by kernel_rfl) (by kernel_rfl) (Below.refl _ _) ?_
              replace ct := BW.cell ct
              repeat (first | go_big_quiet_step (fail))
              refine wpQuiet_nil ?_
              intro w9 hb9; replace hb9 := BW.of hb9
              have h9 : Below wt.heap.size wt w9 := HJ.out.trans (hb9.mono HJ.out.size)
              have ct9 := cell_later h9 HTB.out.cell
              have hA := below_alloc1 w9 (.cells #[.int .i64 1] 3)
              have h10 : Below wt.heap.size wt (w9.alloc (.cells #[.int .i64 1] 3)) := h9.trans (hA.mono h9.size)
              have hd9 : w9.heap[D0]? = some (.deferred (some [])) := (hb9.block D0 (Array.getElem?_eq_some_iff.1 HDF.out).1).trans HDF.out
              have HD0 := Lib.hid ((hA.block D0 (Array.getElem?_eq_some_iff.1 hd9).1).trans hd9)
              have hbx := Boxed.new w9 3 (.int .i64 1)
              have HBX := Lib.hid hbx
              have H10 := Lib.hid h10
              clear ct hb9 h9 hA h10 hd9 hbx
              go_wp2_with fail
              clear ct9
              have hr10 := HRT.out.later H10.out
              have hb10 := HBT.out.trans (H10.out.mono HBT.out.size)
              have hd0 := HD0.out
              have hx0 := HBX.out
              clear HRT HBT HTB HJ HDF HDS HBN HB1 HZ1 HBNE HST HLQ H10 HBX HD0
              obtain ⟨wt, hwt⟩ : ∃ W, w9.alloc (.cells #[.int .i64 1] 3) = W := ⟨_, rfl⟩
              obtain ⟨bt, hbt⟩ : ∃ b, w9.heap.size = b := ⟨_, rfl⟩
              rw [hwt] at hr10 hb10 hd0 hx0
              rw [hbt] at hx0
              try rw [hwt]
              try rw [hbt]
              have HRT := Lib.hid hr10
              have HBT := Lib.hid hb10
              have HTB := Lib.hid hx0
              have HD0 := Lib.hid hd0
              clear hr10 hb10 hd0 hx0 hwt hbt
              rw [rounds_succ]
              have ct := HTB.out.cell
              have hbn := Boxed.new wt 3 (.int .i64 0)
              have hb1 := below_alloc1 wt (.cells #[.int .i64 0] 3)
              obtain ⟨aq, kq, cq, hqc, hqe⟩ := HRT.out.seq
              have HST := Lib.hid (from2_low 3 bq aq kq cq L wt (wt.alloc (.cells #[.int .i64 0] 3)) hb1 hqe (fun i hi => by have h9 := (HSA.out _ (by rw [nth_eq _ (by rw [hqe.1]; exact hi)]; exact List.getElem_mem _ : nth L i ∈ L)).1; omega) hqc)
              have HLQ := Lib.hid hqe.1
              clear hqc hqe
              have eg := enters_of Try.func46 (by kernel_rfl) rfl
              go_wp2_with fail
              obtain ⟨W1, hW1⟩ : ∃ W1, wt.alloc (.cells #[.int .i64 0] 3) = W1 := ⟨_, rfl⟩
              have hz1 : (wt.alloc (.cells #[.int .i64 0] 3)).heap.size = wt.heap.size + 1 := World.size_alloc _ _
              rw [hW1] at hbn hb1 hz1 HST
              try rw [hW1]
              obtain ⟨bn, hbne⟩ : ∃ bn, wt.heap.size = bn := ⟨_, rfl⟩
              have HBNE := Lib.hid hbne
              rw [hbne] at hbn
              try rw [hbne]
              have HBN := Lib.hid hbn
              have HB1 := Lib.hid hb1
              have HZ1 := Lib.hid hz1
              clear hbn hb1 hz1 hW1 hbne ct
              refine range_brk (gf := 46) (lb := #[.pointer (some ⟨bq, 0, none⟩)]) rfl eg HST.out (fun h k => h.trans k) (fun W l o o' hl h hc hw => below_put (by have := HB1.out.size; omega) h) (fun W o hW => (below_alloc1 W o).mono (Nat.le_trans HB1.out.size hW)) (Below.refl _ _) (fun _ => rfl)
                (fun pre W => Boxed W bn 3 (.int .i64 (pre.length : Nat)) ∧ Below wt.heap.size wt W ∧ W1.heap.size ≤ W.heap.size) (fun c pre W => (c = .ret ∧ ¬ pre.map Prod.fst = List.range pre.length))
                ?_ ?_ OtX.own ⟨HBN.out, HB1.out, Nat.le_refl _⟩ (fun pre W h => h.2.2) (fun x => #[.string (bstr (nth L x.1).key), .int .u64 (nth L x.1).seq, .bool (nth L x.1).gone, .slice x.2.1 (nth L x.1).val.length x.2.2]) 30 ?_ (fun W => Below wt.heap.size wt W ∧ Boxed W bn 3 (.int .i64 (kq : Nat))) ?_ ?_ ?_
              · rintro s W W' row ⟨h1, h2, h3⟩ hg hr
                exact ⟨Boxed.turned h1 hg (fun r e => (hr r e).2), h2.grown hg h2.size (fun r e => Nat.le_trans HB1.out.size (hr r e).1), Nat.le_trans h3 hg.size⟩
              · rintro c' s W W' row h1 hg hr
                exact h1
              · apply Exists.intro
                apply And.intro
                · intro l x W K b hb hK
                  simp only [otv, ev]
                  gi_wp2
                  exact hK
                · rintro l pre ⟨xi, xa, xc⟩ b W ⟨hbo, hbel, hb2⟩ hox hb hc hlen
                  refine wpIn_block ?_
                  gi_wp2_with fail
                  obtain ⟨hxl, hxo⟩ := hox
                  have hrd := HRT.out.later hbel
                  obtain ⟨aL, kL, cL, hrc, hre⟩ := hrd.ref
                  obtain rfl : kL = kq := hre.1.symm.trans HLQ.out
                  obtain ⟨bL, oL, aY, cY, rfl, heY, hvY⟩ := hre.vals hlen
                  have hxe : EntAt W b 0 (nth L xi) xa xc := EntAt.of_cells fun j v hj => by
                    rw [cell_of_row _ _ _ _ _ _ hc, Nat.zero_add]
                    match j, hj with
                    | 0, hj => exact hj
                    | 1, hj => exact hj
                    | 2, hj => exact hj
                    | 3, hj => exact hj
                    | j + 4, hj => simp [entCells] at hj
                  have c8 := hrd.cell
                  have cn := hbo.cell
                  have HPRE : Hid ((pre ++ [((xi, xa, xc) : Ot)]).map Prod.fst = List.range (pre ++ [((xi, xa, xc) : Ot)]).length → nth L xi = nth L pre.length) := Lib.hid fun h9 => by
                    rw [List.map_append, List.length_append] at h9
                    have h8 := congrArg (fun l => l[pre.length]?) h9
                    simp at h8
                    rw [h8]
                  have HV : Hid ((((pre ++ [((xi, xa, xc) : Ot)]).length : Nat) : Int) = (pre.length : Int) + 1) := Lib.hid (by simp)
                  obtain ⟨p, hp⟩ : ∃ p, p = pre.length := ⟨_, rfl⟩
                  rw [← hp] at cn heY hvY HPRE HV hlen hbo
                  have hkl9 : kL ≤ 10000 := by have := HLQ.out; have := HLL.out; omega
                  have tge : decide (kL ≤ p) = false := decide_eq_false (by omega)
                  obtain ⟨d, hd⟩ : ∃ d, d = decide (nth L xi = nth L p) := ⟨_, rfl⟩
                  have HSM2 : Hid (∀ V : BW W, Calls Try.prog 22 #[ev (nth L xi) xa xc, ev (nth L p) aY cY] V.w fun e w' => e = .returned (.bool d) ∧ Below V.w.heap.size V.w w') := Lib.hid fun V => by
                    rw [hd]
                    exact esame_any (nth L xi) (nth L p) xa aY xc cY V.w ((hxo : Own W _ _ _ _ _).bs.below V.b) (hvY.below V.b)
                  have HDD : Hid (d = false → ¬ (pre ++ [((xi, xa, xc) : Ot)]).map Prod.fst = List.range (pre ++ [((xi, xa, xc) : Ot)]).length) := Lib.hid fun h0 h9 => by
                    rw [h0] at hd
                    exact of_decide_eq_false hd.symm (HPRE.out h9)
                  have n1 := hxe.key
                  have n2 := hxe.seq
                  have n3 := hxe.gone
                  have n4 := hxe.val
                  simp only [Nat.zero_add] at n1 n2 n3 n4
                  have y1 := heY.key
                  have y2 := heY.seq
                  have y3 := heY.gone
                  have y4 := heY.val
                  have HBO := Lib.hid hbo
                  have HBE := Lib.hid hbel
                  have HW2 := Lib.hid hb2
                  have hbl : wt.heap.size ≤ W.heap.size := hbel.size
                  generalize nth L xi = xe at *
                  generalize nth L p = ye at *
                  clear hxo hxl hre hrd hxe heY hvY hbo hbel hb2 hc hb hp HPRE hd
                  have HB4 : Hid (∀ V, Below W.heap.size W V → V.heap[w.heap.size + 1]? = some (.cells #[.bool false] 4)) := Lib.hid fun V hV => by
                    have h1 := HZO.out
                    have h2 := HBT.out.size
                    have h3 := HBE.out.size
                    exact (hV.block _ (by omega)).trans ((HBE.out.block _ (by omega)).trans ((HBT.out.block _ (by omega)).trans HG4.out))
                  have HTC : Hid (∀ V, Below W.heap.size W V → ∀ v, (V.setCell ⟨bn, 0, none⟩ v).cell? ⟨bt, 0, none⟩ = some (.int .i64 1) ∧ (V.setCell ⟨bn, 0, none⟩ v).cell? ⟨w.heap.size, 0, none⟩ = some (.int .i64 stop)) := Lib.hid fun V hV v => by
                    have h1 := HZO.out
                    have h2 := HBT.out.size
                    have h4 := HTB.out.lt
                    have h5 := HBNE.out
                    have hwv : Below wt.heap.size wt V := HBE.out.trans (hV.mono hbl)
                    constructor
                    · rw [World.cell?_setCell_other _ _ _ _ (fun e => by cases e; omega)]
                      exact cell_later hwv HTB.out.cell
                    · rw [World.cell?_setCell_other _ _ _ _ (fun e => by cases e; omega)]
                      exact cell_later hwv (cell_later (HBT.out.mono (Nat.le_refl _)) HC3.out)
                  cases d with
                  | false =>
                    refine round_class (w0 := W) (fun ⟨_, _, h⟩ => h) (by kernel_rfl) (by kernel_rfl) (by kernel_rfl) (Below.refl _ _) ?_
                    replace c8 := BW.cell c8
                    replace cn := BW.cell cn
                    replace hrc := BW.cell hrc
                    replace n1 := BW.cell n1
                    replace n2 := BW.cell n2
                    replace n3 := BW.cell n3
                    replace n4 := BW.cell n4
                    replace y1 := BW.cell y1
                    replace y2 := BW.cell y2
                    replace y3 := BW.cell y3
                    replace y4 := BW.cell y4
                    repeat (first | go_big_quiet_step ((go_at_call 22; exact calls_class (HSM2.out _))))
                    refine wpQuiet_nil ?_
                    intro w9 hb9; replace hb9 := BW.of hb9
                    have h4 := HB4.out w9 hb9
                    have c4 := cell_of_row _ _ 0 _ _ _ h4
                    simp at c4
                    have f4 : ∀ j, w9.frozen? ⟨w.heap.size + 1, j, none⟩ = false := fun j => by simp [World.frozen?, h4]
                    have HB9 := Lib.hid hb9
                    clear c8 cn hrc n1 n2 n3 n4 y1 y2 y3 y4 hb9 h4
                    gi_wp2
                    refine ⟨((keeps_below HB9.out).trans (KeepsOthers.setCell _ _ _)).from _, ⟨rfl, HDD.out (by first | rfl | trivial)⟩⟩
                  | true =>
                    refine round_class (w0 := W) (fun ⟨_, _, h⟩ => h) (by kernel_rfl) (by kernel_rfl) (by kernel_rfl) (Below.refl _ _) ?_
                    replace c8 := BW.cell c8
                    replace cn := BW.cell cn
                    replace hrc := BW.cell hrc
                    replace n1 := BW.cell n1
                    replace n2 := BW.cell n2
                    replace n3 := BW.cell n3
                    replace n4 := BW.cell n4
                    replace y1 := BW.cell y1
                    replace y2 := BW.cell y2
                    replace y3 := BW.cell y3
                    replace y4 := BW.cell y4
                    repeat (first | go_big_quiet_step ((go_at_call 22; exact calls_class (HSM2.out _))))
                    refine wpQuiet_nil ?_
                    intro w9 hb9; replace hb9 := BW.of hb9
                    have hbo9 := Boxed.below HBO.out hb9
                    have cn9 := hbo9.cell
                    have fn9 := hbo9.frozen
                    have tc := fun v => (HTC.out w9 hb9 v).1
                    have sc := fun v => (HTC.out w9 hb9 v).2
                    have nc : ∀ v, (w9.setCell ⟨bn, 0, none⟩ v).cell? ⟨bn, 0, none⟩ = some v := fun v => World.cell?_setCell_same' _ _ _ (by rw [cn9]; rfl)
                    have HB9 := Lib.hid hb9
                    have HFK : Hid (∀ v, KeepsFrom W1.heap.size W (w9.setCell ⟨bn, 0, none⟩ v) ∧ Below wt.heap.size W (w9.setCell ⟨bn, 0, none⟩ v) ∧ Boxed (w9.setCell ⟨bn, 0, none⟩ v) bn 3 v) := Lib.hid fun v => ⟨((keeps_below hb9).trans (KeepsOthers.setCell _ _ _)).from _, (hb9.mono hbl).setCell (p := ⟨bn, 0, none⟩) (by have := HBNE.out; show wt.heap.size ≤ bn; omega) v, hbo9.set _⟩
                    clear c8 cn hrc n1 n2 n3 n4 y1 y2 y3 y4 hb9 hbo9
                    gi_wp2
                    refine ⟨(HFK.out _).1, (HFK.out _).2.1, ?_, HBE.out.trans (HFK.out _).2.1, Nat.le_trans HW2.out (HFK.out _).1.size⟩
                    rw [HV.out]
                    exact (HFK.out _).2.2
              · rintro xs W hS ⟨h1, h2, h3⟩
                have h4 := congrArg List.length hS
                simp at h4
                rw [h4] at h1
                exact ⟨h2, h1⟩
              · rintro c' pre W hSp ⟨rfl, h1⟩
                exact absurd hSp h1
              · rintro D1 W hD ⟨hJ, hnb⟩ hdef
                have ct := cell_later hJ HTB.out.cell
                have cn := hnb.cell
                have hrd := HRT.out.later hJ
                obtain ⟨aL, kL, cL, hrc, hre⟩ := hrd.ref
                obtain rfl : kL = kq := hre.1.symm.trans HLQ.out
                have c8 := hrd.cell
                have tne : ((kL : Int) != (kL : Int)) = false := by simp
                clear hrd hre hnb
                have HJ := Lib.hid hJ
                have HDF := Lib.hid hdef
                have HDS := Lib.hid hD
                clear hJ hdef hD
                go_upto_region 35 with fail
                refine wp_region_class (w0 := W) (by kernel_rfl) (by kernel_rfl) (Below.refl _ _) ?_
                replace ct := BW.cell ct
                replace cn := BW.cell cn
                replace hrc := BW.cell hrc
                replace c8 := BW.cell c8
                repeat (first | go_big_quiet_step (fail))
                refine wpQuiet_nil ?_
                intro w9 hb9; replace hb9 := BW.of hb9
                have h9 : Below wt.heap.size wt w9 := HJ.out.trans (hb9.mono HJ.out.size)
                have ct9 := cell_later h9 HTB.out.cell
                have hA := below_alloc1 w9 (.cells #[.int .i64 2] 3)
                have h10 : Below wt.heap.size wt (w9.alloc (.cells #[.int .i64 2] 3)) := h9.trans (hA.mono h9.size)
                have hd9 : w9.heap[D1]? = some (.deferred (some [])) := (hb9.block D1 (Array.getElem?_eq_some_iff.1 HDF.out).1).trans HDF.out
                have HD1 := Lib.hid ((hA.block D1 (Array.getElem?_eq_some_iff.1 hd9).1).trans hd9)
                have hbx := Boxed.new w9 3 (.int .i64 2)
                have HBX := Lib.hid hbx
                have H10 := Lib.hid h10
                clear ct hb9 h9 hA h10 hd9 hbx
                clear cn hrc c8
                go_wp2_with fail
                clear ct9
                have hd0 := (H10.out.block D0 (Array.getElem?_eq_some_iff.1 HD0.out).1).trans HD0.out
                have hd1 := HD1.out
                have hl0 : wo.heap.size ≤ D0 ∨ True := .inr trivial
                have h4 : (w9.alloc (.cells #[.int .i64 2] 3)).heap[w.heap.size + 1]? = some (.cells #[.bool false] 4) := by
                  have h1 := HZO.out
                  have h2 := HBT.out.size
                  exact (H10.out.block _ (by omega)).trans ((HBT.out.block _ (by omega)).trans HG4.out)
                have hbw : Below w.heap.size w (w9.alloc (.cells #[.int .i64 2] 3)) := (HBO.out.trans (HBT.out.mono HBO.out.size)).trans (H10.out.mono (by have := HBO.out.size; have := HBT.out.size; omega))
                have c2 := HBX.out.cell
                obtain ⟨wf, hwf⟩ : ∃ W, w9.alloc (.cells #[.int .i64 2] 3) = W := ⟨_, rfl⟩
                rw [hwf] at hd0 hd1 h4 hbw c2
                try rw [hwf]
                obtain ⟨bf, hbf⟩ : ∃ b, w9.heap.size = b := ⟨_, rfl⟩
                rw [hbf] at c2
                try rw [hbf]
                clear hwf hbf
                have c4 := cell_of_row _ _ 0 _ _ _ h4
                simp at c4
                have f4 : ∀ j, wf.frozen? ⟨w.heap.size + 1, j, none⟩ = false := fun j => by simp [World.frozen?, h4]
                have hn1 : D1 ≠ w.heap.size + 1 := fun e => by rw [e, h4] at hd1; cases hd1
                have hn0 : D0 ≠ w.heap.size + 1 := fun e => by rw [e, h4] at hd0; cases hd0
                have hge1 : w.heap.size ≤ D1 := by
                  have h1 := HDS.out
                  have h2 := HB1.out.size
                  have h3 := HBT.out.size
                  have h5 := HZO.out
                  omega
                have hge0 : w.heap.size ≤ D0 := by
                  rcases Nat.lt_or_ge D0 w.heap.size with h9 | h9
                  · exfalso
                    exact HD0N.out h9
                  · exact h9
                have hne01 : D1 ≠ D0 := fun e => by
                  have h1 := HDS.out
                  have h2 := HB1.out.size
                  have h5 := (Array.getElem?_eq_some_iff.1 HD0.out).1
                  omega
                have e1 : (wf.setCell ⟨w.heap.size + 1, 0, none⟩ (.bool true)).heap[D1]? = some (.deferred (some [])) := (Below.heap_setCell _ _ _ _ hn1).trans hd1
                have e0 : ((wf.setCell ⟨w.heap.size + 1, 0, none⟩ (.bool true)).putObj D1 (.deferred none)).heap[D0]? = some (.deferred (some [])) := (World.putObj_heap_other (fun e => hne01 e.symm)).trans ((Below.heap_setCell _ _ _ _ hn0).trans hd0)
                have y4 : (((wf.setCell ⟨w.heap.size + 1, 0, none⟩ (.bool true)).putObj D1 (.deferred none)).putObj D0 (.deferred none)).cell? ⟨w.heap.size + 1, 0, none⟩ = some (.bool true) :=
                  (World.cell?_of_block ((World.putObj_heap_other (fun e => hn0 e.symm)).trans (World.putObj_heap_other (fun e => hn1 e.symm)))).trans (World.cell?_setCell_same' _ _ _ (by rw [c4]; rfl))
                have HEND := Lib.hid (((hbw.setCell (p := ⟨w.heap.size + 1, 0, none⟩) (by show w.heap.size ≤ w.heap.size + 1; omega) (.bool true)).trans (below_put (o' := .deferred none) hge1 e1)).trans (below_put (o' := .deferred none) hge0 e0))
                have HE1 := Lib.hid e1
                have HE0 := Lib.hid e0
                clear hd0 hd1 hl0 h4 hbw e1 e0 hn1 hn0 hge1 hge0 hne01
                rw [rounds_succ]
                go_wp2
                exact ret_m2 (v := .bool true) HE1.out HE0.out (by simp [results, Try.results4, go_sem, y4]) ⟨rfl, HEND.out⟩
end Go.Proofs.Ytgcealgkhlbgmaa
