/- The walk of SstAsks. -/
import Derived.Test.YtjigfinpbdglnaaGreatDoorZSpA
set_option linter.unusedVariables false
set_option linter.unusedSimpArgs false
set_option maxRecDepth 100000
set_option linter.unusedVariables false
set_option linter.unusedSimpArgs false
namespace Go.Proofs.YtjigfinpbdglnaaGreatDoor
open Go.RowKit

theorem build_cases (l : List Ent) (z : Int) : (Sst.build l z).2 ≠ 0 ∨ (1 ≤ z ∧ Sst.build l z = (Sst.fin l z.toNat, 0) ∧ Ent.rightB l = true ∧ ∀ e ∈ l, ¬ Sst.long e) := by
  unfold Sst.build
  split
  · exact .inl (by simp)
  split
  · exact .inl (by simp)
  split
  · exact .inl (by simp)
  · rename_i h1 h2 h3
    exact .inr ⟨by omega, rfl, by simpa using h2, fun e he hl => h3 ⟨e, he, hl⟩⟩
theorem rnew_val {w : World} {o : Option Ent} {e : Ending} {w' : World} (h : RNew w o e w') : Below w.heap.size w w' ∧ ∃ a c, e = .returned (.tuple #[ev (o.getD default) a c, .bool o.isSome]) ∧ Bs w' a (o.getD default).val.length c (o.getD default).val := by
  cases o with
  | none => exact ⟨h.1, none, 0, h.2, Bs.nil w'⟩
  | some x => obtain ⟨h1, a, c, h2, h3⟩ := h; exact ⟨h1, a, c, h2, h3⟩
set_option maxHeartbeats 8000000 in
theorem sstAsks_walk (a : Option Addr) (n c : Nat) (l : List Ent) (z : Int) (key : List UInt8) (up : Nat) (w : World) (h : Es w a n c l) (hu : ∀ e ∈ l, U64 e.seq) (hz : -9223372036854775808 ≤ z ∧ z ≤ 9223372036854775807) (hup : U64 up) (hf : Ent.tot l + n ≤ 1000000000) (hc : Cst w) :
    Calls Tryz.prog 4 #[.slice a n c, .int .i64 z, .string (bstr key), .int .u64 up] w fun e w' => e = .returned (.bool true) ∧ Below w.heap.size w w' := by
  have HL : Hid (∀ W, Below w.heap.size w W → Es W a n c l) := Lib.hid fun W k => h.below k
  have HN := Lib.hid h.1
  have HZ := Lib.hid hz
  have HF := Lib.hid hf
  have HU := Lib.hid hu
  have HC := Lib.hid hc
  have HUP := Lib.hid hup
  have hle := h.le.1
  clear h hf hz hu hc hup
  go_enter Tryz.func4, Tryz.ntmps4
  go_wp2_with fail
  refine (known_any _).mono ?_
  rintro e w1 ⟨rfl, hb1⟩
  have HB1 := Lib.hid hb1
  have HL1 := Lib.hid (HL.out _ hb1)
  clear hb1
  go_wp2_with fail
  refine (efew_any a n c l 400 _ HL1.out HF.out (by omega)).mono ?_
  rintro e w2 ⟨rfl, q, rfl⟩
  have HB2 := Lib.hid (below_drewN HB1.out q)
  have HL2 := Lib.hid (HL.out _ HB2.out)
  generalize w1.drewN q = w2 at *
  cases hfw : decide (n ≤ 400 ∧ Ent.tot l ≤ 131072) with
  | false =>
    clear hfw
    go_wp2
    go_ret
    exact ⟨rfl, HB2.out⟩
  | true =>
    have hfw' := of_decide_eq_true hfw
    have HO : Hid (Sst.Ok l) := Lib.hid ⟨HU.out, hfw'.2, by rw [HN.out]; exact hfw'.1⟩
    have hn4 := hfw'.1
    clear hfw hfw'
    by_cases hkl : 10000 < key.length
    · have t1 : decide ((10000 : Int) < (key.length : Int)) = true := decide_eq_true (by omega)
      have t2 : decide (10000 < key.length) = true := decide_eq_true hkl
      go_wp2
      go_ret
      exact ⟨rfl, HB2.out⟩
    have t1 : decide ((10000 : Int) < (key.length : Int)) = false := decide_eq_false (by omega)
    have t2 : decide (10000 < key.length) = false := decide_eq_false hkl
    go_wp2_with fail
    refine (rbuild_any a n c l z _ HL2.out HO.out HZ.out).mono ?_
    rintro e w4 ⟨a4, n4, c4, rfl, ho4, hb4⟩
    have HB4 := Lib.hid (HB2.out.trans (hb4.mono HB2.out.size))
    have HO4 := Lib.hid ho4.bs
    clear ho4 hb4 t1 t2
    rcases build_cases l z with her | ⟨hz1, hbe, hr, hlg⟩
    · have ter : (((Sst.build l z).2 : Int) != 0) = true := by rw [bne_iff_ne]; omega
      have ter' : ((Sst.build l z).2 != 0) = true := by rw [bne_iff_ne]; exact her
      clear her
      generalize (Sst.build l z).2 = er at *
      go_wp2
      go_ret
      exact ⟨rfl, HB4.out⟩
    rw [hbe] at HO4 ⊢
    have HR := Lib.hid hr
    have HLG := Lib.hid hlg
    have HOP := Lib.hid (opn_fin (size := z.toNat) HO.out hlg hr)
    have HFB := Lib.hid (fin_len (size := z.toNat) HO.out).1
    clear hbe hr hlg hz1
    generalize Sst.fin l z.toNat = b at *
    dsimp only at HO4
    have hnb : n4 ≤ 1000000 := by have := HFB.out; have := HO4.out.1; omega
    go_wp2_with fail
    refine (opened_any a4 n4 c4 b w4 HO4.out hnb (HC.out.below HB4.out)).mono ?_
    rintro e w5 ⟨hb5, ⟨q, hR, rfl⟩ | ⟨L, bl, bt, al, cl, af, nf, cf, rt, ar, cr, ab, cb, ag, ng, cg, hR, rfl, hT, hRt⟩⟩
    · exfalso
      have := HOP.out.symm.trans hR
      cases this
    obtain rfl : l = L := by
      have := HOP.out.symm.trans hR
      cases this
      rfl
    have HOUT := Lib.hid ((opn_out (b := b) (by have := HFB.out; omega)).2 _ _ hR)
    have HB5 := Lib.hid (HB4.out.trans (hb5.mono HB4.out.size))
    have hm5 : bl.length ≤ 1000000000 := by
      obtain ⟨A, k, hA, hI⟩ := HOUT.out
      have h1 := hI.m
      have h2 := hI.le
      have h3 := HFB.out
      omega
    have HVL : Hid (∀ e ∈ l, e.val.length ≤ 1000000000) := Lib.hid fun e he => by
      have h1 := HLG.out e he
      unfold Sst.long at h1
      omega
    have HSQ : Hid (∀ e ∈ l, e.seq ≤ 18446744073709551615) := Lib.hid fun e he => by have := (HU.out e he).lt; omega
    have HSN : Hid (∀ i, i < n → (nth l i).seq ≤ 18446744073709551615) := Lib.hid fun i hi => HSQ.out _ (by rw [nth_eq _ (by rw [HN.out]; exact hi)]; exact List.getElem_mem _)
    rw [HN.out] at hT hRt
    have HT := Lib.hid hT
    have HRT := Lib.hid hRt
    have HLK := Lib.hid (looks_any hT hRt (by omega) hm5 HVL.out HSN.out)
    clear hb5 hR hT hRt hm5 hnb
    go_wp2_with fail
    refine HLK.out.mono ?_
    rintro e w6 ⟨rfl, hb6⟩
    have HB6 := Lib.hid (HB5.out.trans (hb6.mono HB5.out.size))
    have HT6 := Lib.hid (HT.out.below hb6)
    have HRT6 := Lib.hid (HRT.out.below hb6)
    clear hb6 HT HRT HLK HO4 HB5 HB4 HB2 HB1 HL1 HL2 HOUT HFB HOP
    go_upto_region 12 with fail
    have hk0 := AccS.two w6 key []
    have hb7 := below_alloc1 w6 (.cells #[.string (bstr key), .string (bstr [])] 9)
    have e0 : (⟨#[]⟩ : ByteArray) = bstr [] := rfl
    rw [e0]
    generalize w6.alloc (.cells #[.string (bstr key), .string (bstr [])] 9) = w7 at *
    have HA0 : Hid (AccS w7 w6.heap.size (some ⟨w6.heap.size, 0, none⟩) 2 2 (Sst.asks l key 0)) := Lib.hid hk0
    have HB70 := Lib.hid hb7
    clear hk0 hb7
    go_wp2_with fail
    go_loopw [14, 15] (fun kv iv wr => ∃ (i : Nat) (ak : Option Addr) (ck : Nat), i ≤ n ∧ i ≤ 40 ∧ iv = .int .i64 i ∧ kv = .slice ak (2 + 2 * i) ck ∧ Hid (AccS wr w6.heap.size ak (2 + 2 * i) ck (Sst.asks l key i)) ∧ Hid (Below w6.heap.size w6 wr)) (fun _ iv _ => n - (intOf iv).toNat)
    case atStart => exact ⟨0, _, _, Nat.zero_le _, Nat.zero_le _, rfl, rfl, HA0, HB70⟩
    case round =>
      obtain ⟨i, ak, ck, hin, hi40, rfl, rfl, HA, HB⟩ := hrel
      by_cases hlt : i < n ∧ i < 40
      · have t1 : decide ((i : Int) < (n : Int)) = true := decide_eq_true (by omega)
        have t2 : decide (i < n) = true := decide_eq_true hlt.1
        have t3 : decide ((i : Int) < 40) = true := decide_eq_true (by omega)
        have t4 : decide (i < 40) = true := decide_eq_true hlt.2
        obtain ⟨b1, o1, a1, d1, rfl, he1, _⟩ := (HL.out w6 HB6.out).vals hlt.1
        have HP1 := Lib.hid (fun V : BW w6 => cell_later V.b he1.key)
        have HAS : Hid (Sst.asks l key (i + 1) = Sst.asks l key i ++ [(nth l i).key, (nth l i).key ++ [120]]) := Lib.hid rfl
        have hkk : (nth l i).key.length + 1 ≤ 9223372036854775807 := by
          have := (HO.out.at (i := i) (by rw [HN.out]; exact hlt.1)).2
          omega
        have hkk' : decide (9223372036854775807 < (nth l i).key.length + 1) = false := decide_eq_false (by omega)
        have hx : (⟨#[120]⟩ : ByteArray) = bstr [120] := rfl
        clear he1
        generalize (nth l i).key = x at *
        have hlt1 := hlt.1
        go_upto_region 15 with fail
        refine wp_region_steps [14] 14 14 (by kernel_rfl) (by kernel_rfl) rfl (fun W' => ∃ V : BW w6, W' = V.w) ?_
        have HBD : Below wr.heap.size wr wr.drew := (Below.refl _ _).drew
        have HB6D := Lib.hid (HB.out.drew)
        have HAD := Lib.hid (HA.out.below HBD)
        generalize wr.drew = wD at *
        refine anyT_pull [0, 1, 2, 3, 4, 5, 6, 7, 8, 9, 10, 11] 14 2 (by intro c a d v w h; cases d <;> exact h) (by kernel_rfl) ⟨⟨_, HB6D.out⟩, rfl⟩ ?_
        simp only [opsAt, List.filterMap_cons, List.filterMap_nil, List.getElem?_cons_zero, List.getElem?_cons_succ]
        iterate 11
          apply held_step
          · kernel_rfl
          · rintro _ ⟨V, rfl⟩
            have q1 := HP1.out V
            go_simp
            rfl
        apply held_step
        · kernel_rfl
        · rintro _ ⟨V, rfl⟩
          go_simp
          rw [if_neg (by omega)]
        refine held_nil ?_
        apply anyT_one 12
        · rfl
        · kernel_rfl
        · kernel_rfl
        intro K hK
        go_simp
        rw [bstr_join]
        have HB8 := Lib.hid (HB6D.out.trans ((below_alloc1 wD (.cells #[.string (bstr x), .string (bstr (x ++ [120]))] 9)).mono HB6D.out.size))
        have HA8 := Lib.hid (HAD.out.below (below_alloc1 wD (.cells #[.string (bstr x), .string (bstr (x ++ [120]))] 9)))
        have HR8 := Lib.hid (row_two wD x (x ++ [120]))
        refine hK _ _ ⟨⟨_, HB8.out⟩, rfl⟩ ?_
        clear hK
        generalize hg8 : wD.alloc (.cells #[.string (bstr x), .string (bstr (x ++ [120]))] 9) = w8 at *
        apply anyT_one 13
        · rfl
        · kernel_rfl
        · kernel_rfl
        intro K hK
        refine step_app_strs _ _ rfl w6.heap.size rfl HA8.out rfl rfl HR8.out (by omega) (by omega) HB8.out.size ?_
        intro a9 c9 w9 h9 hb9
        have HB9 := Lib.hid (HB8.out.trans hb9)
        rw [← HAS.out, show 2 + 2 * i + 2 = 2 + 2 * (i + 1) by omega] at h9
        rw [show 2 + 2 * i + 2 = 2 + 2 * (i + 1) by omega]
        have HA9 := Lib.hid h9
        refine hK _ _ ⟨⟨_, HB9.out⟩, rfl⟩ ?_
        clear hK h9 hb9 hg8
        refine anyT_done (by kernel_rfl) ?_
        simp only [opsAt, List.filterMap_cons, List.filterMap_nil, List.getElem?_cons_zero, List.getElem?_cons_succ]
        go_wp2
        go_roundw
        case rel => exact ⟨i + 1, a9, c9, by omega, by omega, by go_num, rfl, HA9, HB9⟩
        case measure => simp [intOf]; omega
      · go_upto_region 13 with fail
        go_cut [66] (fun v wx => v = .bool false ∧ wx = wr)
        case first =>
          by_cases h1 : i < n
          · have t1 : decide ((i : Int) < (n : Int)) = true := decide_eq_true (by omega)
            have t2 : decide (i < n) = true := decide_eq_true h1
            have t3 : decide ((i : Int) < 40) = false := decide_eq_false (by omega)
            have t4 : decide (i < 40) = false := decide_eq_false (by omega)
            go_wp2
            go_meet
            exact ⟨rfl, rfl⟩
          · have t1 : decide ((i : Int) < (n : Int)) = false := decide_eq_false (by omega)
            have t2 : decide (i < n) = false := decide_eq_false h1
            go_wp2
            go_meet
            exact ⟨rfl, rfl⟩
        case rest =>
          obtain ⟨rfl, rfl⟩ := hcut
          have hks := HA.out
          have hkn := hks.1
          have hsh : Hid (∀ x ∈ Sst.asks l key i, x.length ≤ 200000) := Lib.hid (asks_short (by omega) (fun e he => by
            have h1 := Ent.tot_le l l.length
            obtain ⟨k, hk, rfl⟩ := List.mem_iff_getElem.1 he
            have h2 := (HO.out.at hk).2
            rw [nth_eq _ hk] at h2
            omega) i (by rw [HN.out]; omega))
          have HRD := Lib.hid (hks.rd (by decide))
          have HB0 := HB
          clear hks HA HA0 HB70 HB hlt hi40
          generalize Sst.asks l key i = ks at *
          obtain ⟨m, hm⟩ : ∃ m, m = 2 + 2 * i := ⟨_, rfl⟩
          rw [← hm] at HRD hkn ⊢
          have hm82 : m ≤ 1000 := by omega
          have HKN := Lib.hid hkn
          clear hm hkn
          generalize wc = wk at *
          have HTK := Lib.hid (HT6.out.below HB0.out)
          have HRK := Lib.hid (HRT6.out.below HB0.out)
          have HBK := Lib.hid (HB6.out.trans (HB0.out.mono HB6.out.size))
          clear HT6 HRT6 HB6 HB0
          go_upto_region 16 with fail
          go_wp2_with fail
          go_loopw [16] (fun iv wr => ∃ j : Nat, j ≤ m ∧ iv = .int .i64 j ∧ Hid (Below wk.heap.size wk wr)) (fun iv _ => m - (intOf iv).toNat)
          case atStart => exact ⟨0, Nat.zero_le _, rfl, Lib.hid (Below.refl _ _)⟩
          case round =>
            obtain ⟨j, hj, rfl, HB⟩ := hrel
            by_cases hlt : j < m
            · have t1 : decide ((j : Int) < (m : Int)) = true := decide_eq_true (by omega)
              have t2 : decide (j < m) = true := decide_eq_true hlt
              obtain ⟨bk, ok, rfl, hck⟩ := HRD.out.2.2.2 j hlt
              have hck0 := hck 0 _ rfl
              rw [show ok + j * celS.s + 0 = ok + j from by rw [show celS.s = 1 from rfl]; omega] at hck0
              have HXS : Hid ((nth ks j).length ≤ 200000) := Lib.hid (hsh.out _ (by rw [nth_eq _ (by rw [HKN.out]; exact hlt)]; exact List.getElem_mem _))
              generalize nth ks j = x at *
              have HCK := Lib.hid (fun W (hW : Below wk.heap.size wk W) => cell_later hW hck0)
              have y0 := HCK.out wr HB.out
              have HTr := Lib.hid (HTK.out.below HB.out)
              have HGT := Lib.hid (sget_any HTr.out x up (by omega) HR.out HVL.out)
              clear hck hck0
              go_wp2_with fail
              refine HGT.out.mono ?_
              rintro e wA hrA
              obtain ⟨hbA, aA, cA, rfl, hvA⟩ := rnew_val hrA
              clear hrA
              dsimp only [ev]
              go_upto_region 20 with fail
              have hEA := load_box wA ((Ent.firstAt l x up).getD default) aA cA
              have hb1 := below_alloc1 wA (.cells #[.string (bstr ((Ent.firstAt l x up).getD default).key), .int .u64 ((Ent.firstAt l x up).getD default).seq, .bool ((Ent.firstAt l x up).getD default).gone, .slice aA ((Ent.firstAt l x up).getD default).val.length cA] 37)
              have HVA := Lib.hid (hvA.below hb1)
              have HB2 := Lib.hid (HB.out.trans ((hbA.trans (hb1.mono hbA.size)).mono HB.out.size))
              generalize wA.alloc (.cells #[.string (bstr ((Ent.firstAt l x up).getD default).key), .int .u64 ((Ent.firstAt l x up).getD default).seq, .bool ((Ent.firstAt l x up).getD default).gone, .slice aA ((Ent.firstAt l x up).getD default).val.length cA] 37) = wB at *
              generalize wA.heap.size = gA at *
              have HEA := Lib.hid hEA
              have y1 := HCK.out wB HB2.out
              have HNW := Lib.hid (refnewest_any a n c l x up wB (HL.out wB (HBK.out.trans (HB2.out.mono HBK.out.size))))
              clear hEA hb1 hvA hbA y0 HTr HGT HB
              go_wp2_with fail
              refine HNW.out.mono ?_
              rintro e wC hrC
              obtain ⟨hbC, aC, cC, rfl, hvC⟩ := rnew_val hrC
              clear hrC HNW
              dsimp only [ev]
              go_upto_region 21 with fail
              have hEC := load_box wC ((Ent.firstAt l x up).getD default) aC cC
              have hb1 := below_alloc1 wC (.cells #[.string (bstr ((Ent.firstAt l x up).getD default).key), .int .u64 ((Ent.firstAt l x up).getD default).seq, .bool ((Ent.firstAt l x up).getD default).gone, .slice aC ((Ent.firstAt l x up).getD default).val.length cC] 37)
              have hbb := hbC.trans (hb1.mono hbC.size)
              have HVC := Lib.hid (hvC.below hb1)
              have HVA2 := Lib.hid (HVA.out.below hbb)
              have HEA2 := Lib.hid (HEA.out.below hbb)
              have HB3 := Lib.hid (HB2.out.trans (hbb.mono HB2.out.size))
              generalize wC.alloc (.cells #[.string (bstr ((Ent.firstAt l x up).getD default).key), .int .u64 ((Ent.firstAt l x up).getD default).seq, .bool ((Ent.firstAt l x up).getD default).gone, .slice aC ((Ent.firstAt l x up).getD default).val.length cC] 37) = wD at *
              generalize wC.heap.size = gC at *
              have HEC := Lib.hid hEC
              clear hEC hb1 hvC hbC hbb y1 HVA HEA HB2
              generalize (Ent.firstAt l x up).getD default = X at *
              generalize (Ent.firstAt l x up).isSome = bX at *
--R21
              have hfl := HTK.out.fs.1
              have hf2 := filter_len2 l (by rw [HN.out]; omega)
              have hf3 := filter_len l (by rw [HN.out]; omega)
              have hnf : 1 ≤ nf ∧ nf ≤ 1000000 := by omega
              have hfl' := HRK.out.fs.1
              have hng : 1 ≤ ng ∧ ng ≤ 1000000 := by omega
              have hxs := HXS.out
              have HSM : Hid (∀ V : BW wD, Calls Tryz.prog 12 #[.agg #[.string (bstr X.key), .int .u64 X.seq, .bool X.gone, .slice aA X.val.length cA], .agg #[.string (bstr X.key), .int .u64 X.seq, .bool X.gone, .slice aC X.val.length cC]] V.w fun e w' => e = .returned (.bool true) ∧ Below V.w.heap.size V.w w') := Lib.hid fun V => by
                have h := esame_any X X aA aC cA cC V.w (HVA2.out.below V.b) (HVC.out.below V.b)
                rw [show decide (X = X) = true from decide_eq_true rfl] at h
                exact h
              have HMY : Hid (∀ V : BW wD, Calls Tryz.prog 13 #[.pointer (some ⟨bt, 0, none⟩), .string (bstr x)] V.w fun e w' => e = .returned (.bool (Sst.may (Sst.filter l) x)) ∧ Below V.w.heap.size V.w w') := Lib.hid fun V => may_any ((HTK.out.below HB3.out).below V.b) x hnf.1 hnf.2 (by omega)
              have HRM : Hid (∀ V : BW wD, Calls Tryz.prog 14 #[.slice ag ng cg, .string (bstr x)] V.w fun e w' => e = .returned (.bool (Sst.may (Sst.filter l) x)) ∧ Below V.w.heap.size V.w w') := Lib.hid fun V => rmay_any ag ng cg (Sst.filter l) x V.w ((HRK.out.below HB3.out).fs.below V.b) hng.1 hng.2 (by omega)
              generalize Sst.may (Sst.filter l) x = my at HMY HRM
              have tX : (bX != bX) = false := by cases bX <;> rfl
              have tM : (my != my) = false := by cases my <;> rfl
              have z0 := HCK.out wD HB3.out
              obtain ⟨_, _, z1, _⟩ := cells3 (HRK.out.below HB3.out).heap
              have HZ : Hid (∀ V : BW wD, V.w.cell? ⟨bk, ok + j, none⟩ = some (.string (bstr x)) ∧ V.w.cell? ⟨rt, 2, none⟩ = some (.slice ag ng cg) ∧ EntAt V.w gA 0 X aA cA ∧ EntAt V.w gC 0 X aC cC) := Lib.hid fun V => ⟨cell_later V.b z0, cell_later V.b z1, HEA2.out.below V.b, HEC.out.below V.b⟩
              clear hfl hf2 hf3 hnf hfl' hng hxs
              go_cut [157] (fun v wx => v = .bool false ∧ Hid (Below wk.heap.size wk wx))
              case first =>
                by_cases hj6 : j < 6
                · have t3 : decide ((j : Int) < 6) = true := decide_eq_true (by omega)
                  have t4 : decide (j < 6) = true := decide_eq_true hj6
                  have HFR : Hid (∀ V : BW wD, Calls Tryz.prog 16 #[.pointer (some ⟨bt, 0, none⟩), .string (bstr x)] V.w (ColP V.w (l.drop (Ent.pl l x 18446744073709551615)))) := Lib.hid fun V => lfrom_any ((HTK.out.below HB3.out).below V.b) (by omega) HVL.out x _ (by have := Ent.pl_le l x 18446744073709551615; rw [HN.out] at this; exact this) Ent.pl_lo (fun i h1 h2 => Ent.pl_hi HR.out i h1 (by rw [HN.out]; exact h2))
                  have HFA : Hid (∀ V : BW wD, Calls Tryz.prog 17 #[.slice a n c, .string (bstr x)] V.w fun e w' => e = .returned (.int .i64 (Ent.pl l x 18446744073709551615 : Nat)) ∧ Below V.w.heap.size V.w w') := Lib.hid fun V => by
                    have h := reffrom_any a n c l x V.w ((HL.out wD (HBK.out.trans (HB3.out.mono HBK.out.size))).below V.b)
                    rw [Ent.fromAt_pl HSQ.out] at h
                    exact h
                  have hpn : Ent.pl l x 18446744073709551615 ≤ n := by have := Ent.pl_le l x 18446744073709551615; rw [HN.out] at this; exact this
                  have HED : Hid (Es wD a n c l) := Lib.hid (HL.out wD (HBK.out.trans (HB3.out.mono HBK.out.size)))
                  generalize Ent.pl l x 18446744073709551615 = p at *
                  obtain ⟨ti, hti, _, hti1, _⟩ := info_parts infoE
                  have HSL : Hid (∀ W, (Instr.slice 30 (.slice a n c) (some (.int .i64 (p : Int))) none none).run Tryz.prog W = .ok (.slice (subAn a c p 4) (n - p) (c - p)) W) := Lib.hid fun W => run_slice_l (P := Tryz.prog) Tryz.underlying30 hti hti1 a n c (lo := (p : Int)) rfl hpn W
                  have HEP : Hid (Es wD (subAn a c p 4) (n - p) (c - p) (l.drop p)) := Lib.hid (by
                    have := HED.out.part (lo := p) (hi := n) (mx := c) hpn (Nat.le_refl _) HED.out.2.1 (Nat.le_refl _)
                    rwa [← HN.out, List.take_length, HN.out] at this)
                  clear hti hti1 HED
                  refine wp_region_steps [48] 48 48 (by kernel_rfl) (by kernel_rfl) rfl (fun W' => ∃ V : BW wD, W' = V.w) ?_
                  have HBD : Hid (Below wD.heap.size wD wD.drew) := Lib.hid (Below.refl _ _).drew
                  generalize hwE : wD.drew = wE at *
                  refine anyT_pull [0, 1, 2, 3, 4, 5] 48 42 (by intro c a d v w h; cases d <;> exact h) (by kernel_rfl) ⟨⟨_, HBD.out⟩, rfl⟩ ?_
                  simp only [opsAt, List.filterMap_cons, List.filterMap_nil, List.getElem?_cons_zero, List.getElem?_cons_succ]
                  iterate 6
                    apply held_step
                    · kernel_rfl
                    · rintro _ ⟨V, rfl⟩
                      obtain ⟨q0, q1, q2, q3⟩ := HZ.out V
                      have e0 := q2.key
                      have e1 := q2.seq
                      have e2 := q2.gone
                      have e3 := q2.val
                      have f0 := q3.key
                      have f1 := q3.seq
                      have f2 := q3.gone
                      have f3 := q3.val
                      simp only [Nat.zero_add] at e0 e1 e2 e3 f0 f1 f2 f3
                      go_simp
                      rfl
                  refine held_nil ?_
                  apply anyT_one 6
                  · rfl
                  · kernel_rfl
                  · kernel_rfl
                  intro K hK
                  go_simp
                  refine (HSM.out ⟨_, HBD.out⟩).mono ?_
                  rintro en wF ⟨rfl, hb⟩
                  have HBE := Lib.hid (HBD.out.trans (hb.mono HBD.out.size))
                  refine hK _ _ ⟨⟨_, HBE.out⟩, rfl⟩ ?_
                  clear hK hb
                  refine anyT_pull [7, 8, 9, 10, 11, 12, 13, 14, 16, 17, 18, 19, 20, 21, 22, 23] 48 25 (by intro c a d v w h; cases d <;> exact h) (by kernel_rfl) ⟨⟨_, HBE.out⟩, rfl⟩ ?_
                  simp only [opsAt, List.filterMap_cons, List.filterMap_nil, List.getElem?_cons_zero, List.getElem?_cons_succ]
                  iterate 16
                    apply held_step
                    · kernel_rfl
                    · rintro _ ⟨V, rfl⟩
                      obtain ⟨q0, q1, q2, q3⟩ := HZ.out V
                      have e0 := q2.key
                      have e1 := q2.seq
                      have e2 := q2.gone
                      have e3 := q2.val
                      have f0 := q3.key
                      have f1 := q3.seq
                      have f2 := q3.gone
                      have f3 := q3.val
                      simp only [Nat.zero_add] at e0 e1 e2 e3 f0 f1 f2 f3
                      go_simp
                      rfl
                  refine held_nil ?_
                  apply anyT_one 15
                  · rfl
                  · kernel_rfl
                  · kernel_rfl
                  intro K hK
                  go_simp
                  refine (HMY.out ⟨_, HBE.out⟩).mono ?_
                  rintro en wG ⟨rfl, hb⟩
                  have HBF := Lib.hid (HBE.out.trans (hb.mono HBE.out.size))
                  refine hK _ _ ⟨⟨_, HBF.out⟩, rfl⟩ ?_
                  clear hK hb
                  apply anyT_one 24
                  · rfl
                  · kernel_rfl
                  · kernel_rfl
                  intro K hK
                  go_simp
                  refine (HRM.out ⟨_, HBF.out⟩).mono ?_
                  rintro en wH ⟨rfl, hb⟩
                  have HBG := Lib.hid (HBF.out.trans (hb.mono HBF.out.size))
                  refine hK _ _ ⟨⟨_, HBG.out⟩, rfl⟩ ?_
                  clear hK hb
                  refine anyT_pull [25, 26, 27, 28, 29, 30, 31, 32, 33, 34, 35, 37, 38, 39, 40, 41, 42] 48 6 (by intro c a d v w h; cases d <;> exact h) (by kernel_rfl) ⟨⟨_, HBG.out⟩, rfl⟩ ?_
                  simp only [opsAt, List.filterMap_cons, List.filterMap_nil, List.getElem?_cons_zero, List.getElem?_cons_succ]
                  iterate 17
                    apply held_step
                    · kernel_rfl
                    · rintro _ ⟨V, rfl⟩
                      obtain ⟨q0, q1, q2, q3⟩ := HZ.out V
                      have e0 := q2.key
                      have e1 := q2.seq
                      have e2 := q2.gone
                      have e3 := q2.val
                      have f0 := q3.key
                      have f1 := q3.seq
                      have f2 := q3.gone
                      have f3 := q3.val
                      simp only [Nat.zero_add] at e0 e1 e2 e3 f0 f1 f2 f3
                      go_simp
                      rfl
                  refine held_nil ?_
                  apply anyT_one 36
                  · rfl
                  · kernel_rfl
                  · kernel_rfl
                  intro K hK
                  go_simp
                  refine (HFR.out ⟨_, HBG.out⟩).mono ?_
                  rintro en wI ⟨aF, nF, cF, rfl, hoF, hb⟩
                  have HBI := Lib.hid (HBG.out.trans (hb.mono HBG.out.size))
                  have HOF := Lib.hid hoF
                  have HNF : Hid (nF = (l.drop p).length) := Lib.hid hoF.len.symm
                  refine hK _ _ ⟨⟨_, HBI.out⟩, rfl⟩ ?_
                  clear hK hb hoF
                  apply anyT_one 43
                  · rfl
                  · kernel_rfl
                  · kernel_rfl
                  intro K hK
                  go_simp
                  refine (HFA.out ⟨_, HBI.out⟩).mono ?_
                  rintro en wJ ⟨rfl, hb⟩
                  have HBJ := Lib.hid (HBI.out.trans (hb.mono HBI.out.size))
                  have HSR := Lib.hid (srows_any aF (subAn a c p 4) nF cF (n - p) (c - p) (l.drop p) (l.drop p) wJ (HOF.out.es.below hb) (HEP.out.below HBJ.out))
                  refine hK _ _ ⟨⟨_, HBJ.out⟩, rfl⟩ ?_
                  clear hK hb
                  refine anyT_pull [44] 48 3 (by intro c a d v w h; cases d <;> exact h) (by kernel_rfl) ⟨⟨_, HBJ.out⟩, rfl⟩ ?_
                  simp only [opsAt, List.filterMap_cons, List.filterMap_nil, List.getElem?_cons_zero, List.getElem?_cons_succ]
                  iterate 1
                    apply held_step
                    · kernel_rfl
                    · rintro _ ⟨V, rfl⟩
                      obtain ⟨q0, q1, q2, q3⟩ := HZ.out V
                      have e0 := q2.key
                      have e1 := q2.seq
                      have e2 := q2.gone
                      have e3 := q2.val
                      have f0 := q3.key
                      have f1 := q3.seq
                      have f2 := q3.gone
                      have f3 := q3.val
                      simp only [Nat.zero_add] at e0 e1 e2 e3 f0 f1 f2 f3
                      have sl := HSL.out V.w
                      go_simp
                      rfl
                  refine held_nil ?_
                  apply anyT_one 45
                  · rfl
                  · kernel_rfl
                  · kernel_rfl
                  intro K hK
                  go_simp
                  refine HSR.out.mono ?_
                  rintro en wM ⟨rfl, hb⟩
                  have HBM := Lib.hid (HBJ.out.trans (hb.mono HBJ.out.size))
                  refine hK _ _ ⟨⟨_, HBM.out⟩, rfl⟩ ?_
                  clear hK hb HSR
                  rw [show decide (l.drop p = l.drop p) = true from decide_eq_true rfl]
                  refine anyT_pull [46, 47] 48 0 (by intro c a d v w h; cases d <;> exact h) (by kernel_rfl) ⟨⟨_, HBM.out⟩, rfl⟩ ?_
                  simp only [opsAt, List.filterMap_cons, List.filterMap_nil, List.getElem?_cons_zero, List.getElem?_cons_succ]
                  iterate 2
                    apply held_step
                    · kernel_rfl
                    · rintro _ ⟨V, rfl⟩
                      obtain ⟨q0, q1, q2, q3⟩ := HZ.out V
                      have e0 := q2.key
                      have e1 := q2.seq
                      have e2 := q2.gone
                      have e3 := q2.val
                      have f0 := q3.key
                      have f1 := q3.seq
                      have f2 := q3.gone
                      have f3 := q3.val
                      simp only [Nat.zero_add] at e0 e1 e2 e3 f0 f1 f2 f3
                      go_simp
                      rfl
                  refine held_nil ?_
                  refine anyT_done (by kernel_rfl) ?_
                  simp only [opsAt, List.filterMap_cons, List.filterMap_nil, List.getElem?_cons_zero, List.getElem?_cons_succ]
                  have HBX := Lib.hid (HB3.out.trans (HBM.out.mono HB3.out.size))
                  go_wp2
                  go_meet
                  exact ⟨rfl, HBX⟩
                · have t3 : decide ((j : Int) < 6) = false := decide_eq_false (by omega)
                  have t4 : decide (j < 6) = false := decide_eq_false hj6
                  refine wp_region_class (w0 := wD) (by kernel_rfl) (by kernel_rfl) (Below.refl _ _) ?_
                  have q0 := BW.cell z0
                  have q1 := BW.cell z1
                  have e0 := BW.cell HEA2.out.key
                  have e1 := BW.cell HEA2.out.seq
                  have e2 := BW.cell HEA2.out.gone
                  have e3 := BW.cell HEA2.out.val
                  have f0 := BW.cell HEC.out.key
                  have f1 := BW.cell HEC.out.seq
                  have f2 := BW.cell HEC.out.gone
                  have f3 := BW.cell HEC.out.val
                  simp only [Nat.zero_add] at e0 e1 e2 e3 f0 f1 f2 f3
                  repeat (first | go_big_quiet_step (first | (go_at_call 12; exact calls_class (HSM.out _)) | (go_at_call 13; exact calls_class (HMY.out _)) | (go_at_call 14; exact calls_class (HRM.out _))))
                  refine wpQuiet_nil ?_
                  intro wE hbE; replace hbE := BW.of hbE
                  have HBX := Lib.hid (HB3.out.trans (hbE.mono HB3.out.size))
                  clear hbE q0 q1 e0 e1 e2 e3 f0 f1 f2 f3
                  go_wp2
                  go_meet
                  exact ⟨rfl, HBX⟩
              case rest =>
                obtain ⟨rfl, HBX⟩ := hcut
                clear HSM HMY HRM HZ z0 z1 HEA2 HEC HVA2 HVC HB3
                go_wp2
                go_roundw
                case rel => exact ⟨j + 1, by omega, by go_num, HBX⟩
                case measure => simp [intOf]; omega
--R21END
            · have t1 : decide ((j : Int) < (m : Int)) = false := decide_eq_false (by omega)
              have t2 : decide (j < m) = false := decide_eq_false hlt
              have HBX := Lib.hid (HBK.out.trans (HB.out.mono HBK.out.size))
              go_wp2
              go_ret
              exact ⟨rfl, HBX.out⟩
end Go.Proofs.YtjigfinpbdglnaaGreatDoor
