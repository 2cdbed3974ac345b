/- The walk of CompactAll. -/
import Derived.Test.YtlipgaefflecaaaZCpC
import Derived.Test.YtlipgaefflecaaaZCaI
import Derived.Test.YtlipgaefflecaaaZCpP
set_option linter.unusedVariables false
set_option linter.unusedSimpArgs false
set_option maxRecDepth 100000
set_option linter.unusedVariables false
set_option linter.unusedSimpArgs false
namespace Go.Proofs.Ytlipgaefflecaaa
open Go.RowKit
open Ca

theorem totL_at {ls : List (List Ent)} {i : Nat} (h : i < ls.length) : Ent.tot (nth ls i) + (nth ls i).length ≤ Ent.totL ls := totL_mem (by rw [nth_eq _ h]; exact List.getElem_mem _)
theorem Ca.St.start {w w2 : World} {z b t : Int} (hb : Below w.heap.size w w2) (hs : SB w2 w.heap.size z b t) :
    Ca.St w w.heap.size w2.heap.size (w2.heap.size + 1) z b t ((w2.alloc (.cells #[.slice none 0 0, .int .u64 0, .int .i64 0, .int .i64 0] 31)).alloc (.map #[] 0)) none 0 0 0 (fun _ => []) [] := by
  have h1 := VBox.new w2 none 0 0 0 0 0
  have b1 := below_alloc1 w2 (.cells #[.slice none 0 0, .int .u64 0, .int .i64 0, .int .i64 0] 31)
  have b2 := below_alloc1 (w2.alloc (.cells #[.slice none 0 0, .int .u64 0, .int .i64 0, .int .i64 0] 31)) (.map #[] 0)
  have hf := FM.made (w2.alloc (.cells #[.slice none 0 0, .int .u64 0, .int .i64 0, .int .i64 0] 31))
  rw [World.size_alloc] at hf
  have b3 := b1.trans (b2.mono b1.size)
  have hlt := World.block_lt_of_cell? _ _ hs.1
  refine ⟨hb.trans (b3.mono hb.size), hs.kept (Kept.below b3), h1.below b2 h1.lt, Ts.nil _, ⟨_, hf⟩, hb.size, Nat.le_trans hb.size (Nat.le_succ _), ?_⟩
  exact Nat.ne_of_lt hlt
theorem Es.vput {w : World} {g n c n1 c1 n2 c2 : Nat} {a a1 a2 : Option Addr} {l : List Ent} (h : Es w a n c l) (hv : VBox w g a1 n1 c1 0 0 0) : Es (vset w g a2 n2 c2 0 0 0) a n c l := h.but hv.stiff (But.oth (vset_oth w g a2 n2 c2 0 0 0))
theorem ed_at {w : World} {aA : Option Addr} {nA cA : Nat} {aD : Option Addr} {nD cD : Nat} : EdAt (w.alloc (.cells #[.slice aA nA cA, .slice aD nD cD, .int .u64 0, .int .i64 0, .int .i64 0] 43)) w.heap.size 0 aA nA cA aD nD cD := by
  have h := heap_alloc_new w (.cells #[.slice aA nA cA, .slice aD nD cD, .int .u64 0, .int .i64 0, .int .i64 0] 43)
  exact ⟨(cell_of_row _ _ 0 _ _ _ h).trans rfl, (cell_of_row _ _ 1 _ _ _ h).trans rfl, (cell_of_row _ _ 2 _ _ _ h).trans rfl, (cell_of_row _ _ 3 _ _ _ h).trans rfl, (cell_of_row _ _ 4 _ _ _ h).trans rfl⟩
set_option maxHeartbeats 8000000 in
theorem compactAll_walk (a : Option Addr) (n c : Nat) (ls : List (List Ent)) (z b t : Int) (keep more : Nat) (w : World) (h : Ess w a n c ls) (hk : U64 keep) (hm : U64 more) (hf : Ent.totL ls + n ≤ 1000000000) :
    Calls Try.prog 3 #[.slice a n c, shv z b t, .int .u64 keep, .int .u64 more] w fun e w' => e = .returned (.bool true) ∧ Below w.heap.size w w' := by
  have hle := h.le.1
  have HN := Lib.hid h.1
  have HE : Hid (∀ W, Below w.heap.size w W → Ess W a n c ls) := Lib.hid fun W k => h.below k
  have HF := Lib.hid hf
  have HK := Lib.hid hk
  have HM := Lib.hid hm
  clear h hf hk hm
  have hsb := SB.new w z b t
  have hbb := below_alloc1 w (.cells #[.int .i64 z, .int .i64 b, .int .i64 t] 24)
  unfold shv
  go_enter Try.func3, Try.ntmps3
  go_upto_region 1 with fail
  generalize w.alloc (.cells #[.int .i64 z, .int .i64 b, .int .i64 t] 24) = wa at *
  go_wp2_with fail
  refine (known_any _).mono ?_
  rintro e w1 ⟨rfl, hb1⟩
  have HB1 := Lib.hid (hbb.trans (hb1.mono hbb.size))
  have HS1 := Lib.hid (hsb.kept (Kept.below hb1))
  clear hbb hsb hb1
  by_cases hn : n ≤ 12
  case neg =>
    have t1 : decide ((12 : Int) < (n : Int)) = true := decide_eq_true (by omega)
    clear hn
    go_wp2
    go_ret
    exact ⟨rfl, HB1.out⟩
  have t1 : decide ((12 : Int) < (n : Int)) = false := decide_eq_false (by omega)
  obtain ⟨s0, s1, s2⟩ := HS1.out
  by_cases hok : Cp.shOk z b t
  case neg =>
    go_wp2_with fail
    refine (check_no z b t _ hok).mono ?_
    clear hok
    rintro e w2 ⟨rfl, hb2⟩
    have HB2 := Lib.hid (HB1.out.trans (hb2.mono HB1.out.size))
    clear hb2
    go_wp2
    go_ret
    exact ⟨rfl, HB2.out⟩
  go_wp2_with fail
  refine (check_yes z b t _ hok).mono ?_
  have HOK := Lib.hid hok
  clear hok
  obtain ⟨tn, rfl⟩ : ∃ m : Nat, t = (m : Int) := ⟨t.toNat, by have := HOK.out; unfold Cp.shOk at this; omega⟩
  have htn : 1 ≤ tn ∧ tn ≤ 67108864 := by have := HOK.out; unfold Cp.shOk at this; omega
  rintro e w2 ⟨rfl, hb2⟩
  have HB2 := Lib.hid (HB1.out.trans (hb2.mono HB1.out.size))
  have HST0 := Lib.hid (Ca.St.start HB2.out (HS1.out.kept (Kept.below hb2)))
  clear hb2 s0 s1 s2 HS1 HB1 t1
  have hmm := @run_makeMap Try.prog
  go_upto_region 7 with fail
  clear hmm
  obtain ⟨w4, hw4⟩ : ∃ w4, (w2.alloc (.cells #[.slice none 0 0, .int .u64 0, .int .i64 0, .int .i64 0] 31)).alloc (.map #[] 0) = w4 := ⟨_, rfl⟩
  rw [hw4] at HST0
  rw [hw4]
  clear hw4
  obtain ⟨g9, hg9⟩ : ∃ g9, w2.heap.size = g9 := ⟨_, rfl⟩
  obtain ⟨gm, hgm⟩ : ∃ gm, g9 + 1 = gm := ⟨_, rfl⟩
  rw [hg9, hgm] at HST0
  rw [hg9, hgm]
  clear hg9 hgm HB2
  go_wp2_with fail
  go_loopw [11, 12] (fun tv iv wr => ∃ (i tot nm : Nat) (av : Option Addr) (nv cv : Nat) (F : Int → List Ent) (vt : List Tab), i ≤ n ∧ tv = .int .i64 tot ∧ iv = .int .i64 i ∧ tot ≤ 150 ∧ nm ≤ i ∧ Hid (Ca.St w w.heap.size g9 gm z b (tn : Int) wr av nv cv nm F vt) ∧ Hid (Pre F i vt) ∧ Hid (lens F vt = tot)) (fun _ iv _ => n - (intOf iv).toNat)
  case atStart => exact ⟨0, 0, 0, none, 0, 0, _, _, Nat.zero_le _, rfl, rfl, Nat.zero_le _, Nat.le_refl _, HST0, Lib.hid Pre.nil, Lib.hid rfl⟩
  case round =>
    clear HST0
    obtain ⟨i, tot, nm, av, nv, cv, F, vt, hi, rfl, rfl, htot, hnm, HST, HP, HLS⟩ := hrel
    by_cases hlt : i < n
    · have t1 : decide ((i : Int) < (n : Int)) = true := decide_eq_true (by omega)
      have t2 : decide (i < n) = true := decide_eq_true hlt
      obtain ⟨bb, off, ai, ni, ci, rfl, hc, hes⟩ := (HE.out wr HST.out.below).get hlt
      have HC : Hid (∀ W, Below wr.heap.size wr W → W.cell? ⟨bb, off + i, none⟩ = some (.slice ai ni ci)) := Lib.hid fun W k => cell_later k hc
      have HES := Lib.hid hes
      have hil : i < ls.length := by rw [HN.out]; exact hlt
      have htl := totL_at hil
      rw [hes.1] at htl
      have htl2 : Ent.tot (nth ls i) + ni ≤ 1000000000 := by have := HF.out; omega
      clear htl hes
      go_wp2_with fail
      refine (efew_any ai ni ci (nth ls i) 60 _ HES.out htl2 (by omega)).mono ?_
      rintro e w5 ⟨rfl, q, rfl⟩
      have HB5 := Lib.hid (below_drewN (Below.refl wr.heap.size wr) q)
      clear hc
      have hc := HC.out _ HB5.out
      have HPB := Lib.hid (HST.out.below)
      cases hfw : decide (ni ≤ 60 ∧ Ent.tot (nth ls i) ≤ 131072) with
      | false =>
        clear hfw htl2
        go_wp2
        go_ret
        exact ⟨rfl, HPB.out.trans (HB5.out.mono HPB.out.size)⟩
      | true =>
        have HFW := Lib.hid (of_decide_eq_true hfw)
        clear hfw htl2
        go_wp2_with fail
        refine (refright_any ai ni ci (nth ls i) _ (HES.out.below HB5.out)).mono ?_
        rintro e w6 ⟨rfl, hb6⟩
        have HB6 := Lib.hid (HB5.out.trans (hb6.mono HB5.out.size))
        clear hb6 hc
        have hc := HC.out _ HB6.out
        cases hR : Ent.rightB (nth ls i) with
        | false =>
          clear hR
          go_wp2
          go_ret
          exact ⟨rfl, HPB.out.trans (HB6.out.mono HPB.out.size)⟩
        | true =>
          have HRR := Lib.hid (Ent.rightB_iff.1 hR)
          clear hR
          have hni : ni ≤ 60 := HFW.out.1
          by_cases ht150 : tot + ni ≤ 150
          case neg =>
            have t3 : decide ((150 : Int) < (tot : Int) + (ni : Int)) = true := decide_eq_true (by omega)
            clear ht150
            go_wp2
            go_ret
            exact ⟨rfl, HPB.out.trans (HB6.out.mono HPB.out.size)⟩
          have t3 : decide ((150 : Int) < (tot : Int) + (ni : Int)) = false := decide_eq_false (by omega)
          by_cases hz : ni = 0
          · have t4 : ((ni : Int) == 0) = true := by simp; omega
            have HST6 := Lib.hid (HST.out.later HB6.out)
            have HP6 := Lib.hid HP.out.skip
            subst hz
            clear t3
            have t3 : decide ((150 : Int) < (tot : Int)) = false := decide_eq_false (by omega)
            go_wp2
            go_roundw
            case rel => exact ⟨i + 1, tot, nm, av, nv, cv, F, vt, by omega, by go_num, by go_num, htot, by omega, HST6, HP6, HLS⟩
            case measure => simp [intOf]; omega
          have t4 : ((ni : Int) == 0) = false := by simp; omega
          have HST6 := Lib.hid (HST.out.later HB6.out)
          obtain ⟨D6, hD6⟩ := HST6.out.fm
          have HD6 := Lib.hid hD6
          have HES6 := Lib.hid (HES.out.below HB6.out)
          have HRN : Hid (nth ls i ≠ []) := Lib.hid (fun e => hz (by rw [← HES.out.1, e]; rfl))
          have hi12 : (i : Int) ≤ 1099511627776 := by omega
          clear hD6
          go_upto_region 16 with (refine store_f rfl _ _ _ rfl rfl HD6.out (by simp only [maxLen]; omega) (Int.natCast_nonneg i) hi12 HES6.out rfl rfl ?_; intro D7 w7 hf7 hk7 hg7; have HF7 := Lib.hid hf7; have HK7 := Lib.hid hk7; have HST7 := Lib.hid (HST6.out.put hf7 hk7 hg7); clear hf7 hk7 hg7)
          have HES7 : Hid (∀ W, Below w7.heap.size w7 W → Es W ai ni ci (nth ls i)) := Lib.hid fun W k => (HES6.out.kept HK7.out).below k
          have hc7 := HK7.out _ _ _ (HC.out w6 HB6.out)
          obtain ⟨v0, v1, v2, v3, vf⟩ := HST7.out.vb.cells
          have HWT : Hid (∀ e ∈ nth ls i, Cp.wt e ≤ 1000000) := Lib.hid fun e he => by have h1 := tot_mem he; have h2 := HFW.out.2; unfold Cp.wt; omega
          have HFIT := Lib.hid (HP.out.fits (by omega) (Nat.le_trans HP.out.count (by rw [HLS.out]; omega)) HRR.out HRN.out HFW.out.2 (by rw [HES.out.1]; exact hni))
          have HPUT := Lib.hid (fun (L : List Tab) (hp : L.Perm ([tabOf i 0 (nth ls i)] ++ dropF vt [])) => HP.out.put HRR.out HRN.out HFW.out.2 hp)
          have hrn := HES.out.1
          have HTB : Hid (∀ W, Below w7.heap.size w7 W → Calls Try.prog 9 #[.int .i64 (i : Int), .int .i64 0, .slice ai ni ci] W fun e w' => e = .returned (tval (tabOf i 0 (nth ls i))) ∧ Below W.heap.size W w') := Lib.hid fun W k => table_any (i : Int) 0 ai ni ci (nth ls i) W (HES7.out W k) (by omega) (by omega) HWT.out
          obtain ⟨T, hT⟩ : ∃ T, tabOf (i : Int) 0 (nth ls i) = T := ⟨_, rfl⟩
          rw [hT] at HTB HFIT HPUT
          generalize nth ls i = r at *
          clear hT HES6 HES HD6 HST6 HST HK7 hc t1 t2 t3 t4 HP HWT HRR HRN HB5 HC HFW hz
          have HVT : Hid (∀ W, Below w7.heap.size w7 W → Ts W av nv cv vt) := Lib.hid fun W k => HST7.out.ts.below k
          have HAP : Hid (∀ W, Below w7.heap.size w7 W → ∀ (be : Nat) (aA : Option Addr) (cA : Nat), Ts W aA 1 cA [T] → EdAt W be 0 aA 1 cA none 0 0 → Calls Try.prog 8 #[vv av nv cv 0 0 0, .slice (some ⟨be, 0, none⟩) 1 1] W fun e w' => ∃ a' n' c' L, e = .returned (.tuple #[vv a' n' c' 0 0 0, .int .i64 0]) ∧ AccT w' W.heap.size a' n' c' L ∧ L.Perm ([T] ++ dropF vt []) ∧ Below W.heap.size W w') := Lib.hid fun W k be aA cA hA hE => apply_any av nv cv vt 0 0 0 aA 1 cA [T] none 0 0 [] be 0 1 W (HVT.out W k) hA (Zs.nil W) hE HFIT.out (by omega)
          unfold tval at HTB
          unfold vv at HAP
          refine wp_region_two [12, 13, 14] 12 3 (by kernel_rfl) rfl (fun W' => ∃ V : BW w7, W' = V.w) (fun _ => True) ?_
          have HBX : Hid (Below w7.heap.size w7 w7.drew) := Lib.hid (Below.refl _ _).drew
          generalize w7.drew = wX at *

          refine anyT_pull3 [0, 1, 2, 3, 4, 5] 11 6 3 (by intro c a d v w h; cases d <;> exact h) (by kernel_rfl) ⟨⟨_, HBX.out⟩, rfl⟩ ?_
          simp only [opsAt, List.filterMap_cons, List.filterMap_nil, List.getElem?_cons_zero, List.getElem?_cons_succ]
          iterate 6
            apply held_step
            · kernel_rfl
            · rintro _ ⟨V, rfl⟩
              have k0 := cell_later V.b v0
              have k1 := cell_later V.b v1
              have k2 := cell_later V.b v2
              have k3 := cell_later V.b v3
              have k4 := cell_later V.b hc7
              go_simp
              rfl
          refine held_nil ?_
          apply anyT_one 6
          · rfl
          · kernel_rfl
          · kernel_rfl
          intro K' hK
          go_simp
          refine (HTB.out wX HBX.out).mono ?_
          clear HTB
          rintro e wC ⟨rfl, hb8⟩
          have HBC := Lib.hid (HBX.out.trans (hb8.mono HBX.out.size))
          refine hK _ _ ⟨⟨_, HBC.out⟩, rfl⟩ ?_
          clear hK hb8
          apply anyT_one 7
          · rfl
          · kernel_rfl
          · kernel_rfl
          intro K' hK
          go_simp
          have HBD := Lib.hid (HBC.out.trans ((below_alloc1 wC (.cells #[.int .i64 T.file, .int .i64 T.level, .string (bstr T.first), .string (bstr T.last), .int .i64 T.size] 39)).mono HBC.out.size))
          have HTA := Lib.hid (ts_one (tab_box wC T))
          generalize wC.alloc (.cells #[.int .i64 T.file, .int .i64 T.level, .string (bstr T.first), .string (bstr T.last), .int .i64 T.size] 39) = wD at *
          generalize wC.heap.size = gD at *
          refine hK _ _ ⟨⟨_, HBD.out⟩, rfl⟩ ?_
          clear hK
          refine anyT_pull3 [8] 11 3 3 (by intro c a d v w h; cases d <;> exact h) (by kernel_rfl) ⟨⟨_, HBD.out⟩, rfl⟩ ?_
          simp only [opsAt, List.filterMap_cons, List.filterMap_nil, List.getElem?_cons_zero, List.getElem?_cons_succ]
          apply held_step
          · kernel_rfl
          · rintro _ ⟨V, rfl⟩
            go_simp
            rfl
          refine held_nil ?_
          apply anyT_one 9
          · rfl
          · kernel_rfl
          · kernel_rfl
          intro K' hK
          go_simp
          have HBE := Lib.hid (HBD.out.trans ((below_alloc1 wD (.cells #[.slice (some ⟨gD, 0, none⟩) 1 1, .slice none 0 0, .int .u64 0, .int .i64 0, .int .i64 0] 43)).mono HBD.out.size))
          have HEA := Lib.hid (ed_at (w := wD) (aA := some ⟨gD, 0, none⟩) (nA := 1) (cA := 1) (aD := none) (nD := 0) (cD := 0))
          have HTA2 := Lib.hid (HTA.out.below (below_alloc1 wD (.cells #[.slice (some ⟨gD, 0, none⟩) 1 1, .slice none 0 0, .int .u64 0, .int .i64 0, .int .i64 0] 43)))
          generalize wD.alloc (.cells #[.slice (some ⟨gD, 0, none⟩) 1 1, .slice none 0 0, .int .u64 0, .int .i64 0, .int .i64 0] 43) = wE at *
          generalize wD.heap.size = gE at *
          refine hK _ _ ⟨⟨_, HBE.out⟩, rfl⟩ ?_
          clear hK
          apply anyT_one 10
          · rfl
          · kernel_rfl
          · kernel_rfl
          intro K' hK
          go_simp
          refine (HAP.out wE HBE.out gE (some ⟨gD, 0, none⟩) 1 HTA2.out HEA.out).mono ?_
          clear HAP HTA HTA2 HEA
          rintro e wG ⟨a5, n5, c5, L5, rfl, h5, hp5, hb5⟩
          have HBG := Lib.hid (HBE.out.trans (hb5.mono HBE.out.size))
          have HAG := Lib.hid h5.ts
          have HP5 := Lib.hid (HPUT.out L5 hp5)
          refine hK _ _ ⟨⟨_, HBG.out⟩, rfl⟩ ?_
          clear hK hb5 h5 hp5
          refine anyT_pull3 [11] 11 0 3 (by intro c a d v w h; cases d <;> exact h) (by kernel_rfl) ⟨⟨_, HBG.out⟩, rfl⟩ ?_
          simp only [opsAt, List.filterMap_cons, List.filterMap_nil, List.getElem?_cons_zero, List.getElem?_cons_succ]
          apply held_step
          · kernel_rfl
          · rintro _ ⟨V, rfl⟩
            go_simp
            rfl
          refine held_nil ?_
          refine anyT_done3 (by kernel_rfl) ?_
          refine anyT_pull0 [12, 13] 1 (by intro c a d v w h; cases d <;> exact h) (by kernel_rfl) trivial ?_
          simp only [opsAt, List.filterMap_cons, List.filterMap_nil, List.getElem?_cons_zero, List.getElem?_cons_succ]
          iterate 2
            apply held_step
            · kernel_rfl
            · intro W _
              go_simp
              rfl
          refine held_nil ?_
          have HSTG := Lib.hid (HST7.out.later HBG.out)
          have HSTN := Lib.hid (HSTG.out.vput HAG.out)
          clear v0 v1 v2 v3 vf
          obtain ⟨v0, v1, v2, v3, vf⟩ := HSTG.out.vb.cells
          obtain ⟨wN, hwN⟩ : ∃ wN, vset wG g9 a5 n5 c5 0 0 0 = wN := ⟨_, rfl⟩
          rw [hwN] at HSTN
          unfold vset at hwN
          apply anyT_one 14
          · rfl
          · kernel_rfl
          · kernel_rfl
          intro K' hK
          go_simp
          try rw [hwN]
          refine hK _ _ trivial ?_
          clear hK
          refine anyT_done (by kernel_rfl) ?_
          simp only [opsAt, List.filterMap_cons, List.filterMap_nil, List.getElem?_cons_zero, List.getElem?_cons_succ]
          go_upto_region 10 with fail
          clear hwN v0 v1 v2 v3 vf
          have HLS2 : Hid (lens (setF F (i : Int) r) L5 = tot + ni) := Lib.hid (by rw [HP5.out.2, HLS.out, hrn])
          have HP6 := Lib.hid HP5.out.1
          go_wp2
          go_roundw
          case rel => exact ⟨i + 1, tot + ni, nm + 1, a5, n5, c5, _, L5, by omega, by go_num, by go_num, by omega, by omega, HSTN, HP6, HLS2⟩
          case measure => simp [intOf]; omega
    · obtain rfl : i = n := by omega
      have t1 : decide ((i : Int) < (i : Int)) = false := decide_eq_false (by omega)
      have t2 : decide (i < i) = false := decide_eq_false (by omega)
      obtain ⟨u0, hu0⟩ : ∃ u0 : Nat, IntKind.u64.wrap ((keep : Int) + (more : Int)) = (u0 : Int) := ⟨(keep + more) % 18446744073709551616, by rw [IntKind.wrap_u64]; omega⟩
      go_upto_if 106 with fail
      go_cut [13] (fun v wx => ∃ u : Nat, v = .int .u64 u ∧ keep ≤ u ∧ wx = wr)
      case first =>
        by_cases hov : u0 < keep
        · have s1 : decide (u0 < keep) = true := decide_eq_true hov
          go_wp2
          go_meet
          exact ⟨keep, rfl, Nat.le_refl _, rfl⟩
        · have s1 : decide (u0 < keep) = false := decide_eq_false hov
          go_wp2
          go_meet
          exact ⟨u0, rfl, by omega, rfl⟩
      case rest =>
      obtain ⟨u, rfl, hku, hwx⟩ := hcut
      obtain rfl := hwx.symm
      clear hwx hu0 t1 t2
      have HKU := Lib.hid hku
      clear hku
      obtain ⟨D6, hD6⟩ := HST.out.fm
      obtain ⟨v0, v1, v2, v3, vf⟩ := HST.out.vb.cells
      have hln : nv ≤ 150 := by have h1 := HST.out.ts.1; have h2 := HP.out.count; have h3 := HLS.out; omega
      have HSEEN := Lib.hid (lseen_any av nv cv vt 0 0 0 gm nm D6 F u wr HST.out.ts hD6 (by omega) (fun t ht => by have := HP.out.lt t ht; omega) (allR_rights HP.out.right) (by rw [sumL_lens, HLS.out]; omega))
      unfold vv at HSEEN
      clear hD6
      go_wp2_with fail
      refine HSEEN.out.mono ?_
      clear HSEEN
      rintro e w6 ⟨aS, nS, cS, bS, rfl, hS, hb6, hbt⟩
      have HST6 := Lib.hid (HST.out.later hb6)
      have HES := Lib.hid hS
      clear v0 v1 v2 v3 vf hb6 hS HST
      cases bS with
      | false =>
        clear hbt
        go_wp2
        go_ret
        exact ⟨rfl, HST6.out.below⟩
      | true =>
      have HPL := Lib.hid (HP.out.play hn (by rw [HLS.out]; exact htot) (hbt rfl))
      have HPO := Lib.hid HPL.out.pot
      clear hbt HP HLS
      obtain ⟨S, hS⟩ : ∃ S, Ent.seen (Ent.mergeL (vt.map fun t => F t.file)) u = S := ⟨_, rfl⟩
      rw [hS] at HES
      have HS := Lib.hid hS
      clear hS
      go_wp2_with fail
      go_loopw [16, 17] (fun nx iv wr => ∃ (j next nm : Nat) (av : Option Addr) (nv cv : Nat) (F : Int → List Ent) (vt : List Tab), j ≤ 2000 ∧ nx = .int .i64 next ∧ iv = .int .i64 j ∧ next ≤ 12 + 150 * j ∧ nm ≤ next ∧ Hid (Ca.St w w.heap.size g9 gm z b (tn : Int) wr av nv cv nm F vt) ∧ Hid (Play F next vt) ∧ Hid (j + Ca.pot F vt ≤ 900) ∧ Hid (Ent.seen (Ent.mergeL (vt.map fun t => F t.file)) u = S) ∧ Hid (Es wr aS nS cS S)) (fun _ iv _ => 2000 - (intOf iv).toNat)
      case atStart => exact ⟨0, i, nm, av, nv, cv, F, vt, Nat.zero_le _, rfl, rfl, by omega, hnm, HST6, HPL, Lib.hid (by rw [Nat.zero_add]; exact HPO.out), HS, HES⟩
      case round =>
        clear HST6 HPL HPO HS HES
        obtain ⟨j, next, nmx, ax, nx, cx, G, vx, hj, rfl, rfl, hnx, hnmx, HST, HP, HPO, HS, HES⟩ := hrel
        have hj9 : j ≤ 900 := Nat.le_trans (Nat.le_add_right _ _) HPO.out
        have t1 : decide ((j : Int) < 2000) = true := decide_eq_true (by omega)
        obtain ⟨v0, v1, v2, v3, vf⟩ := HST.out.vb.cells
        obtain ⟨s0, s1, s2⟩ := HST.out.sb
        have hln : nx ≤ 150 := by have h1 := HST.out.ts.1; have h2 := HP.out.len; omega
        have HPK := Lib.hid (pick_any ax nx cx vx 0 0 0 z b (tn : Int) wr HST.out.ts (by omega) HOK.out HP.out.size)
        unfold vv shv at HPK
        go_wp2_with fail
        refine HPK.out.mono ?_
        clear HPK
        rintro e w7 (⟨lv, ai, ni, ci, bt, rfl, hb7⟩ | ⟨k, l, ai, ni, ci, bt, hsel, rfl, hz7, hb7⟩)
        · have HB8 := Lib.hid (hb7.trans ((below_alloc1 w7 (.cells #[.int .i64 lv, .slice ai ni ci, .bool bt] 48)).mono hb7.size))
          clear hb7 v0 v1 v2 v3 vf s0 s1 s2
          have hst8 := HST.out.later HB8.out
          have hes8 := HES.out.below HB8.out
          go_upto_region 28 with fail
          generalize w7.alloc (.cells #[.int .i64 lv, .slice ai ni ci, .bool bt] 48) = w8 at *
          have HST8 := Lib.hid hst8
          have HES8 := Lib.hid hes8
          clear hst8 hes8
          obtain ⟨D8, hD8⟩ := HST8.out.fm
          obtain ⟨v0, v1, v2, v3, vf⟩ := HST8.out.vb.cells
          have hse := lseen_any ax nx cx vx 0 0 0 gm nmx D8 G u w8 HST8.out.ts hD8 (by omega) (HP.out.file (by omega)) HP.out.allR (Nat.le_trans HP.out.sum (by omega))
          rw [HS.out] at hse
          have HSEEN := Lib.hid hse
          unfold vv at HSEEN
          clear hD8 hse
          go_wp2_with fail
          refine HSEEN.out.mono ?_
          clear HSEEN
          rintro e w9 ⟨aT, nT, cT, bT, rfl, hT, hb9, _⟩
          have HB9 := Lib.hid (HST8.out.below.trans (hb9.mono HST8.out.below.size))
          have HT9 := Lib.hid hT
          have HS9 := Lib.hid (HES8.out.below hb9)
          clear hT hb9 v0 v1 v2 v3 vf
          go_wp2_with fail
          refine (srows_same _ _ _ _ _ _ _ _ HS9.out HT9.out).mono ?_
          rintro e wA ⟨rfl, hbA⟩
          have HBA := Lib.hid (HB9.out.trans (hbA.mono HB9.out.size))
          clear hbA
          go_wp2
          go_ret
          exact ⟨rfl, HBA.out⟩
        · have hb8 := hb7.trans ((below_alloc1 w7 (.cells #[.int .i64 (k : Int), .slice ai ni ci, .bool bt] 48)).mono hb7.size)
          have hst8 := HST.out.later hb8
          have hes8 := HES.out.below hb8
          have hj8 := JBox.new w7 (k : Int) ai ni ci bt
          have hz8 := hz7.zs.below (below_alloc1 w7 (.cells #[.int .i64 (k : Int), .slice ai ni ci, .bool bt] 48))
          clear hb7 hb8 hz7 v0 v1 v2 v3 vf s0 s1 s2
          go_upto_region 28 with fail
          generalize w7.alloc (.cells #[.int .i64 (k : Int), .slice ai ni ci, .bool bt] 48) = w8 at *
          generalize w7.heap.size = gj at *
          have HST8 := Lib.hid hst8
          have HES8 := Lib.hid hes8
          have HJ8 := Lib.hid hj8
          have HZ8 := Lib.hid hz8
          obtain ⟨D8, hD8⟩ := HST8.out.fm
          have HD8 := Lib.hid hD8
          have HSEL := Lib.hid hsel
          have hk5 : k ≤ 5 := hsel.k5
          clear hst8 hes8 hj8 hz8 hD8 hsel HST HES
          have hnext : next ≤ 200000 := by omega
          have HFS : Hid (∀ f ∈ (Tab.all k l vx).map Tab.file, 0 ≤ f ∧ f ≤ 1099511627776) := Lib.hid (HP.out.files HSEL.out (by omega))
          have HFR : Hid (∀ q, q < (Tab.all k l vx).length → nth ((Tab.all k l vx).map fun t => G t.file) q = G (nth ((Tab.all k l vx).map Tab.file) q)) := Lib.hid fun q hq => by rw [nth_eq _ (by rw [List.length_map]; exact hq), nth_eq _ (by rw [List.length_map]; exact hq), List.getElem_map, List.getElem_map]
          have HNI : Hid ((Tab.all k l vx).length = ni) := Lib.hid (by have := HZ8.out.1; rw [List.length_map] at this; exact this)
          have hni : ni ≤ 150 := by rw [← HNI.out]; exact HP.out.allsLen HSEL.out
          have HRUN : Hid (∀ W al cl, Ess W al ni cl ((Tab.all k l vx).map fun t => G t.file) → Calls Try.prog 13 #[.int .u64 keep, .bool bt, .int .i64 (tn : Int), .slice al ni cl] W (RetPs (Cp.cut tn (Ent.prune (Ent.mergeL ((Tab.all k l vx).map fun t => G t.file)) keep bt) [] 0) 0 W)) := Lib.hid fun W al cl h => run_any al ni cl _ keep bt tn W h htn.1 (by omega) (HP.out.allsR HSEL.out) (by omega) (HP.out.allsWt HSEL.out) (Nat.le_trans (HP.out.allsSum HSEL.out) (by omega))
          have HPRT := Lib.hid (HP.out.parts HSEL.out (keep := keep) (size := tn) (bottom := bt) rfl)
          have HFIT := Lib.hid (HP.out.fits HSEL.out (keep := keep) (size := tn) (bottom := bt) rfl (by have := HPRT.out.1; omega))
          have HJOB := Lib.hid (fun (L : List Tab) hp => HP.out.job HSEL.out (keep := keep) (size := tn) (bottom := bt) HKU.out rfl (vt' := L) hp)
          generalize Cp.cut tn (Ent.prune (Ent.mergeL ((Tab.all k l vx).map fun t => G t.file)) keep bt) [] 0 = ps at *
          have HRL : Hid (((Tab.all k l vx).map fun t => G t.file).length = ni) := Lib.hid (by rw [List.length_map]; exact HNI.out)
          have HFL : Hid (((Tab.all k l vx).map Tab.file).length = ni) := Lib.hid (by rw [List.length_map]; exact HNI.out)
          have HFR2 := Lib.hid (fun q (hq : q < ni) => HFR.out q (by rw [HNI.out]; exact hq))
          clear HSEL HFR HNI
          generalize ((Tab.all k l vx).map fun t => G t.file) = rows at *
          generalize (Tab.all k l vx).map Tab.file = fs at *
          obtain ⟨wo, hwo⟩ : ∃ wo, wo = wr := ⟨_, rfl⟩
          clear hwo
          go_wp2_with fail
          go_loopw [22, 23] (fun lv iv wr => ∃ (q : Nat) (al : Option Addr) (cl : Nat), q ≤ ni ∧ lv = .slice al q cl ∧ iv = .int .i64 q ∧ Hid (AccR w8 wr w8.heap.size al q cl (rows.take q)) ∧ Hid (Below w8.heap.size w8 wr)) (fun _ iv _ => ni - (intOf iv).toNat)
          case atStart => exact ⟨0, none, 0, Nat.zero_le _, rfl, rfl, Lib.hid (AccR.nil _ _ _), Lib.hid (Below.refl _ _)⟩
          case round =>
            obtain ⟨q, al, cl, hq, rfl, rfl, HA, HB⟩ := hrel
            by_cases hlt : q < ni
            · have t2 : decide ((q : Int) < (ni : Int)) = true := decide_eq_true (by omega)
              have t3 : decide (q < ni) = true := decide_eq_true hlt
              obtain ⟨j0, j1, j2, jf⟩ := (HJ8.out.below HB.out HJ8.out.lt).cells
              obtain ⟨bz, oz, rfl, c0⟩ := (HZ8.out.below HB.out).get hlt
              have hfr := HFS.out (nth fs q) (by rw [nth_eq _ (by rw [HFL.out]; exact hlt)]; exact List.getElem_mem _)
              have HNX : Hid (rows.take (q + 1) = rows.take q ++ [G (nth fs q)]) := Lib.hid (by rw [← HFR2.out q hlt]; exact take_snoc rows (by rw [HRL.out]; exact hlt))
              obtain ⟨af, nf, cf, d1, d2⟩ := HD8.out.at_ _ hfr.1 hfr.2
              have HD1 := Lib.hid d1
              have HD2 := Lib.hid d2
              clear d1 d2
              have HFM := Lib.hid (HD8.out.below HB.out)
              generalize nth fs q = f at *
              go_wp2_with (first | (refine look_fd rfl _ _ rfl rfl HFM.out hfr.1 hfr.2 rfl HD1.out ?_) | (at_builtin; refine app_row rfl _ _ rfl w8 w8.heap.size rfl (HA.out.below (below_alloc1 _ _)) rfl (by rw [cell_of_row _ _ _ _ _ _ (heap_alloc_new _ _)]; rfl) HD2.out (by omega) (le_alloc HB.out.size) ?_; intro a9 c9 w9 h9 hb9 _; have H9 := Lib.hid h9; have HB9 := Lib.hid ((HB.out.alloc HB.out.size _).trans hb9); clear h9 hb9))
              go_roundw
              case rel => exact ⟨q + 1, a9, c9, by omega, by go_num, by go_num, Lib.hid (by rw [HNX.out]; exact H9.out), HB9⟩
              case measure => simp [intOf]; omega
            · obtain rfl : q = ni := by omega
              have t2 : decide ((q : Int) < (q : Int)) = false := decide_eq_false (by omega)
              have t3 : decide (q < q) = false := decide_eq_false (by omega)
              have HESS : Hid (Ess wr al q cl rows) := Lib.hid (by have := HA.out.ess (Kept.below HB.out); rwa [List.take_of_length_le (by rw [HRL.out]; exact Nat.le_refl _)] at this)
              have hst9 := HST8.out.later HB.out
              have hz9 := HZ8.out.below HB.out
              have hj9' := HJ8.out.below HB.out HJ8.out.lt
              have hes9 := HES8.out.below HB.out
              obtain ⟨j0, j1, j2, jf⟩ := hj9'.cells
              obtain ⟨s0, s1, s2⟩ := hst9.sb
              have HRN := Lib.hid (HRUN.out wr al cl HESS.out)
              clear HRUN HA HB HESS HST8 HZ8 HES8 HD8 HFR2 HFS HRL HJ8
              have HST9 := Lib.hid hst9
              have HZ9 := Lib.hid hz9
              have HJ9 := Lib.hid hj9'
              have HES9 := Lib.hid hes9
              clear hst9 hz9 hj9' hes9
              go_wp2_with fail
              refine HRN.out.mono ?_
              clear HRN
              rintro e w9 ⟨aO, nO, cO, rfl, hO, hb9⟩
              have HSTA := Lib.hid (HST9.out.later hb9)
              have HZA := Lib.hid (HZ9.out.below hb9)
              have HJA := Lib.hid (HJ9.out.below hb9 HJ9.out.lt)
              have HESA := Lib.hid (HES9.out.below hb9)
              have HOA := Lib.hid hO
              have hnO : nO ≤ 150 := by rw [← hO.1]; exact HPRT.out.1
              have HPN : Hid (ps.length = nO) := Lib.hid hO.1
              clear hb9 hO HST9 HZ9 HJ9 HES9 j0 j1 j2 jf s0 s1 s2 t2 t3
              obtain ⟨j0, j1, j2, jf⟩ := HJA.out.cells
              have HXB := Lib.hid (EBox.new w9 none 0 0 ai q ci)
              have HLO0 := Lib.hid ((Ca.Lo.start HSTA.out).low (below_alloc1 w9 (.cells #[.slice none 0 0, .slice ai q ci, .int .u64 0, .int .i64 0, .int .i64 0] 43)) (Nat.le_refl _))
              have HSZ : Hid ((w9.alloc (.cells #[.slice none 0 0, .slice ai q ci, .int .u64 0, .int .i64 0, .int .i64 0] 43)).heap.size = w9.heap.size + 1) := Lib.hid (World.size_alloc _ _)
              go_upto_region 40 with fail
              generalize w9.alloc (.cells #[.slice none 0 0, .slice ai q ci, .int .u64 0, .int .i64 0, .int .i64 0] 43) = wx at *
              obtain ⟨gx, hgx⟩ : ∃ gx, w9.heap.size = gx := ⟨_, rfl⟩
              have HGX := Lib.hid hgx
              rw [hgx] at HXB HSZ ⊢
              clear hgx j0 j1 j2 jf
              have HA0 : Hid (AccT wx (gx + 1) none 0 0 (news next k (ps.take 0))) := Lib.hid (by rw [List.take_zero, news_nil]; exact AccT.nil _ _)
              have HLO1 : Hid (Ca.Lo w w9 g9 gm wx ax nx cx nmx (putF G next (ps.take 0))) := Lib.hid (by rw [List.take_zero, putF_nil HP.out.zero]; exact HLO0.out)
              clear HLO0
              obtain ⟨wo2, hwo2⟩ : ∃ wo2, wo2 = wr := ⟨_, rfl⟩
              clear hwo2
              go_wp2_with fail
              go_loopw [16, 27] (fun nv iv wr => ∃ (p m nmp : Nat) (aA : Option Addr) (cA : Nat), p ≤ nO ∧ nv = .int .i64 m ∧ iv = .int .i64 p ∧ m ≤ 200000 + p ∧ nmp ≤ m ∧ Hid (m = next + p) ∧ Hid (Ca.Lo w w9 g9 gm wr ax nx cx nmp (putF G next (ps.take p))) ∧ Hid (EBox wr gx aA p cA ai q ci) ∧ Hid (AccT wr (gx + 1) aA p cA (news next k (ps.take p)))) (fun _ iv _ => nO - (intOf iv).toNat)
              case atStart => exact ⟨0, next, nmx, none, 0, Nat.zero_le _, rfl, rfl, by omega, hnmx, Lib.hid rfl, HLO1, HXB, HA0⟩
              case round =>
                clear HLO1 HXB HA0
                obtain ⟨p, m, nmp, aA, cA, hp, rfl, rfl, hm2, hnmp, HMP, HLO, HXB, HA⟩ := hrel
                by_cases hlt : p < nO
                · have t2 : decide ((p : Int) < (nO : Int)) = true := decide_eq_true (by omega)
                  have t3 : decide (p < nO) = true := decide_eq_true hlt
                  have hpl : p < ps.length := by rw [HPN.out]; exact hlt
                  obtain ⟨bo, oo, ap, np, cp, rfl, hc, hes⟩ := HOA.out.get hlt
                  have HCO := Lib.hid hc
                  have hpw := HPRT.out.2 (nth ps p) (by rw [nth_eq _ hpl]; exact List.getElem_mem _)
                  rw [hes.1] at hpw
                  have HES2 := Lib.hid hes
                  have c0 := HLO.out.kept _ _ _ hc
                  have hm0 : (m : Int) ≤ 1099511627776 := by omega
                  have HSF : Hid (setF (putF G next (ps.take p)) (m : Int) (nth ps p) = putF G next (ps.take (p + 1))) := Lib.hid (by rw [HMP.out]; exact putF_snoc G next hpl)
                  have HNW : Hid (news next k (ps.take (p + 1)) = news next k (ps.take p) ++ [tabOf (m : Int) ((k : Int) + 1) (nth ps p)]) := Lib.hid (by rw [HMP.out]; exact news_snoc next k hpl)
                  clear hc hes
                  go_upto_region 44 with (refine store_lo rfl _ _ _ rfl HLO.out rfl (by simp only [maxLen]; omega) (Int.natCast_nonneg m) hm0 HES2.out rfl rfl ?_; intro wS hlo hgr; have HLS := Lib.hid hlo; have HGR := Lib.hid hgr; clear hlo hgr)
                  have HGM := Lib.hid HLO.out.gm
                  have HXS := Lib.hid (HXB.out.grown (Nat.ne_of_lt (by have := HGM.out; rw [HGX.out] at this; exact this)) HGR.out)
                  have HAS := Lib.hid (acct_grown HA.out (Nat.lt_succ_of_lt (by have := HGM.out; rw [HGX.out] at this; exact this)) HGR.out)
                  have HGS : Hid (gx + 1 ≤ wS.heap.size) := Lib.hid HXS.out.lt
                  rw [HSF.out] at HLS
                  clear c0 HLO HXB HA HGR HGM HSF
                  have c0 := HLS.out.kept _ _ _ HCO.out
                  have hbo := World.block_lt_of_cell? _ _ HCO.out
                  rw [HGX.out] at hbo
                  have hgj := HJA.out.lt
                  rw [HGX.out] at hgj
                  obtain ⟨x0, x1, x2, x3, x4, xf⟩ := HXS.out.cells
                  have j0 := HLS.out.kept _ _ _ HJA.out.cells.1
                  have HEP : Hid (∀ W, Below (gx + 1) wS W → Es W ap np cp (nth ps p)) := Lib.hid fun W kk => HES2.out.kept (HLS.out.kept.then kk (by rw [HGX.out]; exact Nat.le_succ _))
                  have HTB : Hid (∀ W, Below (gx + 1) wS W → Calls Try.prog 9 #[.int .i64 (m : Int), .int .i64 (IntKind.i64.wrap ((k : Int) + 1)), .slice ap np cp] W fun e w' => e = .returned (tval (tabOf m ((k : Int) + 1) (nth ps p))) ∧ Below W.heap.size W w') := Lib.hid fun W kk => by rw [IntKind.wrap_i64, show (((k : Int) + 1 + 9223372036854775808) % 18446744073709551616 - 9223372036854775808) = (k : Int) + 1 by omega]; exact table_any (m : Int) ((k : Int) + 1) ap np cp (nth ps p) W (HEP.out W kk) hpw.1 (Nat.le_trans hpw.2.1 (by omega)) hpw.2.2
                  obtain ⟨T, hT⟩ : ∃ T, tabOf (m : Int) ((k : Int) + 1) (nth ps p) = T := ⟨_, rfl⟩
                  rw [hT] at HTB HNW
                  clear hT hpw HES2 t2 t3 HEP
                  unfold tval at HTB
                  refine wp_region_steps [13, 14] 13 13 (by kernel_rfl) (by kernel_rfl) rfl (fun W' => Below (gx + 1) wS W') ?_
                  have HBX : Hid (Below (gx + 1) wS wS.drew) := Lib.hid (Below.refl _ _).drew
                  have HAX := Lib.hid (HAS.out.below (Below.refl wS.heap.size wS).drew)
                  generalize wS.drew = wX at *
                  refine anyT_pull [0, 1, 2, 3, 4, 5, 6, 7, 8, 9] 13 3 (by intro c a d v w h; cases d <;> exact h) (by kernel_rfl) HBX.out ?_
                  simp only [opsAt, List.filterMap_cons, List.filterMap_nil, List.getElem?_cons_zero, List.getElem?_cons_succ]
                  iterate 10
                    apply held_step
                    · kernel_rfl
                    · intro W V
                      have k0 := cell_lo x0 V (Nat.lt_succ_self gx)
                      have k1 := cell_lo c0 V (Nat.lt_succ_of_lt hbo)
                      have k2 := cell_lo j0 V (Nat.lt_succ_of_lt hgj)
                      go_simp
                      rfl
                  refine held_nil ?_
                  apply anyT_one 10
                  · rfl
                  · kernel_rfl
                  · kernel_rfl
                  intro K' hK
                  go_simp
                  refine (HTB.out wX HBX.out).mono ?_
                  clear HTB
                  rintro e wC ⟨rfl, hb8⟩
                  have HBC := Lib.hid (HBX.out.trans (hb8.mono (Nat.le_trans HGS.out HBX.out.size)))
                  have HAC := Lib.hid (HAX.out.below hb8)
                  refine hK _ _ HBC.out ?_
                  clear hK hb8
                  apply anyT_one 11
                  · rfl
                  · kernel_rfl
                  · kernel_rfl
                  intro K' hK
                  go_simp
                  have HBD := Lib.hid (HBC.out.trans ((below_alloc1 wC (.cells #[.int .i64 T.file, .int .i64 T.level, .string (bstr T.first), .string (bstr T.last), .int .i64 T.size] 39)).mono (Nat.le_trans HGS.out HBC.out.size)))
                  have HAD := Lib.hid (HAC.out.below (below_alloc1 wC (.cells #[.int .i64 T.file, .int .i64 T.level, .string (bstr T.first), .string (bstr T.last), .int .i64 T.size] 39)))
                  have HTD := Lib.hid (ts_one (tab_box wC T))
                  generalize wC.alloc (.cells #[.int .i64 T.file, .int .i64 T.level, .string (bstr T.first), .string (bstr T.last), .int .i64 T.size] 39) = wD at *
                  generalize wC.heap.size = gD at *
                  refine hK _ _ HBD.out ?_
                  clear hK
                  apply anyT_one 12
                  · rfl
                  · kernel_rfl
                  · kernel_rfl
                  intro K' hK
                  refine step_app_t _ _ rfl (gx + 1) rfl HAD.out rfl HTD.out (by omega) (Nat.le_trans HGS.out HBD.out.size) ?_
                  intro a7 c7 wE h7 hb7
                  rw [← HNW.out] at h7
                  have HBE := Lib.hid (HBD.out.trans hb7)
                  have HAE := Lib.hid h7
                  refine hK _ _ HBE.out ?_
                  clear hK h7 hb7
                  refine anyT_done (by kernel_rfl) ?_
                  simp only [opsAt, List.filterMap_cons, List.filterMap_nil, List.getElem?_cons_zero, List.getElem?_cons_succ]
                  have HXE := Lib.hid (HXS.out.low HBE.out (Nat.lt_succ_self gx))
                  have HLE := Lib.hid (HLS.out.low HBE.out (by rw [HGX.out]; exact Nat.le_succ _))
                  clear x0 x1 x2 x3 x4 xf c0 j0
                  obtain ⟨x0, x1, x2, x3, x4, xf⟩ := HXE.out.cells
                  have HXF := Lib.hid (HXE.out.set a7 (p + 1) c7)
                  have HAF := Lib.hid (HAE.out.setLow (j := 0) (Nat.lt_succ_self gx) (.slice a7 (p + 1) c7))
                  have HLF := Lib.hid (HLE.out.low (Below.setCell (Below.refl gx wE) (p := ⟨gx, 0, none⟩) (Nat.le_refl _) (.slice a7 (p + 1) c7)) (Nat.le_of_eq HGX.out))
                  go_upto_region 45 with fail
                  generalize wE.setCell ⟨gx, 0, none⟩ (.slice a7 (p + 1) c7) = wF at *
                  clear x0 x1 x2 x3 x4 xf
                  go_wp2_with fail
                  go_roundw
                  case rel => exact ⟨p + 1, m + 1, nmp + 1, a7, c7, by omega, by go_num, by go_num, by omega, by omega, Lib.hid (by rw [HMP.out]; omega), HLF, HXF, HAF⟩
                  case measure => simp [intOf]; omega
                · obtain rfl : p = nO := by omega
                  have t2 : decide ((p : Int) < (p : Int)) = false := decide_eq_false (by omega)
                  have t3 : decide (p < p) = false := decide_eq_false (by omega)
                  have etk : ps.take p = ps := List.take_of_length_le (by rw [HPN.out]; exact Nat.le_refl _)
                  rw [etk] at HLO HA
                  clear etk
                  obtain ⟨v0, v1, v2, v3, vf⟩ := HLO.out.vb.cells
                  obtain ⟨x0, x1, x2, x3, x4, xf⟩ := HXB.out.cells
                  have hbE := below_alloc1 wr (.cells #[.slice aA p cA, .slice ai q ci, .int .u64 0, .int .i64 0, .int .i64 0] 43)
                  have HBE := Lib.hid hbE
                  have HAPP := Lib.hid (apply_any ax nx cx vx 0 0 0 aA p cA (news next k ps) ai q ci fs wr.heap.size 0 1 (wr.alloc (.cells #[.slice aA p cA, .slice ai q ci, .int .u64 0, .int .i64 0, .int .i64 0] 43)) ((HSTA.out.ts.kept HLO.out.kept).below hbE) (HA.out.ts.below hbE) ((HZA.out.kept HLO.out.kept).below hbE) ed_at HFIT.out (by omega))
                  unfold vv at HAPP
                  clear hbE HFIT
                  go_wp2_with fail
                  refine HAPP.out.mono ?_
                  clear HAPP
                  rintro e w12 ⟨a5, n5, c5, L5, rfl, h5, hp5, hb5⟩
                  have HBF := Lib.hid (HBE.out.trans (hb5.mono HBE.out.size))
                  have hbW := below_alloc1 w12 (.cells #[.slice a5 n5 c5, .int .u64 0, .int .i64 0, .int .i64 0] 31)
                  have hvW := VBox.new w12 a5 n5 c5 0 0 0
                  have htW := h5.ts.below hbW
                  have hbG := HBF.out.trans (hbW.mono HBF.out.size)
                  have HJB := Lib.hid (HJOB.out L5 hp5)
                  have HSTL := Lib.hid (HLO.out.st HSTA.out.sb HSTA.out.ts HSTA.out.ne)
                  have hstG := HSTL.out.later hbG
                  have hesG := (HESA.out.kept HLO.out.kept).below hbG
                  clear v0 v1 v2 v3 vf x0 x1 x2 x3 x4 xf h5 hp5 hb5 hbW HJOB t2 t3
                  go_upto_region 47 with fail
                  generalize w12.alloc (.cells #[.slice a5 n5 c5, .int .u64 0, .int .i64 0, .int .i64 0] 31) = w13 at *
                  generalize w12.heap.size = gw at *
                  have HVW := Lib.hid hvW
                  have HTW := Lib.hid htW
                  have HSTG := Lib.hid hstG
                  have HESG := Lib.hid hesG
                  clear hvW htW hbG hstG hesG HSTL HBF HBE
                  obtain ⟨y0, y1, y2, y3, yf⟩ := HVW.out.cells
                  obtain ⟨v0, v1, v2, v3, vf⟩ := HSTG.out.vb.cells
                  have HSTN := Lib.hid (HSTG.out.vput HTW.out)
                  have HESN := Lib.hid (HESG.out.vput (a2 := a5) (n2 := n5) (c2 := c5) HSTG.out.vb)
                  obtain ⟨wN, hwN⟩ : ∃ wN, vset w13 g9 a5 n5 c5 0 0 0 = wN := ⟨_, rfl⟩
                  rw [hwN] at HSTN HESN
                  unfold vset at hwN
                  go_upto_region 50 with fail
                  try rw [hwN]
                  clear hwN v0 v1 v2 v3 vf y0 y1 y2 y3 yf HVW HTW HSTG HESG
                  have HPN2 : Hid (Play (putF G next ps) m L5) := Lib.hid (by have h1 := HJB.out.1; rw [HPN.out, ← HMP.out] at h1; exact h1)
                  have HPT : Hid (j + 1 + Ca.pot (putF G next ps) L5 ≤ 900) := Lib.hid (by have h1 := HJB.out.2.1; have h2 := HPO.out; omega)
                  have HSN : Hid (Ent.seen (Ent.mergeL (L5.map fun t => putF G next ps t.file)) u = S) := Lib.hid (HJB.out.2.2.trans HS.out)
                  have hn5 : n5 ≤ 150 := by have h1 := HSTN.out.ts.1; have h2 := HPN2.out.len; omega
                  have hmb : m ≤ 12 + 150 * (j + 1) := by have := HMP.out; omega
                  clear HJB HPO HS HLO HXB HA HMP
                  generalize putF G next ps = G' at *
                  obtain ⟨D13, hD13⟩ := HSTN.out.fm
                  obtain ⟨v0, v1, v2, v3, vf⟩ := HSTN.out.vb.cells
                  have hse := lseen_any a5 n5 c5 L5 0 0 0 gm nmp D13 G' u wN HSTN.out.ts hD13 (by omega) (HPN2.out.file (by omega)) HPN2.out.allR (Nat.le_trans HPN2.out.sum (by omega))
                  rw [HSN.out] at hse
                  have HSEEN := Lib.hid hse
                  unfold vv at HSEEN
                  clear hD13 hse
                  go_wp2_with fail
                  refine HSEEN.out.mono ?_
                  clear HSEEN
                  rintro e w14 ⟨aT, nT, cT, bT, rfl, hT, hb14, _⟩
                  have HT14 := Lib.hid hT
                  have HST14 := Lib.hid (HSTN.out.later hb14)
                  have HES14 := Lib.hid (HESN.out.below hb14)
                  clear hT hb14 v0 v1 v2 v3 vf HSTN HESN
                  go_wp2_with fail
                  refine (srows_same _ _ _ _ _ _ _ _ HES14.out HT14.out).mono ?_
                  rintro e w15 ⟨rfl, hb15⟩
                  have HST15 := Lib.hid (HST14.out.later hb15)
                  have HES15 := Lib.hid (HES14.out.below hb15)
                  clear hb15 HST14 HES14 HT14
                  go_wp2_with fail
                  go_roundw
                  case rel => exact ⟨j + 1, m, nmp, a5, n5, c5, G', L5, by omega, by go_num, by go_num, hmb, hnmp, HST15, HPN2, HPT, HSN, HES15⟩
                  case measure => simp [intOf]; omega
end Go.Proofs.Ytlipgaefflecaaa
