/- The walk of MergeMaps. -/
import Derived.Test.YtmmlgcfhcdpolaaMgPc
import Derived.Carry
import Derived.Deep.DeepCutAuto
namespace Go.Proofs.Ytmmlgcfhcdpolaa
open Go.RowKit
set_option linter.unusedVariables false

theorem BM.mono {w0 w : World} {b n n' : Nat} {D : DataW Value} {f : Ent.Bst} (h : BM w0 w b n D f) (hn : n ≤ n') : BM w0 w b n' D f := ⟨h.own.mono hn, h.no, h.yes⟩
theorem sumL_next {ls : List (List Ent)} {k : Nat} (h : k < ls.length) : Ent.sumL (ls.take (k + 1)) = Ent.sumL (ls.take k) + (nth ls k).length := by
  unfold Ent.sumL; rw [take_snoc ls h]; simp
theorem flat_next {ls : List (List Ent)} {k : Nat} (h : k < ls.length) : (ls.take (k + 1)).flatten = (ls.take k).flatten ++ nth ls k := by
  rw [take_snoc ls h]; simp
theorem bstep_next (up : Nat) (p l : List Ent) {t : Nat} (h : t < l.length) : Ent.bmap up (p ++ l.take (t + 1)) = Ent.bstep up (Ent.bmap up (p ++ l.take t)) (nth l t) := by
  rw [take_snoc l h, ← List.append_assoc, Ent.bmap_snoc]
theorem key_tot {l : List Ent} {e : Ent} (h : e ∈ l) : e.key.length ≤ Ent.tot l := by
  induction l with
  | nil => cases h
  | cons a l ih =>
    have : Ent.tot (a :: l) = a.key.length + a.val.length + Ent.tot l := by simp [Ent.tot]
    rcases List.mem_cons.1 h with h1 | h1
    · rw [h1]; omega
    · have := ih h1; omega
theorem seenE_right {ls : List (List Ent)} (h : ∀ l ∈ ls, Ent.Right l) (up : Nat) : Ent.seenE (Ent.mergeL ls) up = Ent.seen (Ent.mergeL ls) up ∧ Ent.erE (Ent.mergeL ls) = 0 := by
  have := Ent.rightB_iff.2 (Ent.merge_right h)
  unfold Ent.seenE Ent.erE
  rw [if_pos this, if_pos this]
  exact ⟨rfl, rfl⟩
theorem mergeX_no {ls : List (List Ent)} (h : Ent.allR ls = false) : Ent.mergeX ls = 15 := by unfold Ent.mergeX; rw [h]; rfl
set_option maxRecDepth 8000 in
set_option maxHeartbeats 8000000 in
theorem mergeMaps_walk (a : Option Addr) (n c : Nat) (ls : List (List Ent)) (up : Nat) (w : World) (h : Ess w a n c ls) (hf : Ent.totL ls + n ≤ 1000000000) :
    Calls Try.prog 8 #[.slice a n c, .int .u64 up] w fun e w' => e = .returned (.bool true) ∧ Below w.heap.size w w' := by
  have hle := h.le.1
  have HN := Lib.hid h.1
  have HE := Lib.hid h
  have HF := Lib.hid hf
  clear h hf
  have hmm := @run_makeMap Try.prog
  go_enter Try.func8, Try.ntmps8
  go_wp2_with fail
  refine (known_any _).mono ?_
  rintro e w1 ⟨rfl, hb1⟩
  have HB1 := Lib.hid hb1
  clear hb1
  go_wp2_with fail
  refine (few6_any a n c ls _ (HE.out.below HB1.out) HF.out).mono ?_
  rintro e w2 ⟨rfl, q, rfl⟩
  have HB2 := Lib.hid (below_drewN HB1.out q)
  cases hfw : Ent.few6 ls with
  | false =>
    clear hfw
    go_wp2
    go_ret
    exact ⟨rfl, HB2.out⟩
  | true =>
    have HFW := Lib.hid (few6_yes hfw)
    have HKA : Hid (∀ e ∈ ls.flatten, e.key.length ≤ maxLen) := Lib.hid fun e he => by
      obtain ⟨l, hl, hm⟩ := List.mem_flatten.1 he
      have h1 := totL_mem hl
      have h2 := key_tot hm
      have h3 := HF.out
      simp only [maxLen]
      omega
    have hn30 : n ≤ 30 := by have := (few6_yes hfw).1; rw [HN.out] at this; exact this
    clear hfw
    go_wp2_with fail
    refine (merge_any a n c ls _ (HE.out.below HB2.out) (by omega) (fun l hl => (HFW.out.2.1 l hl).2) (by have := HFW.out.2.2; omega)).mono ?_
    rintro e w3 ⟨a3, n3, c3, rfl, ha3, hb3⟩
    have HA3 := Lib.hid ha3.es
    have HB3 := Lib.hid (HB2.out.trans (hb3.mono HB2.out.size))
    clear ha3 hb3
    cases hR : Ent.allR ls with
    | false =>
      have hx := mergeX_no hR
      clear hR
      rw [hx]
      clear hx
      go_wp2
      go_ret
      exact ⟨rfl, HB3.out⟩
    | true =>
      have hx := (allR_yes hR).2
      have HA3' : Hid (Es w3 a3 n3 c3 (Ent.mergeL ls)) := Lib.hid (by rw [← (allR_yes hR).1]; exact HA3.out)
      have HRI : Hid (∀ l ∈ ls, Ent.Right l) := Lib.hid fun l hl => Ent.rightB_iff.1 (allR_mem hR l hl)
      clear hR HA3
      rw [hx]
      clear hx
      go_wp2_with fail
      have hlen := merge_len ls
      have hs := HFW.out.2.2
      have HV : Hid (∀ e ∈ Ent.mergeL ls, e.val.length ≤ 1000000000) := Lib.hid fun e he => by
        obtain ⟨l, hl, hm⟩ := Ent.InL_mem ((Ent.mem_merge (fun l hl => (HRI.out l hl).2) e).1 he)
        exact (HFW.out.2.1 l hl).2 e hm
      have hn3 : n3 ≤ 3000 := by have := HA3'.out.1; omega
      refine (seen_e a3 n3 c3 _ up _ HA3'.out (by omega) HV.out).mono ?_
      rw [(seenE_right HRI.out up).1, (seenE_right HRI.out up).2]
      rintro e w4 ⟨a4, n4, c4, rfl, ha4, hb4⟩
      have HB4 := Lib.hid (HB3.out.trans (hb4.mono HB3.out.size))
      have HA4 := Lib.hid ha4.es
      have hn4 : n4 ≤ 3000 := by
        have h1 := ha4.len
        have h2 : (Ent.seen (Ent.mergeL ls) up).length ≤ (Ent.mergeL ls).length := List.length_filter_le _ _
        omega
      clear ha4 hb4 hlen hs HA3'
      go_wp2_with fail
      go_loopw [9] (fun i wr => ∃ (k : Nat) (D : DataW Value), k ≤ n ∧ i = .int .i64 k ∧ Hid (BM w4 wr w4.heap.size (Ent.sumL (ls.take k)) D (Ent.bmap up (ls.take k).flatten)) ∧ Hid (Below w4.heap.size w4 wr)) (fun i _ => n - (intOf i).toNat)
      case atStart => exact ⟨0, .map [], Nat.zero_le _, rfl, Lib.hid (BM.made w4 w4), Lib.hid (below_alloc1 _ _)⟩
      case round =>
        clear hmm
        obtain ⟨wo, rfl⟩ : ∃ wo, wo = wr := ⟨_, rfl⟩
        obtain ⟨k, D, hk, rfl, hbm, hbo⟩ := hrel
        by_cases hlt : k < n
        · have hkl : k < ls.length := by rw [HN.out]; exact hlt
          obtain ⟨b, off, ai, ni, ci, rfl, hc, hes⟩ := (HE.out.below HB4.out).get hlt
          have HES := Lib.hid hes
          have hni : (nth ls k).length = ni := hes.1
          have hln := hes.le.1
          have HNX := Lib.hid (sumL_next hkl)
          have HFX := Lib.hid (flat_next hkl)
          have hsm := sumL_take ls (k + 1)
          have hs3 := HFW.out.2.2
          have hs1 := sumL_next hkl
          have HC := Lib.hid hc
          have HNI := Lib.hid hni
          have hbd : Ent.sumL (ls.take k) + ni ≤ 3000 := by omega
          have HKL : Hid (∀ e ∈ nth ls k, e.key.length ≤ maxLen) := Lib.hid fun e he => HKA.out e (List.mem_flatten.2 ⟨_, nth_mem hkl, he⟩)
          clear hc hes hsm hs3 hs1 hni
          generalize Ent.sumL (ls.take k) = s at *
          go_wp2_with fail
          go_loopw [10] (fun j wi => ∃ (t : Nat) (D : DataW Value), t ≤ ni ∧ j = .int .i64 t ∧ Hid (BM w4 wi w4.heap.size (s + t) D (Ent.bmap up ((ls.take k).flatten ++ (nth ls k).take t))) ∧ Hid (Below w4.heap.size w4 wi)) (fun j _ => ni - (intOf j).toNat)
          case atStart => exact ⟨0, D, Nat.zero_le _, rfl, Lib.hid (by simpa using hbm.out), hbo⟩
          case round =>
            clear hbm hbo
            obtain ⟨t, D, ht, rfl, hbm, hbi⟩ := hrel
            have c0 := cell_later hbi.out HC.out
            by_cases hlt2 : t < ni
            · obtain ⟨be, oe, ae, ce, rfl, hent, hbs⟩ := HES.out.2.2.2 t hlt2
              have hent2 := hent.below hbi.out
              have p1 := hent2.key
              have p2 := hent2.seq
              have p3 := hent2.gone
              have p4 := hent2.val
              have htl : t < (nth ls k).length := by rw [HNI.out]; exact hlt2
              have HST := Lib.hid (bstep_next up (ls.take k).flatten (nth ls k) htl)
              have hkx := HKL.out (nth (nth ls k) t) (by rw [nth_eq _ htl]; exact List.getElem_mem _)
              have HBS := Lib.hid hbs
              clear hent hent2 hbs htl
              generalize nth (nth ls k) t = x at *
              have HBM : Hid (BM w4 wr w4.heap.size (s + t) D (Ent.bmap up ((ls.take k).flatten ++ (nth ls k).take t))) := hbm
              clear hbm
              generalize hff : Ent.bmap up ((ls.take k).flatten ++ (nth ls k).take t) = f at *
              clear hff
              have hroom : s + t < maxLen := by simp only [maxLen]; omega
              have two : ∀ o1 o2, Below wr.heap.size wr ((wr.alloc o1).alloc o2) := fun o1 o2 => (below_alloc1 wr o1).alloc (below_alloc1 wr o1).size o2
              have TWO := Lib.hid two
              have hwz : w4.heap.size ≤ wr.heap.size := hbi.out.size
              clear two
              cases hf : f x.key with
              | none =>
                by_cases hsq : x.seq ≤ up
                · have HF1 : Hid (Ent.bstep up f x = Ent.putB f x) := Lib.hid (by unfold Ent.bstep Ent.take; rw [hf, decide_eq_true hsq]; rfl)
                  go_wp2_with (first | (at_lookup; refine look_no rfl _ _ rfl rfl (HBM.out.below (below_alloc1 _ _)) hkx rfl hf ?_) | (at_mapUpdate; refine store_in rfl _ _ _ rfl rfl (HBM.out.below (TWO.out _ _)) hroom hkx HBS.out rfl rfl ?_; intro D2 w2 hbm2 hgr2))
                  go_roundw
                  case rel => exact ⟨t + 1, D2, by omega, by go_num, Lib.hid (by rw [HST.out, HF1.out, ← Nat.add_assoc]; exact hbm2), Lib.hid ((hbi.out.trans ((TWO.out _ _).mono hwz)).grown hgr2 (Nat.le_trans hwz (TWO.out _ _).size) (fun k h => by cases h; exact Nat.le_refl _))⟩
                  case measure => simp [intOf]; omega
                · have HF1 : Hid (Ent.bstep up f x = f) := Lib.hid (by unfold Ent.bstep Ent.take; rw [decide_eq_false hsq]; rfl)
                  have t1 : decide (x.seq ≤ up) = false := decide_eq_false hsq
                  go_wp2_with (at_lookup; refine look_no rfl _ _ rfl rfl (HBM.out.below (below_alloc1 _ _)) hkx rfl hf ?_)
                  go_roundw
                  case rel => exact ⟨t + 1, D, by omega, by go_num, Lib.hid (by rw [HST.out, HF1.out]; exact (HBM.out.below (TWO.out _ _)).mono (by omega)), Lib.hid (hbi.out.trans ((TWO.out _ _).mono hwz))⟩
                  case measure => simp [intOf]; omega
              | some b2 =>
                obtain ⟨a2, c2, hat, _⟩ := HBM.out.yes _ hkx _ hf
                by_cases hsq : x.seq ≤ up
                · by_cases hsb : b2.seq < x.seq
                  · have HF1 : Hid (Ent.bstep up f x = Ent.putB f x) := Lib.hid (by unfold Ent.bstep Ent.take; rw [hf, decide_eq_true hsq]; simp [hsb])
                    have t1 : decide (x.seq ≤ up) = true := decide_eq_true hsq
                    have t2 : decide (b2.seq < x.seq) = true := decide_eq_true hsb
                    go_wp2_with (first | (at_lookup; refine look_yes rfl _ _ rfl rfl (HBM.out.below (below_alloc1 _ _)).own hkx rfl hat ?_) | (at_mapUpdate; refine store_in rfl _ _ _ rfl rfl (HBM.out.below (TWO.out _ _)) hroom hkx HBS.out rfl rfl ?_; intro D2 w2 hbm2 hgr2))
                    go_roundw
                    case rel => exact ⟨t + 1, D2, by omega, by go_num, Lib.hid (by rw [HST.out, HF1.out, ← Nat.add_assoc]; exact hbm2), Lib.hid ((hbi.out.trans ((TWO.out _ _).mono hwz)).grown hgr2 (Nat.le_trans hwz (TWO.out _ _).size) (fun k h => by cases h; exact Nat.le_refl _))⟩
                    case measure => simp [intOf]; omega
                  · have HF1 : Hid (Ent.bstep up f x = f) := Lib.hid (by unfold Ent.bstep Ent.take; rw [hf, decide_eq_true hsq]; simp [hsb])
                    have t1 : decide (x.seq ≤ up) = true := decide_eq_true hsq
                    have t2 : decide (b2.seq < x.seq) = false := decide_eq_false hsb
                    go_wp2_with (at_lookup; refine look_yes rfl _ _ rfl rfl (HBM.out.below (below_alloc1 _ _)).own hkx rfl hat ?_)
                    go_roundw
                    case rel => exact ⟨t + 1, D, by omega, by go_num, Lib.hid (by rw [HST.out, HF1.out]; exact (HBM.out.below (TWO.out _ _)).mono (by omega)), Lib.hid (hbi.out.trans ((TWO.out _ _).mono hwz))⟩
                    case measure => simp [intOf]; omega
                · have HF1 : Hid (Ent.bstep up f x = f) := Lib.hid (by unfold Ent.bstep Ent.take; rw [decide_eq_false hsq]; rfl)
                  have t1 : decide (x.seq ≤ up) = false := decide_eq_false hsq
                  go_wp2_with (at_lookup; refine look_yes rfl _ _ rfl rfl (HBM.out.below (below_alloc1 _ _)).own hkx rfl hat ?_)
                  go_roundw
                  case rel => exact ⟨t + 1, D, by omega, by go_num, Lib.hid (by rw [HST.out, HF1.out]; exact (HBM.out.below (TWO.out _ _)).mono (by omega)), Lib.hid (hbi.out.trans ((TWO.out _ _).mono hwz))⟩
                  case measure => simp [intOf]; omega
            · obtain rfl : ni = t := by omega
              have hall : (nth ls k).take ni = nth ls k := by rw [← HNI.out, List.take_length]
              have HB2 : Hid (BM w4 wr w4.heap.size (s + ni) D (Ent.bmap up (ls.take (k + 1)).flatten)) := Lib.hid (by rw [HFX.out, ← hall]; rw [hall]; rw [hall] at hbm; exact hbm.out)
              clear hall
              go_wp2
              go_roundw
              case rel => exact ⟨k + 1, D, by omega, by go_num, Lib.hid (by rw [HNX.out, HNI.out]; exact HB2.out), hbi⟩
              case measure => simp [intOf]; omega
        · obtain rfl : n = k := by omega
          have hall : ls.take n = ls := by rw [← HN.out, List.take_length]
          have hN3 := HFW.out.2.2
          have HBM : Hid (BM w4 wo w4.heap.size 3000 D (Ent.bmap up ls.flatten)) := Lib.hid (by rw [hall] at hbm; exact hbm.out.mono hN3)
          clear hbm hall hN3
          go_wp2_with (at_range; refine range_in rfl _ rfl rfl HBM.out ?_; intro left cnt w5 hcn hrg hgr)
          go_frame
          have hwo : w4.heap.size ≤ wo.heap.size := hbo.out.size
          have HB5 : Hid (Below w4.heap.size w4 w5) := Lib.hid (hbo.out.grown hgr hwo (fun k h => by cases h))
          obtain ⟨r, hr⟩ : ∃ r, r = wo.heap.size := ⟨_, rfl⟩
          rw [← hr] at hrg hwo ⊢
          clear hr hgr hbo
          go_loopw [14] (fun ct wr => ∃ (left : Lit → Bool) (cnt : Nat) (met : List (List UInt8)), ct = .int .i64 (met.length : Nat) ∧ met.length + cnt ≤ 3000 ∧ Hid (Rg w4 wr w4.heap.size r 3000 D (Ent.bmap up ls.flatten) left cnt met) ∧ Hid (Below w4.heap.size w4 wr)) (fun _ wr => wr.rangeLeft w4.heap.size r)
          case atStart => exact ⟨left, cnt, [], rfl, (by simpa using hcn), Lib.hid hrg, HB5⟩
          case round =>
            clear hrg HB5 HBM
            obtain ⟨left, cnt, met, rfl, hcn, hrg, hb5⟩ := hrel
            have hsz : wr.heap.size = wr.heap.size := rfl
            have hml : wr.rangeLeft w4.heap.size r = cnt := hrg.out.rg.left_eq
            go_wp2_with (at_next; refine next_in rfl _ rfl rfl hrg.out ?_ ?_)
            · intro hall
              have HCT : Hid (met.length = (Ent.seen (Ent.mergeL ls) up).length) := Lib.hid (Ent.seen_count (fun l hl => (HRI.out l hl).2) up hrg.out.nd (fun k => ⟨fun hk => ((hall k).1 hk).2, fun ⟨e, he, hg⟩ => (hall k).2 ⟨by
                have h1 := (Ent.binv up ls.flatten).yes _ _ he
                rw [← h1.1]
                exact HKA.out e h1.2.2.2.mem, e, he, hg⟩⟩))
              have HBM : Hid (BM w4 _ w4.heap.size 3000 D (Ent.bmap up ls.flatten)) := Lib.hid hrg.out.bm
              clear hrg hall hml hsz
              obtain ⟨wq, hwq⟩ : ∃ wq, wq = wr := ⟨_, rfl⟩
              subst hwq
              have hct : met.length ≤ 3000 := by omega
              generalize met.length = ct at *
              go_wp2_with fail
              go_loopw [16] (fun i wr => ∃ k : Nat, k ≤ n4 ∧ i = .int .i64 k ∧ Hid (Below wq.heap.size wq wr)) (fun i _ => n4 - (intOf i).toNat)
              case atStart => exact ⟨0, Nat.zero_le _, rfl, Lib.hid (Below.refl _ _)⟩
              case round =>
                obtain ⟨k, hk, rfl, hbs⟩ := hrel
                have HBMs : Hid (BM w4 wr w4.heap.size 3000 D (Ent.bmap up ls.flatten)) := Lib.hid (HBM.out.below hbs.out)
                by_cases hlt : k < n4
                · obtain ⟨be, oe, ae, ce, rfl, hent, hv⟩ := HA4.out.2.2.2 k hlt
                  have hin : nth (Ent.seen (Ent.mergeL ls) up) k ∈ Ent.seen (Ent.mergeL ls) up := by rw [nth_eq _ (by rw [HA4.out.1]; exact hlt)]; exact List.getElem_mem _
                  obtain ⟨hbest, hgn⟩ := (Ent.seen_best (fun l hl => (HRI.out l hl).2) up _).1 hin
                  have hkl : (nth (Ent.seen (Ent.mergeL ls) up) k).key.length ≤ maxLen := HKA.out _ ((Ent.binv up ls.flatten).yes _ _ hbest).2.2.2.mem
                  obtain ⟨a2, c2, hat, hv2⟩ := HBMs.out.yes _ hkl _ hbest
                  have HBo : Hid (Below w4.heap.size w4 wr) := Lib.hid (hb5.out.trans (hbs.out.mono hb5.out.size))
                  have hent2 := hent.below HBo.out
                  have p1 := hent2.key
                  have p2 := hent2.seq
                  have p3 := hent2.gone
                  have p4 := hent2.val
                  have HV := Lib.hid (hv.below HBo.out)
                  have HV2 := Lib.hid (hv2.below HBo.out)
                  have hprev : ∀ j, k = j + 1 → ∃ y : Ent, wr.cell? ⟨be, oe + j * 4, none⟩ = some (.string (bstr y.key)) ∧ Op.bytesLess (bstr y.key).toList (bstr (nth (Ent.seen (Ent.mergeL ls) up) k).key).toList = true := fun j hj => by
                    obtain ⟨b', o', a', c', h1, h2, _⟩ := HA4.out.2.2.2 j (by omega)
                    cases h1
                    refine ⟨nth (Ent.seen (Ent.mergeL ls) up) j, (h2.below HBo.out).key, ?_⟩
                    rw [bstr_list, bstr_list]
                    have hlen := HA4.out.1
                    have := List.pairwise_iff_getElem.1 (Ent.seen_keys (Ent.merge_sorted (fun l hl => (HRI.out l hl).2)) up) j k (by omega) (by omega) (by omega)
                    rwa [← nth_eq _ (by omega), ← nth_eq _ (by omega)] at this
                  have HPV := Lib.hid hprev
                  clear hprev
                  clear hv hv2 hent hent2 hbest hin
                  generalize nth (Ent.seen (Ent.mergeL ls) up) k = x at *
                  have hbx := load_box wr x a2 c2
                  rw [hgn] at hbx p3
                  have hbw := below_alloc1 wr (.cells #[.string (bstr x.key), .int .u64 x.seq, .bool false, .slice a2 x.val.length c2] 25)
                  go_upto_region 32 with (at_lookup; refine look_yes rfl _ _ rfl rfl HBMs.out.own hkl rfl hat ?_)
                  obtain ⟨g, hg⟩ : ∃ g, g = wr.heap.size := ⟨_, rfl⟩
                  obtain ⟨W1, hW1⟩ : ∃ W1, wr.alloc (.cells #[.string (bstr x.key), .int .u64 x.seq, .bool false, .slice a2 x.val.length c2] 25) = W1 := ⟨_, rfl⟩
                  rw [hW1] at hbw hbx ⊢
                  rw [← hg] at hbx ⊢
                  have HBW := Lib.hid hbw
                  have b1 := hbx.key
                  have b2 := hbx.seq
                  have b3 := hbx.gone
                  have b4 := hbx.val
                  rw [hgn] at b3
                  replace p1 := cell_later hbw p1
                  replace p2 := cell_later hbw p2
                  replace p3 := cell_later hbw p3
                  replace p4 := cell_later hbw p4
                  have hsm : ∀ W : BW W1, Calls Try.prog 24 #[.agg #[.string (bstr x.key), .int .u64 x.seq, .bool false, .slice a2 x.val.length c2], .agg #[.string (bstr x.key), .int .u64 x.seq, .bool false, .slice ae x.val.length ce]] W.w fun e w' => e = .returned (.bool true) ∧ Below W.w.heap.size W.w w' := fun W => by
                    have := esame_any x x a2 ae c2 ce W.w ((HV2.out.below HBW.out).below W.b) ((HV.out.below HBW.out).below W.b)
                    unfold ev at this
                    rw [hgn] at this
                    simpa using this
                  have HSM := Lib.hid hsm
                  clear hW1 hg hgn hsm hbw hbx hat HBMs
                  go_cut [149] (fun v wx => v = .bool false ∧ Hid (Below W1.heap.size W1 wx))
                  case first =>
                    by_cases hk0 : k = 0
                    · subst hk0
                      simp only [Nat.zero_mul, Nat.add_zero] at p1 p2 p3 p4
                      refine wp_region_class (w0 := W1) (by kernel_rfl) (by kernel_rfl) (Below.refl _ _) ?_
                      replace p1 := BW.cell p1
                      replace p2 := BW.cell p2
                      replace p3 := BW.cell p3
                      replace p4 := BW.cell p4
                      replace b1 := BW.cell b1
                      replace b2 := BW.cell b2
                      replace b3 := BW.cell b3
                      replace b4 := BW.cell b4
                      repeat (first | go_big_quiet_step ((go_at_call 24; exact calls_class (HSM.out _))))
                      refine wpQuiet_nil ?_
                      intro w9 hb9; replace hb9 := BW.of hb9
                      clear p1 p2 p3 p4 b1 b2 b3 b4
                      go_wp2
                      go_meet
                      exact ⟨rfl, Lib.hid hb9⟩
                    · obtain ⟨j, rfl⟩ : ∃ j, k = j + 1 := ⟨k - 1, by omega⟩
                      obtain ⟨y, q1, t3⟩ := HPV.out j rfl
                      replace q1 := cell_later HBW.out q1
                      refine wp_region_class (w0 := W1) (by kernel_rfl) (by kernel_rfl) (Below.refl _ _) ?_
                      replace p1 := BW.cell p1
                      replace p2 := BW.cell p2
                      replace p3 := BW.cell p3
                      replace p4 := BW.cell p4
                      replace b1 := BW.cell b1
                      replace b2 := BW.cell b2
                      replace b3 := BW.cell b3
                      replace b4 := BW.cell b4
                      replace q1 := BW.cell q1
                      repeat (first | go_big_quiet_step ((go_at_call 24; exact calls_class (HSM.out _))))
                      trace_state
                      refine wpQuiet_nil ?_
                      intro w9 hb9; replace hb9 := BW.of hb9
                      clear p1 p2 p3 p4 b1 b2 b3 b4 q1
                      go_wp2
                      go_meet
                      exact ⟨rfl, Lib.hid hb9⟩
                  case rest =>
                    obtain ⟨rfl, hbc⟩ := hcut
                    clear p1 p2 p3 p4 b1 b2 b3 b4
                    go_wp2
                    go_roundw
                    case rel => exact ⟨k + 1, by omega, by go_num, Lib.hid (hbs.out.trans ((HBW.out.trans (hbc.out.mono HBW.out.size)).mono hbs.out.size))⟩
                    case measure => simp [intOf]; omega
                · obtain rfl : n4 = k := by omega
                  have hcn4 : ct = n4 := by rw [HCT.out]; exact HA4.out.1
                  subst hcn4
                  go_wp2
                  go_ret
                  exact ⟨rfl, HB4.out.trans ((hb5.out.trans (hbs.out.mono hb5.out.size)).mono HB4.out.size)⟩
            · intro k e ae ce left' w6 cnt' hkl hf hat hown hg1 hg2 hleft hlt hgr hen
              have hb6 : Below w4.heap.size w4 w6 := hb5.out.grown hgr hb5.out.size (fun k h => by cases h; exact hwo)
              cases hgn : e.gone with
              | true =>
                unfold entV at hat hen
                rw [hgn] at hat hen
                have HRG := Lib.hid (hg1 hgn)
                clear hg1 hg2
                go_wp2_with (first | (at_lookup; refine look_at rfl _ _ rfl rfl hown hkl rfl hat ?_) | (refine field_gone rfl _ rfl rfl ?_))
                go_roundw
                case rel => exact ⟨left', cnt', met, rfl, by omega, HRG, Lib.hid hb6⟩
                case measure => rw [hleft, hml]; exact hlt
              | false =>
                unfold entV at hat hen
                rw [hgn] at hat hen
                have HRG := Lib.hid (hg2 hgn)
                clear hg1 hg2
                go_wp2_with (first | (at_lookup; refine look_at rfl _ _ rfl rfl hown hkl rfl hat ?_) | (refine field_gone rfl _ rfl rfl ?_))
                go_roundw
                case rel => exact ⟨left', cnt', met ++ [k], by rw [List.length_append]; go_num, by rw [List.length_append, List.length_singleton]; omega, HRG, Lib.hid hb6⟩
                case measure => rw [hleft, hml]; exact hlt
end Go.Proofs.Ytmmlgcfhcdpolaa
