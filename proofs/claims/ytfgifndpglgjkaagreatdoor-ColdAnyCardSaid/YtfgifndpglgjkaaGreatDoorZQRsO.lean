/- rs: whole, walked. -/
import Derived.Test.YtfgifndpglgjkaaGreatDoorZQRsN
set_option linter.unusedVariables false
set_option linter.unusedSimpArgs false
set_option maxRecDepth 100000
set_option linter.unusedVariables false
namespace Go.Proofs.YtfgifndpglgjkaaGreatDoor
open Go.RowKit Go.Deep

theorem slicer_hm (a : Option Addr) (n c : Nat) {hi mx : Int} {hi' mx' : Nat} (hhi : hi = hi') (hmx : mx = mx') (h2 : hi' ≤ mx') (h3 : mx' ≤ c) (w : World) :
    (Instr.slice 53 (.slice a n c) none (some (.int .i64 hi)) (some (.int .i64 mx))).run Tryz.prog w = .ok (.slice a hi' mx') w := by
  obtain ⟨i, hi0, _, g1, _⟩ := info_parts infoSs
  subst hhi hmx
  simp [Instr.slice, run_underlying Tryz.underlying53, sizeOf, typeInfo, hi0, Instr.sliceBounds, run_sliceBound, h2, h3]
  intro _; cases a <;> simp [Addr.add_zero']
theorem lost_full {K M : Nat} {ls : List (List UInt8)} (hl : ls.length = K + M) (h : Rs.full (ls.take K) = true) : Rs.lostB K ls = false := by
  refine decide_eq_false (Nat.not_lt.2 ?_)
  have h1 : Rs.thr ls K = List.range K := by
    unfold Rs.thr
    rw [List.filter_eq_self]
    intro j hj
    have hj := List.mem_range.1 hj
    have := full_at h (k := j) (by rw [List.length_take]; omega)
    rw [nth_take ls hj (by omega)] at this
    simpa using (by omega : 0 < (nth ls j).length)
  have h2 : (Rs.thr ls K).length ≤ (Rs.thr ls ls.length).length := by
    unfold Rs.thr
    exact (List.Sublist.filter _ (List.range_sublist.2 (by omega))).length_le
  rw [h1, List.length_range] at h2
  exact h2
/-- It reads so whatever is written to the blocks of X. -/
structure Stb (X : Nat → Prop) (w : World) (a : Option Addr) (n c : Nat) (ls : List (List UInt8)) : Prop where
  len : ls.length = n
  nc : n ≤ c
  cm : c ≤ maxLen
  vals : ∃ (ai : Nat → Option Addr) (ci : Nat → Nat), ∀ W, Onl w W X → ∀ i, i < n → (∃ b off, a = some ⟨b, off, none⟩ ∧ W.cell? ⟨b, off + i, none⟩ = some (.slice (ai i) (nth ls i).length (ci i))) ∧ Bs W (ai i) (nth ls i).length (ci i) (nth ls i)
namespace Stb
variable {X : Nat → Prop} {w w2 : World} {a : Option Addr} {n c : Nat} {ls : List (List UInt8)}
theorem later (h : Stb X w a n c ls) (k : Onl w w2 X) : Stb X w2 a n c ls := by
  obtain ⟨ai, ci, hv⟩ := h.vals
  exact ⟨h.len, h.nc, h.cm, ai, ci, fun W hW => hv W (k.trans hW)⟩
theorem below (h : Stb X w a n c ls) (k : Below w.heap.size w w2) : Stb X w2 a n c ls := h.later (Onl.of_below k)
theorem at_ (h : Stb X w a n c ls) {W : World} (k : Onl w W X) : Bss W a n c ls := by
  obtain ⟨ai, ci, hv⟩ := h.vals
  refine ⟨h.len, h.nc, h.cm, fun i hi => ?_⟩
  obtain ⟨⟨b, off, h1, h2⟩, h3⟩ := hv W k i hi
  exact ⟨b, off, _, _, _, h1, h2, h3⟩
theorem bss (h : Stb X w a n c ls) : Bss w a n c ls := h.at_ (Onl.refl _ _)
theorem of_bss (h : Bss w a n c ls) : Stb (fun _ => False) w a n c ls := by
  obtain ⟨ai, ci, hv⟩ := h.vals
  refine ⟨h.1, h.2.1, h.2.2.1, ai, ci, fun W k i hi => ?_⟩
  have hb := k.below (Nat.le_refl _) (fun _ e => e.elim)
  obtain ⟨⟨b, off, h1, h2⟩, h3⟩ := hv i hi
  exact ⟨⟨b, off, h1, cell_later hb h2⟩, h3.below hb⟩
theorem takeK (h : Stb X w a n c ls) {k : Nat} (hk : k ≤ n) : Stb X w a k k (ls.take k) := by
  obtain ⟨ai, ci, hv⟩ := h.vals
  have hn := h.len
  refine ⟨by rw [List.length_take]; omega, Nat.le_refl _, Nat.le_trans (Nat.le_trans hk h.nc) h.cm, ai, ci, fun W hW i hi => ?_⟩
  rw [nth_take ls hi (by omega)]
  exact hv W hW i (by omega)
theorem nil (w : World) : Stb X w none 0 0 [] := ⟨rfl, Nat.le_refl _, by simp [maxLen], fun _ => none, fun _ => 0, fun W hW i hi => by omega⟩
end Stb
theorem My.stb {X : Nat → Prop} {w : World} {B g n C c : Nat} {bl cp : Nat → Nat} {Z : Nat → Nat → UInt8} (h : My w B g n C bl cp Z) (hX : ∀ b, X b → b < B) (hc : n ≤ c) (hm : c ≤ maxLen) : Stb X w (some ⟨g, 0, none⟩) n c (mat n C Z) := by
  refine ⟨mat_len _ _ _, hc, hm, fun i => some ⟨bl i, 0, none⟩, cp, fun W k i hi => ?_⟩
  have hW := h.onl k (fun e => by have := hX _ e; have := h.base; omega) (fun i hi e => by have := hX _ e; have := (h.row i hi).1; omega)
  have hlen : (nth (mat n C Z) i).length = C := by rw [mat_row hi]; simp
  rw [hlen]
  refine ⟨⟨g, 0, rfl, by rw [Nat.zero_add]; exact hW.top.cell hi⟩, ?_⟩
  obtain ⟨b, off, ai, ni, ci, h1, h2, h3⟩ := (hW.bss hc hm).get hi
  cases h1
  rw [Nat.zero_add, hW.top.cell hi] at h2
  cases h2
  exact h3
def WhP (X : Nat → Prop) (K M : Nat) (ls : List (List UInt8)) (w : World) (e : Ending) (w' : World) : Prop :=
  (if Rs.lostB K ls = true then e = .panicked [errE 16] else ∃ a c, e = .returned (.slice a K c) ∧ Stb X w' a K c (Rs.whole K M ls)) ∧ Below w.heap.size w w'
theorem Sm.later {w0 wr w2 : World} {aR aS : Option Addr} {cR cS n : Nat} {l : List Nat} {v : Nat → Value} (h : Sm w0 wr aR aS cR cS n l v) (k : Below wr.heap.size wr w2) : Sm w0 w2 aR aS cR cS n l v :=
  ⟨h.below.trans (k.mono h.below.size), own_below h.ints k, h.rows.below k, h.len⟩

theorem rows_push {ls : List (List UInt8)} {K k : Nat} (h : 0 < (nth ls k).length) (hn : ((Rs.thr ls k).take K).length < K) : (Rs.thr ls (k + 1)).take K = (Rs.thr ls k).take K ++ [k] := by
  rw [List.length_take] at hn
  rw [thr_yes h, List.take_of_length_le (by simp; omega), List.take_of_length_le (by omega)]
theorem rows_stay {ls : List (List UInt8)} {K k : Nat} (hn : ¬ ((Rs.thr ls k).take K).length < K) : (Rs.thr ls (k + 1)).take K = (Rs.thr ls k).take K := by
  rw [List.length_take] at hn
  by_cases h : 0 < (nth ls k).length
  · rw [thr_yes h, List.take_append_of_le_length (by omega)]
  · rw [thr_no (by omega)]
theorem rows_skip {ls : List (List UInt8)} {K k : Nat} (h : ¬ 0 < (nth ls k).length) : (Rs.thr ls (k + 1)).take K = (Rs.thr ls k).take K := by rw [thr_no (by omega)]
theorem part_rowS {K M : Nat} {l : List Nat} {i : Nat} (hi : i < K) (hb : l.getD i 0 < K + M) : nth (Rs.part K M l) i = nth (Gf.stack K M) (l.getD i 0) := by
  unfold Rs.part
  rw [mat_row hi, stack_row hb]
  apply List.map_congr_left
  intro j hj
  rw [stack_at hb (List.mem_range.1 hj)]
theorem Sm.keep {w0 W1 w6 : World} {aR aS a6 : Option Addr} {cR cS n : Nat} {l : List Nat} {v : Nat → Value} (h : Sm w0 W1 aR aS cR cS n l v) (hev : Evol W1 aR w6 a6) : OwnV w6 w0.heap.size aS n cS (l.map v) :=
  own_evol h.rows hev h.apart
/-- A pick more. -/
theorem Sm.push {w0 wr w6 w7 : World} {aR aS a6 a7 : Option Addr} {cR cS n c6 c7 k : Nat} {l : List Nat} {v : Nat → Value} (h : Sm w0 wr aR aS cR cS n l v)
    (h6 : OwnI w6 w0.heap.size a6 (n + 1) c6 (l ++ [k])) (hb6 : Below w0.heap.size (wr.alloc (.cells #[.int .i64 k] 3)) w6) (hr : OwnV (w6.alloc (.cells #[v k] 25)) w0.heap.size aS n cS (l.map v))
    (h7 : OwnV w7 w0.heap.size a7 (n + 1) c7 (l.map v ++ [v k])) (hb7 : Below w0.heap.size (w6.alloc (.cells #[v k] 25)) w7) (hev : Evol (w6.alloc (.cells #[v k] 25)) aS w7 a7) :
    Sm w0 w7 a6 a7 c6 c7 (n + 1) (l ++ [k]) v := by
  have hsz := h.below.size
  have h66 : Below w0.heap.size w0 w6 := (h.below.alloc hsz _).trans hb6
  refine ⟨(h66.alloc h66.size _).trans hb7, own_evol (own_below h6 (below_alloc w6 _)) hev (fun x y hx hy e => own_ne (own_below h6 (below_alloc w6 (.cells #[v k] 25))) hr (by decide) y x hy hx e.symm), by simpa using h7, by simp [h.len]⟩

theorem rows_facts' {K M : Nat} {l : List (List UInt8)} (hl : l.length = K + M) (h : Rs.lostB K l = false) :
    (Rs.rows K l).length = K ∧ (Rs.rows K l).Nodup ∧ ∀ j ∈ Rs.rows K l, j < K + M ∧ 0 < (nth l j).length := by
  have h1 : ¬ (Rs.thr l l.length).length < K := of_decide_eq_false h
  refine ⟨by unfold Rs.rows; rw [List.length_take]; omega, ?_, fun j hj => ?_⟩
  · unfold Rs.rows
    exact (thr_nodup _ _).sublist (List.take_sublist _ _)
  · have := thr_mem (List.mem_of_mem_take hj)
    rw [hl] at this
    exact this
theorem got_rowS {l : List (List UInt8)} {r : List Nat} {i : Nat} (hi : i < r.length) : nth (Rs.got l r) i = nth l (r.getD i 0) := by
  unfold Rs.got
  rw [nth_eq _ (by simpa using hi), List.getElem_map, List.getD_eq_getElem?_getD, List.getElem?_eq_getElem hi]
  rfl
set_option maxHeartbeats 16000000 in
theorem whole_any (X : Nat → Prop) (b K M : Nat) (aq : Option Addr) (cs m : Nat) (ls : List (List UInt8)) (w : World) (hX : ∀ b, X b → b < w.heap.size) (hc : Cod w b K M) (hst : Stb X w aq (K + M) cs ls) (h1 : 1 ≤ K) (h2 : K + M ≤ 255) (hsc : Rs.sc ls = some m) (h4 : m ≤ 100000000) :
    Calls Tryz.prog 86 #[.pointer (some ⟨b, 0, none⟩), .slice aq (K + M) cs] w (WhP X K M ls w) := by
  have hs := hst.bss
  have HST := Lib.hid hst
  have HX := Lib.hid hX
  clear hst hX
  have hl := hs.1
  have hcs := hs.2.1
  have HC : Hid (∀ W, Below w.heap.size w W → Cod W b K M) := Lib.hid fun W h => hc.below h
  have HS : Hid (∀ W, Below w.heap.size w W → Bss W aq (K + M) cs ls) := Lib.hid fun W h => hs.below h
  have HT : Hid (∀ W, Below w.heap.size w W → Bss W aq K cs (ls.take K)) := Lib.hid fun W h => (hs.below h).take (by omega)
  obtain ⟨ai, ci, hv⟩ := hs.vals
  have HV := Lib.hid hv
  have HL := Lib.hid hl
  have HSC := Lib.hid hsc
  have k1 := hc.k
  have hs1 := slicer_h aq (K + M) cs (hi := (K : Int)) (hi' := K) rfl (by omega)
  clear hc hs hv hl hsc
  go_enter Tryz.func86, Tryz.ntmps86
  go_wp2_with fail
  refine (missing_any _ _ _ _ w (HT.out _ (Below.refl _ _)) (by omega)).mono ?_
  rintro e w1 ⟨r, q, rfl, hr, hq⟩
  have HW1 : Hid (Below w.heap.size w w1) := Lib.hid (hq ▸ below_drewN (Below.refl _ _) q)
  have k1' := (HC.out w1 HW1.out).k
  clear k1 hs1 hq
  by_cases hf : Rs.full (ls.take K) = true
  · rw [hf] at hr
    have hlo := Lib.hid (lost_full HL.out hf)
    have hwh : Hid (Rs.whole K M ls = ls.take K) := Lib.hid (by unfold Rs.whole; rw [if_pos hf])
    have hs2 := slicer_hm aq (K + M) cs (hi := (K : Int)) (hi' := K) (mx := (K : Int)) (mx' := K) rfl rfl (Nat.le_refl _) (by omega)
    clear hf
    go_wp2_with fail
    refine wp_region_class (w0 := w1) (by kernel_rfl) (by kernel_rfl) (Below.refl _ _) ?_
    have l1 := BW.cell k1'
    repeat (first | go_big_quiet_step (fail))
    refine wpQuiet_nil ?_
    intro w2 hb2; replace hb2 := BW.of hb2
    clear l1
    have HB2 := Lib.hid (HW1.out.trans (hb2.mono HW1.out.size))
    clear hb2
    go_wp2
    go_ret
    refine ⟨?_, HB2.out⟩
    rw [hlo.out, hwh.out, if_neg (by simp)]
    exact ⟨_, _, rfl, (HST.out.below HB2.out).takeK (by omega)⟩
  · have hf : Rs.full (ls.take K) = false := by simpa using hf
    rw [hf] at hr
    have hwh : Hid (Rs.whole K M ls = Rs.mend K M ls) := Lib.hid (by unfold Rs.whole; rw [hf]; rfl)
    clear hf
    go_wp2_with fail
    clear hr
    refine (unit_any K _ h1 (by omega)).mono ?_
    rintro e w2 ⟨⟨gu, blu, rfl, hu⟩, hb2⟩
    have hbu := hu.bss (c := K) (Nat.le_refl _) (by simp only [maxLen]; omega) (by simp only [maxLen]; omega)
    have HB2 := Lib.hid (HW1.out.trans (hb2.mono HW1.out.size))
    obtain ⟨csU, u1, u2, u3, u4⟩ := bss_elems hbu
    obtain ⟨ap, np, cp, k3, hp⟩ := (HC.out w2 HB2.out).p
    obtain ⟨csC, v1, v2, v3, v4⟩ := bss_elems hp
    obtain rfl : np = M := by rw [← hp.1, mat_len]
    have HE := Lib.hid (u2.append v2)
    have HU := Lib.hid (And.intro u1 u3)
    have HP := Lib.hid (And.intro v1 (And.intro v3 v4))
    clear hu hb2 hbu u1 u2 u3 u4 v1 v2 v3 v4 hp k1'
    go_wp2_with (at_builtin; refine app_matf rfl _ _ rfl rfl HU.out.1 HU.out.2 rfl HP.out.1 HP.out.2.1 HP.out.2.2 (by omega) ?_; intro a3 c3 w3 h3 hc3 hb3)
    have HBM : Hid (Bss w3 a3 (K + np) c3 (Gf.stack K np)) := Lib.hid (row_bss h3 (HE.out.below hb3) (by rw [List.length_append, HU.out.2, HP.out.2.1]) hc3.1 hc3.2)
    have HB3 := Lib.hid (HB2.out.trans (hb3.mono HB2.out.size))
    clear h3 hb3 hc3 HE HU HP k3
    have k3 := (HC.out w3 HB3.out).k
    go_wp2_with fail
    clear k3
    go_loopw [7, 8, 50] (fun r s i wr => ∃ (k n : Nat) (aR aS : Option Addr) (cR cS : Nat), k ≤ K + np ∧ i = .int .i64 k ∧ r = .slice aR n cR ∧ s = .slice aS n cS ∧ Sm w3 wr aR aS cR cS n ((Rs.thr ls k).take K) (fun j => .slice (ai j) (nth ls j).length (ci j))) (fun _ _ i _ => K + np - (intOf i).toNat)
    case atStart => exact ⟨0, 0, none, none, 0, 0, Nat.zero_le _, rfl, rfl, rfl, by have := Sm.start w3 (fun j => .slice (ai j) (nth ls j).length (ci j)); simpa [Rs.thr] using this⟩
    case round =>
      obtain ⟨k, n, aR, aS, cR, cS, hk, rfl, rfl, rfl, hsm⟩ := hrel
      have hnl : n = ((Rs.thr ls k).take K).length := hsm.len.symm
      have hnK : n ≤ K := by rw [hnl, List.length_take]; omega
      by_cases hlt : k < K + np
      · obtain ⟨⟨b0, o0, e0, d0⟩, hb0⟩ := HV.out k hlt
        subst e0
        have hwr := HB3.out.trans (hsm.below.mono HB3.out.size)
        have d1 := cell_later hwr d0
        have k9 := (HC.out wr hwr).k
        have hLb := hb0.le.1
        have hpush := Lib.hid (fun h : 0 < (nth ls k).length => fun hn : n < K => rows_push (ls := ls) (K := K) (k := k) h (by rw [← hnl]; exact hn))
        have hstay := Lib.hid (fun hn : ¬ n < K => rows_stay (ls := ls) (K := K) (k := k) (by rw [← hnl]; exact hn))
        have hskip := Lib.hid (fun h : ¬ 0 < (nth ls k).length => rows_skip (ls := ls) (K := K) (k := k) h)
        have HSM := Lib.hid hsm
        have hsz := hsm.below.size
        clear d0 hb0 hsm hnl hwr
        generalize hLL : (nth ls k).length = L at *
        have HLL := Lib.hid hLL
        clear hLL
        by_cases hL0 : 0 < L
        · by_cases hn : n < K
          · have H1 := Lib.hid (HSM.out.later (below_alloc wr (.cells #[.int .i64 (k : Int)] 3)))
            have HX1 := Lib.hid (box_new wr (.int .i64 (k : Int)) 3)
            go_wp2_with (first | (at_builtin; refine app_int2 rfl _ _ rfl w3.heap.size rfl H1.out.ints rfl HX1.out (by omega) (le_alloc hsz) ?_; intro a6 c6 w6 h6 hb6 hev6; have HR6 := Lib.hid ((H1.out.keep hev6).below (below_alloc w6 (.cells #[.slice (ai k) L (ci k)] 25))); have H6 := Lib.hid h6; have HB6 := Lib.hid hb6; have hsz6 : w3.heap.size ≤ w6.heap.size := Nat.le_trans (le_alloc hsz) hb6.size; clear h6 hb6 hev6) | (at_builtin; refine app_row rfl _ _ rfl w3.heap.size rfl HR6.out rfl (box_new w6 _ _) rfl (by omega) (le_alloc hsz6) ?_; intro a7 c7 w7 h7 hb7 hev7))
            go_roundw
            case rel =>
              refine ⟨k + 1, n + 1, a6, a7, c6, c7, by omega, by go_num, rfl, rfl, ?_⟩
              rw [hpush.out hL0 hn]
              exact HSM.out.push H6.out HB6.out (by rw [HLL.out]; exact HR6.out) (by rw [HLL.out]; exact h7) (by rw [HLL.out]; exact hb7) (by rw [HLL.out]; exact hev7)
            case measure => simp [intOf]; omega
          · have hKn : n = K := by omega
            go_wp2
            go_roundw
            case rel => exact ⟨k + 1, n, aR, aS, cR, cS, by omega, by go_num, rfl, rfl, by rw [hstay.out hn]; exact HSM.out⟩
            case measure => simp [intOf]; omega
        · go_wp2
          go_roundw
          case rel => exact ⟨k + 1, n, aR, aS, cR, cS, by omega, by go_num, rfl, rfl, by rw [hskip.out hL0]; exact HSM.out⟩
          case measure => simp [intOf]; omega
      · obtain rfl : k = K + np := by omega
        have hrows : (Rs.thr ls (K + np)).take K = Rs.rows K ls := by unfold Rs.rows; rw [HL.out]
        rw [hrows] at hsm hnl
        have hwr := HB3.out.trans (hsm.below.mono HB3.out.size)
        have k9 := (HC.out wr hwr).k
        have HSM := Lib.hid hsm
        have HWR := Lib.hid hwr
        clear hsm hwr hk hlt hrows
        by_cases hn : n < K
        · have hlo : Hid (Rs.lostB K ls = true) := Lib.hid (decide_eq_true (by
            have : (Rs.rows K ls).length < K := by omega
            unfold Rs.rows at this
            rw [List.length_take] at this
            omega))
          go_wp2_with (go_at_call 84; refine (give_any _ _).mono ?_; rintro e w' ⟨rfl, rfl⟩)
          refine ⟨rfl, ?_, HWR.out⟩
          rw [if_pos hlo.out]
        · obtain rfl : n = K := by omega
          have hlo : Rs.lostB n ls = false := decide_eq_false (by
            have : (Rs.rows n ls).length = n := hnl.symm
            unfold Rs.rows at this
            rw [List.length_take] at this
            omega)
          obtain ⟨f1, f2, f3⟩ := rows_facts' HL.out hlo
          have hmk := run_make_row' (P := Tryz.prog) 97 25 (.slice none 0 0) 24 Tryz.underlying97 infoBs rfl .i64 .i64 n (by omega) (by omega)
          obtain ⟨am, cm, hvm⟩ := HBM.out.vals
          have HVM := Lib.hid hvm
          have HLO := Lib.hid hlo
          have F := Lib.hid (And.intro f1 (And.intro f2 f3))
          clear hvm hlo f1 f2 f3 hnl
          generalize hrr : Rs.rows n ls = l at *
          have HRR := Lib.hid hrr
          clear hrr
          have hmem : Hid (∀ i, i < n → l.getD i 0 ∈ l) := Lib.hid fun i hi => by
            rw [List.getD_eq_getElem?_getD, List.getElem?_eq_getElem (by rw [F.out.1]; exact hi)]
            exact List.getElem_mem _
          go_wp2_with fail
          clear hmk k9
          have HWZ := Lib.hid (box_new wr)
          have hHB := Lib.hid (World.rowIs_made wr (.slice none 0 0) n 25)
          go_loopw [91] (fun i wi => ∃ j : Nat, j ≤ n ∧ i = .int .i64 j ∧ Below wr.heap.size wr wi ∧ rowTo wi wr.heap.size 25 n (fun i => if i < j then .slice (am (l.getD i 0)) (nth (Gf.stack n np) (l.getD i 0)).length (cm (l.getD i 0)) else .slice none 0 0)) (fun i _ => n - (intOf i).toNat)
          case atStart => exact ⟨0, Nat.zero_le _, rfl, below_alloc wr _, (rowTo.of_is hHB.out).congr (fun i _ => by simp)⟩
          case round =>
            clear hHB HWZ
            obtain ⟨j, hj, rfl, hb, hr⟩ := hrel
            by_cases hlj : j < n
            · have hls := (HSM.out.ints.is (fun j hj => by have := (F.out.2.2 j hj).1; omega)).below hb
              obtain ⟨bi, oi, ei, di⟩ := hls.get hlj
              rw [ints_nth (by rw [F.out.1]; exact hlj)] at di
              have hrl := (F.out.2.2 _ (hmem.out j hlj)).1
              obtain ⟨⟨bm, om, em, dm⟩, _⟩ := HVM.out _ hrl
              have dm1 := cell_later (HSM.out.below.trans (hb.mono HSM.out.below.size)) dm
              have c3 := hr.cell hlj
              have c4 := hr.frozen j
              have HST := Lib.hid ((hr.set j (.slice (am (l.getD j 0)) (nth (Gf.stack n np) (l.getD j 0)).length (cm (l.getD j 0)))).congr (g := fun i => if i < j + 1 then .slice (am (l.getD i 0)) (nth (Gf.stack n np) (l.getD i 0)).length (cm (l.getD i 0)) else .slice none 0 0) (fun i _ => by
                by_cases e : i = j
                · subst e; simp
                · by_cases e2 : i < j
                  · simp [e, e2, show i < j + 1 by omega]
                  · simp [e, e2, show ¬ i < j + 1 by omega]))
              have HBS := Lib.hid (hb.setCell (Nat.le_refl _) (.slice (am (l.getD j 0)) (nth (Gf.stack n np) (l.getD j 0)).length (cm (l.getD j 0))) : Below _ _ (wr.setCell (⟨_, j, none⟩ : Addr) _))
              subst ei
              subst em
              clear hr hls dm hb
              generalize l.getD j 0 = rj at *
              go_wp2
              go_roundw
              case rel => exact ⟨j + 1, by omega, by go_num, HBS.out, HST.out⟩
              case measure => simp [intOf]; omega
            · obtain rfl : j = n := by omega
              have hin := HSM.out.below.trans (hb.mono HSM.out.below.size)
              have hpart : Bss wr (some ⟨_, 0, none⟩) j j (Rs.part j np l) := ⟨mat_len _ _ _, Nat.le_refl _, by simp only [maxLen]; omega, fun i hi => by
                have hrl := (F.out.2.2 _ (hmem.out i hi)).1
                obtain ⟨_, hbs⟩ := HVM.out _ hrl
                have hc := hr.cell hi
                rw [if_pos hi] at hc
                exact ⟨_, 0, _, _, _, rfl, by rw [Nat.zero_add]; exact hc, by rw [part_rowS hi hrl]; exact hbs.below hin⟩⟩
              have HPART := Lib.hid hpart
              have HBJ := Lib.hid hb
              obtain ⟨s, hs, hinv, hinvE⟩ := part_inv (K := j) (M := np) h1 h2 F.out.1 F.out.2.1 (fun x hx => (F.out.2.2 x hx).1)
              have HINV := Lib.hid hinv
              clear hpart hr hb hin hs hinvE hinv
              go_wp2_with fail
              refine (minv_any _ _ _ _ wr HPART.out).mono ?_
              rintro e w9 hres
              obtain ⟨⟨a9, n9, c9, rfl, h9⟩, hb9⟩ := hres.res
              rw [HINV.out] at h9
              obtain rfl : n9 = j := by have := h9.1; rw [mat_len] at this; omega
              have H9 := Lib.hid h9
              have hb39 := (HBJ.out.trans (hb9.mono HBJ.out.size))
              have HB9 := Lib.hid (HWR.out.trans (hb39.mono HWR.out.size))
              have hgot : Bss w9 aS n9 cS (Rs.got ls l) := by
                refine row_bss ((Row.of_own (HSM.out.rows : World.ownsRow _ _ _ _ _ _ _)).below hb39) ⟨by unfold Rs.got; simp, fun i hi => ?_⟩ (by rw [List.length_map]; exact F.out.1) (HSM.out.rows.len.2.1) (HSM.out.rows.len.2.2)
                have hi' : i < l.length := by unfold Rs.got at hi; simpa using hi
                have hri := (F.out.2.2 _ (hmem.out i (by rw [← F.out.1]; exact hi'))).1
                refine ⟨ai (l.getD i 0), (nth ls (l.getD i 0)).length, ci (l.getD i 0), by rw [List.getElem?_map, List.getD_eq_getElem?_getD, List.getElem?_eq_getElem hi']; rfl, ?_⟩
                rw [got_rowS hi']
                exact (HV.out _ hri).2.below HB9.out
              have HGOT := Lib.hid hgot
              have hlen : ∀ i, i < n9 → (nth (Rs.got ls l) i).length = m := fun i hi => by
                have hmi := F.out.2.2 _ (hmem.out i hi)
                rw [got_rowS (by rw [F.out.1]; exact hi)]
                have := sc_len HSC.out (i := l.getD i 0) (by rw [HL.out]; exact hmi.1)
                have := hmi.2
                omega
              have HLEN := Lib.hid hlen
              clear hres h9 hb9 hb39 hgot hlen
              go_wp2_with fail
              refine (times_any' _ _ _ _ _ _ _ _ m w9 H9.out HGOT.out (by omega) HLEN.out (fun i hi => by rw [mat_row hi]; simp) (by omega) (by omega) (by omega)).mono ?_
              rintro e w10 ⟨⟨g, bl, rfl, hmx⟩, hb10⟩
              have hmy := Lib.hid (hmx.my (by simp only [maxLen]; omega))
              have HB10 := Lib.hid (HB9.out.trans (hb10.mono HB9.out.size))
              have hsz9 := HB9.out.size
              clear hmx hb10
              go_wp2
              go_ret
              refine ⟨?_, HB10.out⟩
              rw [HLO.out, if_neg (by simp), hwh.out]
              refine ⟨_, _, rfl, ?_⟩
              unfold Rs.mend
              rw [HRR.out, HLEN.out 0 (by omega), HINV.out]
              exact hmy.out.stb (fun b hb => by have := HX.out b hb; omega) (Nat.le_refl _) (by simp only [maxLen]; omega)
end Go.Proofs.YtfgifndpglgjkaaGreatDoor
