/- Sorted tables: the reference's entries. -/
import Derived.Test.YtjigfinpbdglnaaGreatDoorZSoE
set_option linter.unusedVariables false
set_option linter.unusedSimpArgs false
set_option maxRecDepth 100000
set_option linter.unusedVariables false
set_option linter.unusedSimpArgs false
namespace Go.Proofs.YtjigfinpbdglnaaGreatDoor
open Go.RowKit

theorem fin_ent {w0 wD w : World} {g : Nat} {kk val : List UInt8} {sq : Nat} {gn : Bool} {av : Option Addr} {cv : Nat} (h : w.heap[g]? = some (.cells #[.string ⟨#[]⟩, .int .u64 0, .bool false, .slice none 0 0] 37 (0, 0))) (ho : Own w wD.heap.size av val.length cv val) (hb : Below wD.heap.size wD w) (hg : wD.heap.size ≤ g) (hwd : Below w0.heap.size w0 wD) :
    ∃ (gq : Nat) (aq : Option Addr) (cq : Nat), Value.pointer (some ⟨g, 0, none⟩) = .pointer (some ⟨gq, 0, none⟩) ∧ w0.heap.size ≤ gq ∧ Hid (((((w.setCell ⟨g, 0, none⟩ (.string (bstr kk))).setCell ⟨g, 1, none⟩ (.int .u64 sq)).setCell ⟨g, 2, none⟩ (.bool gn)).setCell ⟨g, 3, none⟩ (.slice av val.length cv)).heap[gq]? = some (.cells #[.string (bstr kk), .int .u64 sq, .bool gn, .slice aq val.length cq] 37 (0, 0))) ∧ Hid (Own ((((w.setCell ⟨g, 0, none⟩ (.string (bstr kk))).setCell ⟨g, 1, none⟩ (.int .u64 sq)).setCell ⟨g, 2, none⟩ (.bool gn)).setCell ⟨g, 3, none⟩ (.slice av val.length cv)) w0.heap.size aq val.length cq val) ∧ Hid (Below w0.heap.size w0 ((((w.setCell ⟨g, 0, none⟩ (.string (bstr kk))).setCell ⟨g, 1, none⟩ (.int .u64 sq)).setCell ⟨g, 2, none⟩ (.bool gn)).setCell ⟨g, 3, none⟩ (.slice av val.length cv))) := by
  obtain ⟨h1, h2⟩ := set4 (.string (bstr kk)) (.int .u64 sq) (.bool gn) (.slice av val.length cv) h
  have hs := hwd.size
  have hbw := hwd.trans (hb.mono hs)
  exact ⟨g, av, cv, rfl, by omega, Lib.hid h1, Lib.hid (own_oth (own_mono ho hs) h2 h (by decide)), Lib.hid (hbw.trans (h2.below hbw.size (fun x hx => by cases hx; dsimp only; omega)))⟩
/-- Rows of other types are kept. -/
def KeepT (w w' : World) : Prop := ∀ (B T s n : Nat) (v : Value) (cs : List Value), T ≠ 37 → w.ownsRow B T s v n cs → w'.ownsRow B T s v n cs
theorem KeepT.refl (w : World) : KeepT w w := fun _ _ _ _ _ _ _ h => h
theorem KeepT.below {w w1 w2 : World} (h : KeepT w w1) (k : Below w1.heap.size w1 w2) : KeepT w w2 := fun B T s n v cs hT ho => own_below (h B T s n v cs hT ho) k
theorem KeepT.evol {w w1 w2 : World} {Bo so n c k : Nat} {ao ao' : Option Addr} {cso : List Value} (h : KeepT w w1) (ho : w1.ownsRow Bo 37 so (.slice ao n c) k cso) (kk : Evol w1 ao w2 ao') : KeepT w w2 := fun B T s n v cs hT hh => town_evol (h B T s n v cs hT hh) ho hT kk
/-- What the reference's entries tells. -/
def RetEr (p : List UInt8) (L : List Ent) (B : Nat) (w : World) (en : Ending) (w' : World) : Prop := ∃ (a : Option Addr) (n c : Nat) (ok : Bool), en = .returned (.tuple #[.slice a n c, .bool ok]) ∧ Below B w w' ∧
  ((ok = true ∧ ∃ l, l ≠ [] ∧ Sst.dents p = some l ∧ Ent.rightB (L ++ l) = true ∧ AccV w' B a n c (L ++ l) ∧ KeepT w w') ∨ (ok = false ∧ (Sst.dents p = none ∨ ∃ l, Sst.dents p = some l ∧ (l = [] ∨ Ent.rightB (L ++ l) = false))))
theorem bs_belowB {w W : World} {B n c : Nat} {a : Option Addr} {l : List UInt8} (h : Bs w a n c l) (k : Below B w W) (ha : ∀ x, a = some x → x.block < B) : Bs W a n c l :=
  ⟨h.1, h.2.1, h.2.2.1, fun j v hj => by
    obtain ⟨b, off, rfl, hc⟩ := h.2.2.2 j v hj
    exact ⟨b, off, rfl, (World.cell?_of_block (k.block b (ha _ rfl))).trans hc⟩⟩
theorem er_bad {p rest : List UInt8} {L done : List Ent} {e : Ent} {r : List UInt8} (h : Sst.Part p done rest) (hd : Sst.dent rest = some (e, r)) (hr : Ent.rightB (L ++ done ++ [e]) = false) : Sst.dents p = none ∨ ∃ l, Sst.dents p = some l ∧ (l = [] ∨ Ent.rightB (L ++ l) = false) := by
  cases hp : Sst.dents p with
  | none => exact .inl rfl
  | some ls =>
    obtain ⟨ls', rfl⟩ := dents_pre (h.step hd) hp
    exact .inr ⟨_, rfl, .inr (by rw [← List.append_assoc, ← List.append_assoc]; exact Ent.right_front hr)⟩
theorem er_no {p : List UInt8} {L : List Ent} {B : Nat} {w w' : World} (hb : Below B w w') (h : Sst.dents p = none ∨ ∃ l, Sst.dents p = some l ∧ (l = [] ∨ Ent.rightB (L ++ l) = false)) : RetEr p L B w (.returned (.tuple #[.slice none 0 0, .bool false])) w' := ⟨none, 0, 0, false, rfl, hb, .inr ⟨rfl, h⟩⟩
set_option maxHeartbeats 16000000 in
theorem rentries_any (a : Option Addr) (n c : Nat) (p : List UInt8) (al : Option Addr) (nl cl : Nat) (L : List Ent) (B : Nat) (w : World) (h : Bs w a n c p) (ha : ∀ x, a = some x → x.block < B) (hB : B ≤ w.heap.size) (hl : AccV w B al nl cl L) (hr : Ent.rightB L = true) (hn : n ≤ 100000000) (hnl : nl ≤ 100000000) :
    Calls Tryz.prog 54 #[.slice a n c, .slice al nl cl] w (RetEr p L B w) := by
  have hpl := h.1
  have hle := h.le.1
  have hlc := h.2.1
  have HP : Hid (∀ W, Below B w W → Bs W a n c p) := Lib.hid (fun W hb => bs_belowB h hb ha)
  have HPL := Lib.hid hpl
  by_cases h0 : n = 0
  · subst h0
    have hp0 : p = [] := List.eq_nil_of_length_eq_zero hpl
    have HD : Hid (Sst.dents p = some []) := Lib.hid (dents_some (by rw [hp0]; exact Sst.Part.nil []))
    clear hpl hp0 h
    go_enter Tryz.func54, Tryz.ntmps54
    go_wp2
    go_ret2
    exact er_no (Below.refl _ _) (.inr ⟨[], HD.out, .inl rfl⟩)
  have t0 : ((n : Int) == 0) = false := by rw [beq_eq_false_iff_ne]; omega
  have HNE := Lib.hid h0
  have HL0 := Lib.hid hl
  have HR0 := Lib.hid hr
  clear hpl h hl hr h0
  have hlc2 := hlc
  obtain ⟨b0, o0, rfl, _⟩ := (HP.out w (Below.refl _ _)).2.2.2.byte (i := 0) (by rw [HPL.out]; have := HNE.out; omega)
  have S1 : Hid (∀ (z : Int) (k : Nat), z = k → k ≤ n → ∀ W, (Instr.slice 22 (.slice (some ⟨b0, o0, none⟩) n c) (some (.int .i64 z)) none none).run Tryz.prog W = .ok (.slice (subA (some ⟨b0, o0, none⟩) c k) (n - k) (c - k)) W) := Lib.hid (fun z k hz hk W => slice_l (some ⟨b0, o0, none⟩) n c hz hk W)
  have D1 : Hid (∀ k, k ≤ n → ∀ W, Below B w W → Bs W (subA (some ⟨b0, o0, none⟩) c k) (n - k) (c - k) (p.drop k)) := Lib.hid (fun k hk W hb => (HP.out W hb).drop hk)
  have C1 : Hid (∀ k, k < n → ∀ W, Below B w W → W.cell? ⟨b0, o0 + k, none⟩ = some (.int .u8 (n8 (nth p k)))) := Lib.hid (fun k hk W hb => by
    obtain ⟨b', o', e, hc⟩ := (HP.out W hb).2.2.2.byte (i := k) (by rw [HPL.out]; exact hk)
    cases e
    exact hc)
  go_enter Tryz.func54, Tryz.ntmps54
  go_wp2_with fail
  go_loopw [1, 6] (fun lv pv wr => ∃ (done : List Ent) (a1 : Option Addr) (n1 c1 pos : Nat), lv = .slice a1 n1 c1 ∧ pv = .int .i64 pos ∧ pos ≤ n ∧ n1 ≤ nl + pos ∧ Hid (AccV wr B a1 n1 c1 (L ++ done)) ∧ Hid (Below B w wr) ∧ Hid (Sst.Part p done (p.drop pos)) ∧ Hid (Ent.rightB (L ++ done) = true) ∧ Hid (KeepT w wr)) (fun _ pv _ => n - (intOf pv).toNat)
  case atStart => exact ⟨[], al, nl, cl, 0, rfl, rfl, Nat.zero_le _, by omega, Lib.hid (by rw [List.append_nil]; exact HL0.out), Lib.hid (Below.refl _ _), Lib.hid (Sst.Part.nil p), Lib.hid (by rw [List.append_nil]; exact HR0.out), Lib.hid (KeepT.refl w)⟩
  case round =>
    obtain ⟨done, a1, n1, c1, pos, rfl, rfl, hpos, hn1, HA, HB, HPT, HRT, HKT⟩ := hrel
    by_cases hpl : pos < n
    case neg =>
      obtain rfl : n = pos := by omega
      have hre : p.drop n = [] := List.drop_of_length_le (by rw [HPL.out]; exact Nat.le_refl _)
      have HPT2 := HPT.out
      rw [hre] at HPT2
      have HD := Lib.hid (dents_some HPT2)
      have HDN : Hid (done ≠ []) := Lib.hid (fun e => by
        have h1 := HPT2.eq
        rw [e] at h1
        have h2 := HPL.out
        rw [h1] at h2
        exact HNE.out h2.symm)
      clear hre HPT2
      go_wp2
      go_ret2
      exact ⟨a1, n1, c1, true, rfl, HB.out, .inl ⟨rfl, done, HDN.out, HD.out, HRT.out, HA.out, HKT.out⟩⟩
    have hn1b : n1 ≤ 200000000 := by omega
    have HBS := Lib.hid (Nat.le_trans hB HB.out.size)
    have HRN : Hid (p.drop pos ≠ []) := Lib.hid (fun e => by have := congrArg List.length e; rw [List.length_drop, HPL.out] at this; simp at this; omega)
    have sA := S1.out (pos : Int) pos rfl hpos
    have HD5 := Lib.hid (refreadbytes_any _ _ _ _ (65535 : Nat) wr (D1.out pos hpos _ HB.out) (by omega))
    obtain ⟨x, m, er, hx⟩ : ∃ x m er, Codec.rdBytes (p.drop pos) (65535 : Nat) = (x, m, er) := ⟨_, _, _, rfl⟩
    rw [hx] at HD5
    have HX := Lib.hid hx
    clear hx
    go_wp2_with fail
    refine HD5.out.mono ?_
    rintro en w5 ⟨ak, nk, ck, rfl, hk5, hb5⟩
    dsimp only at hk5 ⊢
    have HKK5 := Lib.hid hk5
    have HB5 := Lib.hid (HB.out.trans (hb5.mono HBS.out))
    have HA5 := Lib.hid (HA.out.below hb5)
    have HKT5 := Lib.hid (HKT.out.below hb5)
    clear hk5 hb5 HD5 sA
    by_cases her : er = 0
    case neg =>
      have HE := Lib.hid (dents_bad HPT.out HRN.out (dent_e1 (by rw [HX.out]; exact her)))
      have ter : ((er : Int) != 0) = true := by rw [bne_iff_ne]; omega
      clear her
      go_wp2
      go_ret2
      exact er_no HB5.out (.inl HE.out)
    subst her
    have hm := (rdBytes_back HX.out).2.2
    rw [List.length_drop, HPL.out] at hm
    have hq1 : pos + m ≤ n := by omega
    have sB := S1.out ((pos : Int) + (m : Int)) (pos + m) (by omega) hq1
    have HD9 := Lib.hid (refreadnum_any _ _ _ _ w5 (D1.out (pos + m) hq1 _ HB5.out))
    obtain ⟨v, k2, er, hx⟩ : ∃ v k er, Codec.dec (p.drop (pos + m)) = (v, k, er) := ⟨_, _, _, rfl⟩
    rw [hx] at HD9
    have HY : Hid (Codec.dec ((p.drop pos).drop m) = (v, k2, er)) := Lib.hid (by rw [List.drop_drop]; exact hx)
    clear hx
    go_wp2_with fail
    refine HD9.out.mono ?_
    rintro en w9 ⟨rfl, rfl⟩
    clear HD9 sB
    dsimp only
    by_cases her : er = 0
    case neg =>
      have HE := Lib.hid (dents_bad HPT.out HRN.out (dent_e2 HX.out (by rw [HY.out]; exact her)))
      have ter : ((er : Int) != 0) = true := by rw [bne_iff_ne]; omega
      clear her
      go_wp2
      go_ret2
      exact er_no HB5.out (.inl HE.out)
    subst her
    have hk2 := (Codec.dec_back HY.out).2.2.1
    rw [List.length_drop, List.length_drop, HPL.out] at hk2
    have hq2 : pos + m + k2 ≤ n := by omega
    obtain ⟨q, hq⟩ : ∃ q, q = pos + m + k2 := ⟨_, rfl⟩
    have eq1 : (pos : Int) + (m : Int) + (k2 : Int) = (q : Int) := by omega
    have hqn : q ≤ n := by omega
    have HDQ : Hid (((p.drop pos).drop m).drop k2 = p.drop q) := Lib.hid (by rw [List.drop_drop, List.drop_drop, hq, Nat.add_assoc])
    have HDE := Lib.hid (dent_eq HX.out HY.out)
    rw [HDQ.out] at HDE
    have HQ := Lib.hid hq
    have hqpos : pos ≤ q := by omega
    clear hq hm hk2 hq1 hq2
    by_cases hqe : q < n
    case neg =>
      have HE := Lib.hid (dents_bad HPT.out HRN.out (by rw [HDE.out, if_pos (.inl (List.drop_of_length_le (by rw [HPL.out]; omega)))]))
      have t13 : decide ((q : Int) ≥ (n : Int)) = true := decide_eq_true (by omega)
      have t13b : decide ((n : Int) ≤ (q : Int)) = true := decide_eq_true (by omega)
      have t13c : decide (n ≤ q) = true := decide_eq_true (by omega)
      clear hqe
      go_wp2
      go_ret2
      exact er_no HB5.out (.inl HE.out)
    have t13 : decide ((q : Int) ≥ (n : Int)) = false := decide_eq_false (by omega)
    have t13b : decide ((n : Int) ≤ (q : Int)) = false := decide_eq_false (by omega)
    have t13c : decide (n ≤ q) = false := decide_eq_false (by omega)
    have HNQ : Hid (nth (p.drop q) 0 = nth p q) := Lib.hid (by
      rw [nth_eq _ (by rw [List.length_drop, HPL.out]; omega), nth_eq _ (by rw [HPL.out]; exact hqe)]
      simp)
    have hcq := C1.out q hqe _ HB5.out
    obtain ⟨y, hy⟩ : ∃ y, nth p q = y := ⟨_, rfl⟩
    rw [hy] at hcq HNQ
    clear hy
    have HQN : Hid (p.drop q ≠ []) := Lib.hid (fun e => by have := congrArg List.length e; rw [List.length_drop, HPL.out] at this; simp at this; omega)
    by_cases hy1 : 1 < y.toNat
    case pos =>
      have HE := Lib.hid (dents_bad HPT.out HRN.out (by rw [HDE.out, HNQ.out, if_pos (.inr hy1)]))
      have ty : decide ((1 : Int) < n8 y) = true := decide_eq_true (by unfold n8; omega)
      generalize n8 y = yy at *
      clear hy1
      go_wp2
      go_ret2
      exact er_no HB5.out (.inl HE.out)
    have ty : decide ((1 : Int) < n8 y) = false := decide_eq_false (by unfold n8; omega)
    obtain ⟨gb, hgb⟩ : ∃ gb, (y == 1) = gb := ⟨_, rfl⟩
    have hx2 : (n8 y == 1) = gb := by
      rw [← hgb]
      by_cases e : y = 1
      · rw [e]; rfl
      · rw [beq_eq_false_iff_ne.2 e, beq_eq_false_iff_ne]
        intro h
        exact e (UInt8.toNat_inj.1 (by unfold n8 at h; rw [show (1 : UInt8).toNat = 1 from rfl]; omega))
    rw [HNQ.out, hgb, if_neg (by rintro (h | h); exact HQN.out h; exact hy1 h)] at HDE
    rw [List.drop_drop] at HDE
    clear hgb hy1
    have sC := S1.out ((q : Int) + 1) (q + 1) (by omega) (by omega)
    have HD16 := Lib.hid (refreadbytes_any _ _ _ _ (33554432 : Nat) w5 (D1.out (q + 1) (by omega) _ HB5.out) (by omega))
    obtain ⟨val, m3, er, hx⟩ : ∃ x m er, Codec.rdBytes (p.drop (q + 1)) (33554432 : Nat) = (x, m, er) := ⟨_, _, _, rfl⟩
    rw [hx] at HD16 HDE
    have HX3 := Lib.hid hx
    clear hx
    go_wp2_with fail
    refine HD16.out.mono ?_
    rintro en w16 ⟨av, nv, cv, rfl, hv16, hb16⟩
    dsimp only at hv16 HDE ⊢
    obtain rfl : nv = val.length := hv16.1.symm
    have HVV := Lib.hid hv16
    have HKK := Lib.hid (HKK5.out.below hb16)
    have HB16 := Lib.hid (HB5.out.trans (hb16.mono (Nat.le_trans hB HB5.out.size)))
    have HA16 := Lib.hid (HA5.out.below hb16)
    have HKT16 := Lib.hid (HKT5.out.below hb16)
    clear hv16 hb16 HD16 sC hcq HKK5
    by_cases her : er = 0
    case neg =>
      have HE := Lib.hid (dents_bad HPT.out HRN.out (by rw [HDE.out, if_pos her]))
      have ter : ((er : Int) != 0) = true := by rw [bne_iff_ne]; omega
      clear her
      go_wp2
      go_ret2
      exact er_no HB16.out (.inl HE.out)
    subst her
    rw [if_neg (by simp)] at HDE
    have hm3 := (rdBytes_back HX3.out).2.2
    rw [List.length_drop, HPL.out] at hm3
    have hvl : val.length ≤ 33554432 := (rdBytes_back HX3.out).2.1
    rw [List.drop_drop] at HDE
    obtain ⟨r, hr⟩ : ∃ r, r = q + 1 + m3 := ⟨_, rfl⟩
    have hrn : r ≤ n ∧ q < r := by omega
    have eq2 : (q : Int) + 1 + (m3 : Int) = (r : Int) := by omega
    rw [← hr] at HDE
    have HRB := Lib.hid hrn
    clear hr hm3
    go_upto_region 20 with fail
    go_cut [13] (fun pv wx => ∃ (gq : Nat) (aq : Option Addr) (cq : Nat), pv = .pointer (some ⟨gq, 0, none⟩) ∧ w16.heap.size ≤ gq ∧ Hid (wx.heap[gq]? = some (.cells #[.string (bstr x), .int .u64 v, .bool gb, .slice aq val.length cq] 37 (0, 0))) ∧ Hid (Own wx w16.heap.size aq val.length cq val) ∧ Hid (Below w16.heap.size w16 wx))
    case first =>
      refine wp_region_steps [9] 9 9 (by kernel_rfl) (by kernel_rfl) rfl (fun W' => ∃ V : BW w16.drew, W' = V.w) ?_
      have HV : Hid (Bs w16.drew av val.length cv val) := Lib.hid (HVV.out.below (Below.refl _ _).drew)
      have v1 : ∀ V : BW w16.drew, (convert 22 9 (.slice ak nk ck)).run Tryz.prog V.w = .ok (.string (bstr x)) V.w := fun V => conv_bytes ((HKK.out.below (Below.refl _ _).drew).below V.b)
      have HWD : Below w16.heap.size w16 w16.drew := (Below.refl _ _).drew
      generalize w16.drew = wD at *
      refine anyT_pull [0, 1, 2, 3, 5] 9 4 (by intro c a d v w h; cases d <;> exact h) (by kernel_rfl) ⟨⟨_, Below.refl _ _⟩, rfl⟩ ?_
      simp only [opsAt, List.filterMap_cons, List.filterMap_nil, List.getElem?_cons_zero, List.getElem?_cons_succ]
      iterate 5
        apply held_step
        · kernel_rfl
        · rintro _ ⟨V, rfl⟩
          go_simp
          rfl
      refine held_nil ?_
      clear v1
      refine anyT_two 4 8 rfl rfl (by kernel_rfl) (by kernel_rfl) (by kernel_rfl) (fun K hK => ?_) (fun K hK => ?_)
      · go_simp
        have ho1 := Own.lit wD wD.heap.size [] (Nat.le_refl _) (by simp [maxLen])
        have hb1 := below_alloc1 wD (.cells #[] 5)
        have hs1 : (wD.alloc (.cells #[] 5)).heap.size = wD.heap.size + 1 := by simp
        refine hK _ _ ⟨⟨_, hb1⟩, rfl⟩ ?_
        clear hK
        have ho1' : Own (wD.alloc (.cells #[] 5)) wD.heap.size (some ⟨wD.heap.size, 0, none⟩) 0 0 [] := ho1
        generalize hgw : wD.alloc (.cells #[] 5) = wE at *
        clear hgw ho1
        refine anyT_two 6 8 rfl rfl (by kernel_rfl) (by kernel_rfl) (by kernel_rfl) (fun K hK => ?_) (fun K hK => ?_)
        · refine step_app_own _ _ rfl wD.heap.size rfl ho1' rfl (HV.out.below hb1) (by omega) (by omega) ?_
          intro a2 k2 wF ho3 hb3 hev3
          have hbf := hb1.trans hb3
          refine hK _ _ ⟨⟨_, hbf⟩, rfl⟩ ?_
          clear hK hev3
          rw [Nat.zero_add] at ho3 ⊢
          rw [List.nil_append] at ho3
          have HBW := Lib.hid hbf
          refine anyT_pull [7] 9 1 (by intro c a d v w h; cases d <;> exact h) (by kernel_rfl) ⟨⟨_, HBW.out⟩, rfl⟩ ?_
          simp only [opsAt, List.filterMap_cons, List.filterMap_nil, List.getElem?_cons_zero, List.getElem?_cons_succ]
          apply held_step
          · kernel_rfl
          · rintro _ ⟨V, rfl⟩
            go_simp
            rfl
          refine held_nil ?_
          clear HBW
          apply anyT_one 8
          · rfl
          · kernel_rfl
          · kernel_rfl
          intro K hK
          go_simp
          have hg := heap_alloc_new wF (.cells #[.string ⟨#[]⟩, .int .u64 0, .bool false, .slice none 0 0] 37)
          have HBW := Lib.hid (hbf.trans ((below_alloc1 wF (.cells #[.string ⟨#[]⟩, .int .u64 0, .bool false, .slice none 0 0] 37)).mono hbf.size))
          have HOW := Lib.hid (own_below ho3 (below_alloc1 wF (.cells #[.string ⟨#[]⟩, .int .u64 0, .bool false, .slice none 0 0] 37)))
          refine hK _ _ ⟨⟨_, HBW.out⟩, rfl⟩ ?_
          clear hK
          have HG := Lib.hid hg
          have HGE := Lib.hid hbf.size
          clear hg
          generalize hgw : wF.alloc (.cells #[.string ⟨#[]⟩, .int .u64 0, .bool false, .slice none 0 0] 37) = wG at *
          generalize hgs : wF.heap.size = gB at *
          clear hgw ho3 hb3 hbf hs1 ho1' hb1
          refine anyT_done (by kernel_rfl) ?_
          simp only [opsAt, List.filterMap_cons, List.filterMap_nil, List.getElem?_cons_zero, List.getElem?_cons_succ]
          obtain ⟨k0, k1, k2', k3', kf⟩ := cells4 HG.out
          go_wp2
          go_meet
          exact fin_ent HG.out HOW.out HBW.out HGE.out HWD
        · go_simp
          have hg := heap_alloc_new wE (.cells #[.string ⟨#[]⟩, .int .u64 0, .bool false, .slice none 0 0] 37)
          rw [hs1] at hg
          have hb2 := hb1.trans ((below_alloc1 wE (.cells #[.string ⟨#[]⟩, .int .u64 0, .bool false, .slice none 0 0] 37)).mono hb1.size)
          have ho2 := own_below ho1' (below_alloc1 wE (.cells #[.string ⟨#[]⟩, .int .u64 0, .bool false, .slice none 0 0] 37))
          have hs2 : (wE.alloc (.cells #[.string ⟨#[]⟩, .int .u64 0, .bool false, .slice none 0 0] 37)).heap.size = wE.heap.size + 1 := by simp
          refine hK _ _ ⟨⟨_, hb2⟩, rfl⟩ ?_
          clear hK
          generalize hgw : wE.alloc (.cells #[.string ⟨#[]⟩, .int .u64 0, .bool false, .slice none 0 0] 37) = wF at *
          clear hgw
          apply anyT_one 6
          · rfl
          · kernel_rfl
          · kernel_rfl
          intro K hK
          refine step_app_own _ _ rfl wD.heap.size rfl ho2 rfl (HV.out.below hb2) (by omega) (by omega) ?_
          intro a2 k2 wG ho3 hb3 hev3
          have HBW := Lib.hid (hb2.trans hb3)
          refine hK _ _ ⟨⟨_, HBW.out⟩, rfl⟩ ?_
          clear hK
          have HG := Lib.hid ((hev3.1.block (wD.heap.size + 1) (by omega) (fun e => by simp at e)).trans hg)
          rw [Nat.zero_add] at ho3
          rw [List.nil_append] at ho3
          have HOW := Lib.hid ho3
          have HGE : Hid (wD.heap.size ≤ wD.heap.size + 1) := Lib.hid (Nat.le_succ _)
          generalize hgs : wD.heap.size + 1 = gB at *
          clear hg hb1 hb2 hb3 ho1' ho2 ho3 hev3 hs1 hs2
          refine anyT_pull [7] 9 0 (by intro c a d v w h; cases d <;> exact h) (by kernel_rfl) ⟨⟨_, HBW.out⟩, rfl⟩ ?_
          simp only [opsAt, List.filterMap_cons, List.filterMap_nil, List.getElem?_cons_zero, List.getElem?_cons_succ]
          apply held_step
          · kernel_rfl
          · rintro _ ⟨V, rfl⟩
            go_simp
            rfl
          refine held_nil ?_
          refine anyT_done (by kernel_rfl) ?_
          simp only [opsAt, List.filterMap_cons, List.filterMap_nil, List.getElem?_cons_zero, List.getElem?_cons_succ]
          obtain ⟨k0, k1, k2', k3', kf⟩ := cells4 HG.out
          go_wp2
          go_meet
          exact fin_ent HG.out HOW.out HBW.out HGE.out HWD
      · go_simp
        have hg1 := heap_alloc_new wD (.cells #[.string ⟨#[]⟩, .int .u64 0, .bool false, .slice none 0 0] 37)
        have hb1 := below_alloc1 wD (.cells #[.string ⟨#[]⟩, .int .u64 0, .bool false, .slice none 0 0] 37)
        refine hK _ _ ⟨⟨_, hb1⟩, rfl⟩ ?_
        clear hK
        have hs1 : (wD.alloc (.cells #[.string ⟨#[]⟩, .int .u64 0, .bool false, .slice none 0 0] 37)).heap.size = wD.heap.size + 1 := by simp
        generalize hgw : wD.alloc (.cells #[.string ⟨#[]⟩, .int .u64 0, .bool false, .slice none 0 0] 37) = wE at *
        clear hgw
        apply anyT_one 4
        · rfl
        · kernel_rfl
        · kernel_rfl
        intro K hK
        go_simp
        have ho2 := Own.lit wE wE.heap.size [] (Nat.le_refl _) (by simp [maxLen])
        have hb2 := hb1.trans ((below_alloc1 wE (.cells #[] 5)).mono hb1.size)
        have hg2 := ((below_alloc1 wE (.cells #[] 5)).block wD.heap.size (by omega)).trans hg1
        have hs2 : (wE.alloc (.cells #[] 5)).heap.size = wE.heap.size + 1 := by simp
        refine hK _ _ ⟨⟨_, hb2⟩, rfl⟩ ?_
        clear hK
        have ho2' : Own (wE.alloc (.cells #[] 5)) (wD.heap.size + 1) (some ⟨wD.heap.size + 1, 0, none⟩) 0 0 [] := by rw [← hs1]; exact ho2
        generalize hgw : wE.alloc (.cells #[] 5) = wF at *
        clear hgw ho2
        apply anyT_one 6
        · rfl
        · kernel_rfl
        · kernel_rfl
        intro K hK
        refine step_app_own _ _ rfl (wD.heap.size + 1) rfl ho2' rfl (HV.out.below hb2) (by omega) (by omega) ?_
        intro a2 k2 wG ho3 hb3 hev3
        have HBW : Hid (Below wD.heap.size wD wG) := Lib.hid (hb2.trans (hb3.mono (by omega)))
        refine hK _ _ ⟨⟨_, HBW.out⟩, rfl⟩ ?_
        clear hK
        have HG := Lib.hid ((hb3.block wD.heap.size (by omega)).trans hg2)
        rw [Nat.zero_add] at ho3
        have HOW := Lib.hid (own_mono ho3 (Nat.le_succ wD.heap.size))
        have HGE : Hid (wD.heap.size ≤ wD.heap.size) := Lib.hid (Nat.le_refl _)
        clear hev3
        rw [List.nil_append] at HOW
        clear hg1 hg2 ho2' ho3 hb1 hb2 hb3 hs1 hs2
        refine anyT_pull [7] 9 0 (by intro c a d v w h; cases d <;> exact h) (by kernel_rfl) ⟨⟨_, HBW.out⟩, rfl⟩ ?_
        simp only [opsAt, List.filterMap_cons, List.filterMap_nil, List.getElem?_cons_zero, List.getElem?_cons_succ]
        apply held_step
        · kernel_rfl
        · rintro _ ⟨V, rfl⟩
          go_simp
          rfl
        refine held_nil ?_
        refine anyT_done (by kernel_rfl) ?_
        simp only [opsAt, List.filterMap_cons, List.filterMap_nil, List.getElem?_cons_zero, List.getElem?_cons_succ]
        obtain ⟨k0, k1, k2', k3', kf⟩ := cells4 HG.out
        go_wp2
        go_meet
        exact fin_ent HG.out HOW.out HBW.out HGE.out HWD
    case rest =>
    obtain ⟨gq, aq, cq, rfl, hgq, HG, HO, HBC⟩ := hcut
    have HB20 := Lib.hid (HB16.out.trans (HBC.out.mono (Nat.le_trans hB HB16.out.size)))
    have HA20 := Lib.hid (HA16.out.below HBC.out)
    have HKT20 := Lib.hid (HKT16.out.below HBC.out)
    obtain ⟨k0, k1, k2, k3, kf⟩ := cells4 HG.out
    clear HVV HKK HA16 HB16 HBC HA5
    go_upto_region 21 with fail
    go_cut [107] (fun tv wx => tv = .bool (!Ent.rightB (L ++ done ++ [⟨x, v, gb, val⟩])) ∧ Hid (Below wc.heap.size wc wx))
    case first =>
      cases gb with
      | true =>
        by_cases hvp : 0 < val.length
        · have HRV : Hid (Ent.rightB (L ++ done ++ [⟨x, v, true, val⟩]) = false) := Lib.hid (Bool.eq_false_iff.2 fun h => ((Ent.right_snoc HRT.out).1 h).1 ⟨rfl, hvp⟩)
          have tv : decide ((0 : Int) < (val.length : Int)) = true := decide_eq_true (by omega)
          have tv' : decide (0 < val.length) = true := decide_eq_true hvp
          refine wp_region_class (w0 := wc) (by kernel_rfl) (by kernel_rfl) (Below.refl _ _) ?_
          have m1 := BW.cell k0
          have m2 := BW.cell k1
          have m3 := BW.cell k2
          have m4 := BW.cell k3
          repeat (first | go_big_quiet_step (fail))
          refine wpQuiet_nil ?_
          intro w1 hb1
          replace hb1 := BW.of hb1
          have HB1 := Lib.hid hb1
          clear hb1 m1 m2 m3 m4
          go_wp2
          go_meet
          exact ⟨by rw [HRV.out]; rfl, HB1⟩
        · have tv : decide ((0 : Int) < (val.length : Int)) = false := decide_eq_false (by omega)
          have tv' : decide (0 < val.length) = false := decide_eq_false hvp
          have HF : Hid (Ent.fine ⟨x, v, true, val⟩) := Lib.hid (fun h => hvp h.2)
          clear hvp
          by_cases hn0 : n1 = 0
          · have HRV : Hid (Ent.rightB (L ++ done ++ [⟨x, v, true, val⟩]) = true) := Lib.hid ((Ent.right_snoc HRT.out).2 ⟨HF.out, .inl (List.eq_nil_of_length_eq_zero (by rw [HA20.out.len, hn0]))⟩)
            subst hn0
            refine wp_region_class (w0 := wc) (by kernel_rfl) (by kernel_rfl) (Below.refl _ _) ?_
            have m1 := BW.cell k0
            have m2 := BW.cell k1
            have m3 := BW.cell k2
            have m4 := BW.cell k3
            repeat (first | go_big_quiet_step (fail))
            refine wpQuiet_nil ?_
            intro w1 hb1
            replace hb1 := BW.of hb1
            have HB1 := Lib.hid hb1
            clear hb1 m1 m2 m3 m4
            go_wp2
            go_meet
            exact ⟨by rw [HRV.out]; rfl, HB1⟩
          · obtain ⟨j, rfl⟩ : ∃ j, n1 = j + 1 := ⟨n1 - 1, by omega⟩
            obtain ⟨bL, oL, a2, d2, e2, he2, _⟩ := HA20.out.e.es.vals (i := j) (by omega)
            subst e2
            have q1 := he2.key
            have q2 := he2.seq
            have q3 := he2.gone
            have q4 := he2.val
            have ej : ((j + 1 : Nat) : Int) - 1 = (j : Int) := by omega
            have z2 : (0 : Int) ≤ (j : Int) := by omega
            have tp : decide ((0 : Int) < ((j + 1 : Nat) : Int)) = true := decide_eq_true (by omega)
            have tp' : decide (0 < j + 1) = true := decide_eq_true (by omega)
            have hc := fun W => refcmp_any (nth (L ++ done) j) ⟨x, v, true, val⟩ a2 aq d2 cq W
            unfold ev at hc
            have HC := Lib.hid hc
            have HLN : Hid ((L ++ done).length - 1 = j) := Lib.hid (by rw [HA20.out.len]; rfl)
            have HNL : Hid (L ++ done ≠ []) := Lib.hid (fun e => by have := congrArg List.length e; rw [HA20.out.len] at this; simp at this)
            clear he2 hc hn0
            by_cases hcm : Ent.cmp (nth (L ++ done) j) ⟨x, v, true, val⟩ = -1
            · have t3 : decide (0 ≤ Ent.cmp (nth (L ++ done) j) ⟨x, v, true, val⟩) = false := by rw [cmp_ge, decide_eq_true hcm]; rfl
              have HRV : Hid (Ent.rightB (L ++ done ++ [⟨x, v, true, val⟩]) = true) := Lib.hid ((Ent.right_snoc HRT.out).2 ⟨HF.out, .inr (by rw [HLN.out]; exact hcm)⟩)
              clear hcm
              generalize Ent.cmp (nth (L ++ done) j) ⟨x, v, true, val⟩ = cm at *
              refine wp_region_class (w0 := wc) (by kernel_rfl) (by kernel_rfl) (Below.refl _ _) ?_
              have m1 := BW.cell k0
              have m2 := BW.cell k1
              have m3 := BW.cell k2
              have m4 := BW.cell k3
              have n1 := BW.cell q1
              have n2 := BW.cell q2
              have n3 := BW.cell q3
              have n4 := BW.cell q4
              repeat (first | go_big_quiet_step ((exact calls_class (HC.out _))))
              refine wpQuiet_nil ?_
              intro w1 hb1
              replace hb1 := BW.of hb1
              have HB1 := Lib.hid hb1
              clear hb1 m1 m2 m3 m4 n1 n2 n3 n4
              go_wp2
              go_meet
              exact ⟨by rw [HRV.out]; rfl, HB1⟩
            · have t3 : decide (0 ≤ Ent.cmp (nth (L ++ done) j) ⟨x, v, true, val⟩) = true := by rw [cmp_ge, decide_eq_false hcm]; rfl
              have HRV : Hid (Ent.rightB (L ++ done ++ [⟨x, v, true, val⟩]) = false) := Lib.hid (Bool.eq_false_iff.2 fun h => by
                rcases ((Ent.right_snoc HRT.out).1 h).2 with h | h
                · exact HNL.out h
                · rw [HLN.out] at h; exact hcm h)
              clear hcm
              generalize Ent.cmp (nth (L ++ done) j) ⟨x, v, true, val⟩ = cm at *
              refine wp_region_class (w0 := wc) (by kernel_rfl) (by kernel_rfl) (Below.refl _ _) ?_
              have m1 := BW.cell k0
              have m2 := BW.cell k1
              have m3 := BW.cell k2
              have m4 := BW.cell k3
              have n1 := BW.cell q1
              have n2 := BW.cell q2
              have n3 := BW.cell q3
              have n4 := BW.cell q4
              repeat (first | go_big_quiet_step ((exact calls_class (HC.out _))))
              refine wpQuiet_nil ?_
              intro w1 hb1
              replace hb1 := BW.of hb1
              have HB1 := Lib.hid hb1
              clear hb1 m1 m2 m3 m4 n1 n2 n3 n4
              go_wp2
              go_meet
              exact ⟨by rw [HRV.out]; rfl, HB1⟩
      | false =>
        have HF : Hid (Ent.fine ⟨x, v, false, val⟩) := Lib.hid (fun h => by cases h.1)
        by_cases hn0 : n1 = 0
        · have HRV : Hid (Ent.rightB (L ++ done ++ [⟨x, v, false, val⟩]) = true) := Lib.hid ((Ent.right_snoc HRT.out).2 ⟨HF.out, .inl (List.eq_nil_of_length_eq_zero (by rw [HA20.out.len, hn0]))⟩)
          subst hn0
          refine wp_region_class (w0 := wc) (by kernel_rfl) (by kernel_rfl) (Below.refl _ _) ?_
          have m1 := BW.cell k0
          have m2 := BW.cell k1
          have m3 := BW.cell k2
          have m4 := BW.cell k3
          repeat (first | go_big_quiet_step (fail))
          refine wpQuiet_nil ?_
          intro w1 hb1
          replace hb1 := BW.of hb1
          have HB1 := Lib.hid hb1
          clear hb1 m1 m2 m3 m4
          go_wp2
          go_meet
          exact ⟨by rw [HRV.out]; rfl, HB1⟩
        · obtain ⟨j, rfl⟩ : ∃ j, n1 = j + 1 := ⟨n1 - 1, by omega⟩
          obtain ⟨bL, oL, a2, d2, e2, he2, _⟩ := HA20.out.e.es.vals (i := j) (by omega)
          subst e2
          have q1 := he2.key
          have q2 := he2.seq
          have q3 := he2.gone
          have q4 := he2.val
          have ej : ((j + 1 : Nat) : Int) - 1 = (j : Int) := by omega
          have z2 : (0 : Int) ≤ (j : Int) := by omega
          have tp : decide ((0 : Int) < ((j + 1 : Nat) : Int)) = true := decide_eq_true (by omega)
          have tp' : decide (0 < j + 1) = true := decide_eq_true (by omega)
          have hc := fun W => refcmp_any (nth (L ++ done) j) ⟨x, v, false, val⟩ a2 aq d2 cq W
          unfold ev at hc
          have HC := Lib.hid hc
          have HLN : Hid ((L ++ done).length - 1 = j) := Lib.hid (by rw [HA20.out.len]; rfl)
          have HNL : Hid (L ++ done ≠ []) := Lib.hid (fun e => by have := congrArg List.length e; rw [HA20.out.len] at this; simp at this)
          clear he2 hc hn0
          by_cases hcm : Ent.cmp (nth (L ++ done) j) ⟨x, v, false, val⟩ = -1
          · have t3 : decide (0 ≤ Ent.cmp (nth (L ++ done) j) ⟨x, v, false, val⟩) = false := by rw [cmp_ge, decide_eq_true hcm]; rfl
            have HRV : Hid (Ent.rightB (L ++ done ++ [⟨x, v, false, val⟩]) = true) := Lib.hid ((Ent.right_snoc HRT.out).2 ⟨HF.out, .inr (by rw [HLN.out]; exact hcm)⟩)
            clear hcm
            generalize Ent.cmp (nth (L ++ done) j) ⟨x, v, false, val⟩ = cm at *
            refine wp_region_class (w0 := wc) (by kernel_rfl) (by kernel_rfl) (Below.refl _ _) ?_
            have m1 := BW.cell k0
            have m2 := BW.cell k1
            have m3 := BW.cell k2
            have m4 := BW.cell k3
            have n1 := BW.cell q1
            have n2 := BW.cell q2
            have n3 := BW.cell q3
            have n4 := BW.cell q4
            repeat (first | go_big_quiet_step ((exact calls_class (HC.out _))))
            refine wpQuiet_nil ?_
            intro w1 hb1
            replace hb1 := BW.of hb1
            have HB1 := Lib.hid hb1
            clear hb1 m1 m2 m3 m4 n1 n2 n3 n4
            go_wp2
            go_meet
            exact ⟨by rw [HRV.out]; rfl, HB1⟩
          · have t3 : decide (0 ≤ Ent.cmp (nth (L ++ done) j) ⟨x, v, false, val⟩) = true := by rw [cmp_ge, decide_eq_false hcm]; rfl
            have HRV : Hid (Ent.rightB (L ++ done ++ [⟨x, v, false, val⟩]) = false) := Lib.hid (Bool.eq_false_iff.2 fun h => by
              rcases ((Ent.right_snoc HRT.out).1 h).2 with h | h
              · exact HNL.out h
              · rw [HLN.out] at h; exact hcm h)
            clear hcm
            generalize Ent.cmp (nth (L ++ done) j) ⟨x, v, false, val⟩ = cm at *
            refine wp_region_class (w0 := wc) (by kernel_rfl) (by kernel_rfl) (Below.refl _ _) ?_
            have m1 := BW.cell k0
            have m2 := BW.cell k1
            have m3 := BW.cell k2
            have m4 := BW.cell k3
            have n1 := BW.cell q1
            have n2 := BW.cell q2
            have n3 := BW.cell q3
            have n4 := BW.cell q4
            repeat (first | go_big_quiet_step ((exact calls_class (HC.out _))))
            refine wpQuiet_nil ?_
            intro w1 hb1
            replace hb1 := BW.of hb1
            have HB1 := Lib.hid hb1
            clear hb1 m1 m2 m3 m4 n1 n2 n3 n4
            go_wp2
            go_meet
            exact ⟨by rw [HRV.out]; rfl, HB1⟩

    case rest =>
    obtain ⟨rfl, HBE⟩ := hcut
    have HB21 := Lib.hid (HB20.out.trans (HBE.out.mono (Nat.le_trans hB HB20.out.size)))
    have HA21 := Lib.hid (HA20.out.below HBE.out)
    have HKT21 := Lib.hid ((HKT20.out.below HBE.out).below (below_alloc1 wc (.cells #[.string (bstr x), .int .u64 v, .bool gb, .slice aq val.length cq] 37)))
    have HG21 := Lib.hid ((HBE.out.block gq (Array.getElem?_eq_some_iff.1 HG.out).1).trans HG.out)
    have HO21 := Lib.hid (own_below (own_mono HO.out (Nat.zero_le _)) HBE.out)
    clear HB20 HA20 HG HO k0 k1 k2 k3 kf
    cases hrt : Ent.rightB (L ++ done ++ [⟨x, v, gb, val⟩]) with
    | false =>
      have HE := Lib.hid (er_bad HPT.out HDE.out hrt)
      clear hrt
      go_wp2
      go_ret2
      exact er_no HB21.out HE.out
    | true =>
      have HRT2 : Hid (Ent.rightB (L ++ (done ++ [⟨x, v, gb, val⟩])) = true) := Lib.hid (by rw [← List.append_assoc]; exact hrt)
      have HPT2 := Lib.hid (HPT.out.step HDE.out)
      clear hrt
      obtain ⟨k0, k1, k2, k3, kf⟩ := cells4 HG21.out
      have HSZ := Lib.hid (Nat.le_trans hB HB21.out.size)
      have HBX := Lib.hid (ent_box (w := wc) rfl ⟨x, v, gb, val⟩ aq cq)
      go_wp2_with (at_builtin; refine app_entV rfl _ _ rfl B rfl (HA21.out.below (below_alloc1 wc _)) rfl HBX.out (own_below HO21.out (below_alloc1 wc _)) (by omega) (le_alloc HSZ.out) ?_; intro a3 c3 w3 h3 hb3 hev3; have HA3 := Lib.hid h3; have HB3 := Lib.hid hb3; have HKT3 := Lib.hid (HKT21.out.evol ((HA21.out.below (below_alloc1 wc _)).row.choose_spec.1) hev3); clear h3 hb3 hev3)
      go_roundw
      case rel =>
        refine ⟨done ++ [⟨x, v, gb, val⟩], a3, n1 + 1, c3, r, rfl, by go_num, HRB.out.1, by have := HRB.out; omega, Lib.hid (by rw [← List.append_assoc]; exact HA3.out), Lib.hid (HB21.out.trans (((below_alloc1 wc _).mono HSZ.out).trans HB3.out)), HPT2, HRT2, HKT3⟩
      case measure => have := HRB.out; simp [intOf]; omega
end Go.Proofs.YtjigfinpbdglnaaGreatDoor
