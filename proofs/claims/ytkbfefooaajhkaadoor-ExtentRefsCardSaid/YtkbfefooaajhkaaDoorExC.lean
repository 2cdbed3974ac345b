/- Chunks, the program's. -/
import Derived.Test.YtkbfefooaajhkaaDoorExLr
import Derived.Test.YtkbfefooaajhkaaDoorReads3
set_option maxRecDepth 100000
set_option linter.unusedVariables false
set_option linter.unusedSimpArgs false
namespace Go.Proofs.YtkbfefooaajhkaaDoor
open Go.RowKit

def Ex.good (h : Hd) (k : Nat) (b : List UInt8) : Prop := b.length = 4 + h.len k ∧ Codec.four (Codec.sum (b.drop 4)) = b.take 4
instance (h : Hd) (k : Nat) (b : List UInt8) : Decidable (Ex.good h k b) := inferInstanceAs (Decidable (_ ∧ _))
def Ex.pick (h : Hd) (k : Nat) (o : Option (List UInt8)) : Option (List UInt8) := match o with
  | none => none
  | some b => if Ex.good h k b then some (b.drop 4) else none
def Ex.chunk (L : List Wr) (id : Nat) (h : Hd) (k : Nat) : Option (List UInt8) := Ex.pick h k (Kv.get L (Ex.ck id k))
theorem pick_yes {h : Hd} {k : Nat} {b : List UInt8} (hg : Ex.good h k b) : Ex.pick h k (some b) = some (b.drop 4) := by
  show (if Ex.good h k b then _ else _) = _
  rw [if_pos hg]
theorem pick_no {h : Hd} {k : Nat} {b : List UInt8} (hg : ¬ Ex.good h k b) : Ex.pick h k (some b) = none := by
  show (if Ex.good h k b then _ else _) = _
  rw [if_neg hg]
/-- What a reader of a chunk tells. -/
def ChR (w : World) (o : Option (List UInt8)) (e : Ending) (w' : World) : Prop :=
  ((o = none ∧ e = .returned (.tuple #[.slice none 0 0, .bool false])) ∨ ∃ a c x, o = some x ∧ e = .returned (.tuple #[.slice a x.length c, .bool true]) ∧ Bs w' a x.length c x) ∧ Below w.heap.size w w'
theorem len_le (h : Hd) (k : Nat) (ok : h.Ok) : h.len k ≤ 16777216 := Nat.le_trans (Nat.min_le_left _ _) ok.chunk
set_option maxHeartbeats 4000000 in
theorem chunk_any (bk id k : Nat) (L : List Wr) (h : Hd) (w : World) (hu : U64 id) (hk : KeysAt w bk L) (hL : Laid w) (ok : h.Ok) (hkc : k * h.chunk < h.size) :
    Calls Tryd.prog 38 #[src bk, .int .u64 id, hval h, .int .i64 k] w (ChR w (Ex.chunk L id h k)) := by
  have hk32 : k < 4294967296 := by
    have h1 := Nat.mul_le_mul_left k ok.pos
    have h2 := ok.size
    omega
  obtain ⟨v, hv, hg⟩ := get_any bk L (Ex.ck id k) w hk
  have HG := Lib.hid hg
  have gn := fun w => get_nil bk w
  have gf := fun w => get_fn bk w
  have hlk : Ex.chunk L id h k = Ex.pick h k (Kv.get L (Ex.ck id k)) := rfl
  rw [hlk]
  clear hlk hg hk
  have hcells := hd_cells w h 52
  obtain ⟨w1, hw1⟩ : ∃ w1, w.alloc (.cells #[.int .i64 h.size, .int .i64 h.chunk, .int .i64 h.refs, .int .u32 (n32 h.sum)] 52) = w1 := ⟨_, rfl⟩
  have hb1 : Below w.heap.size w w1 := by rw [← hw1]; exact below_alloc1 _ _
  rw [hw1] at hcells
  have VS := Lib.hid (fun (W : World) (k : Below w1.heap.size w1 W) => And.intro (cell_later k hcells.1) (And.intro (cell_later k hcells.2.1) (And.intro (cell_later k hcells.2.2.1) (cell_later k hcells.2.2.2))))
  have HB1 := Lib.hid hb1
  have HW1 := Lib.hid hw1
  have HKEY := Lib.hid (fun W : BW w1 => by have := ck_any id (k : Int) hu W.w ((hL.below hb1).below W.b); rw [low_nat hk32] at this; exact this)
  have HGET := Lib.hid (fun W : BW w1 => HG.out W.w (HB1.out.trans (W.b.mono HB1.out.size)))
  have HLN := Lib.hid (fun W : World => length_any h k W ok hkc)
  have hll := len_le h k ok
  have HVAL : Hid (hval h = .agg #[.int .i64 h.size, .int .i64 h.chunk, .int .i64 h.refs, .int .u32 (n32 h.sum)]) := Lib.hid rfl
  rw [HVAL.out]
  rw [HVAL.out] at HLN
  unfold src
  clear hcells hw1 hb1 hL
  rcases hv with ⟨hno, rfl⟩ | ⟨a, c, b, hyes, rfl, hbs⟩
  · rw [hno]
    clear hno
    go_enter Tryd.func38, Tryd.ntmps38
    go_wp2_with fail
    rw [HW1.out]
    refine wp_region_class (w0 := w1) (by kernel_rfl) (by kernel_rfl) (Below.refl _ _) ?_
    repeat (first | go_big_quiet_step (first | (go_at_call 18; exact calls_class (HKEY.out _)) | (go_at_call 32; exact calls_class_s (HGET.out _))))
    refine wpQuiet_nil ?_
    intro w2 hb2; replace hb2 := BW.of hb2
    have HB2 := Lib.hid (HB1.out.trans (hb2.mono HB1.out.size))
    obtain ⟨c0, c1, c2, c3⟩ := VS.out w2 hb2
    clear hb2
    go_wp2_with fail
    refine wp_region_class (w0 := w2) (by kernel_rfl) (by kernel_rfl) (Below.refl _ _) ?_
    repeat (first | go_big_quiet_step (fail))
    refine wpQuiet_nil ?_
    intro w3 hb3; replace hb3 := BW.of hb3
    have HB3 := Lib.hid (HB2.out.trans (hb3.mono HB2.out.size))
    clear hb3 c0 c1 c2 c3
    go_wp2
    go_ret2
    exact ⟨.inl ⟨rfl, rfl⟩, HB3.out⟩
  · rw [hyes]
    clear hyes
    have HBS0 := Lib.hid hbs
    have hbl := hbs.le.1
    have hbn : b.length ≤ c := hbs.2.1
    clear hbs
    by_cases hlen : b.length = 4 + h.len k
    case neg =>
      have HP : Hid (Ex.pick h k (some b) = none) := Lib.hid (pick_no (fun g => hlen g.1))
      generalize h.len k = N at *
      have t1 : ((b.length : Int) != 4 + (N : Int)) = true := by simp; omega
      clear hlen
      go_enter Tryd.func38, Tryd.ntmps38
      go_wp2_with fail
      rw [HW1.out]
      refine wp_region_class (w0 := w1) (by kernel_rfl) (by kernel_rfl) (Below.refl _ _) ?_
      repeat (first | go_big_quiet_step (first | (go_at_call 18; exact calls_class (HKEY.out _)) | (go_at_call 32; exact calls_class_s (HGET.out _))))
      refine wpQuiet_nil ?_
      intro w2 hb2; replace hb2 := BW.of hb2
      have HB2 := Lib.hid (HB1.out.trans (hb2.mono HB1.out.size))
      obtain ⟨c0, c1, c2, c3⟩ := VS.out w2 hb2
      clear hb2
      go_wp2_with fail
      have HLC := Lib.hid (fun W : BW w2 => HLN.out W.w)
      refine wp_region_class (w0 := w2) (by kernel_rfl) (by kernel_rfl) (Below.refl _ _) ?_
      have m0 := BW.cell c0
      have m1 := BW.cell c1
      have m2 := BW.cell c2
      have m3 := BW.cell c3
      repeat (first | go_big_quiet_step ((go_at_call 36; exact calls_class (HLC.out _))))
      refine wpQuiet_nil ?_
      intro w3 hb3; replace hb3 := BW.of hb3
      have HB3 := Lib.hid (HB2.out.trans (hb3.mono HB2.out.size))
      clear hb3 c0 c1 c2 c3 m0 m1 m2 m3
      go_wp2
      go_ret2
      exact ⟨.inl ⟨HP.out, rfl⟩, HB3.out⟩
    have HLEN := Lib.hid hlen
    generalize hNN : b.length = NN at *
    have HPY := Lib.hid (fun (g : Codec.four (Codec.sum (b.drop 4)) = b.take 4) => pick_yes (h := h) (k := k) (b := b) ⟨by rw [hNN]; exact hlen, g⟩)
    have HPN := Lib.hid (fun (g : ¬ Codec.four (Codec.sum (b.drop 4)) = b.take 4) => pick_no (h := h) (k := k) (b := b) (fun q => g q.2))
    generalize h.len k = N at *
    subst hlen
    have hsl : ∀ W, (Instr.slice 22 (.slice a (4 + N) c) (some (.int .i64 4)) none none).run Tryd.prog W = .ok (.slice (subA a c 4) N (c - 4)) W := fun W => by
      have := slice_l a (4 + N) c (lo := 4) (lo' := 4) rfl (by omega) W
      rw [this, Nat.add_sub_cancel_left]
    have hsh : ∀ W, (Instr.slice 22 (.slice a (4 + N) c) none (some (.int .i64 4)) none).run Tryd.prog W = .ok (.slice a 4 c) W := fun W => slice_h a (4 + N) c (hi := 4) (hi' := 4) rfl (by omega) W
    have HDR : Hid (Bs w (subA a c 4) N (c - 4) (b.drop 4)) := Lib.hid (by have := HBS0.out.drop (k := 4) (by omega); rwa [Nat.add_sub_cancel_left] at this)
    have HTK : Hid (Bs w a 4 c (b.take 4)) := Lib.hid (HBS0.out.take (by omega))
    have HNL : Hid ((b.drop 4).length = N) := Lib.hid (by rw [List.length_drop, hNN]; omega)
    generalize subA a c 4 = ab at *
    generalize c - 4 = cb at *
    generalize hD : b.drop 4 = dl at *
    generalize hT : b.take 4 = tk at *
    clear hNN hD hT HLEN HBS0
    have t4 : (4 + (N : Int) != 4 + (N : Int)) = false := by simp
    have e4 : IntKind.i64.wrap (4 + (N : Int)) = 4 + (N : Int) := by rw [IntKind.wrap_i64]; omega
    by_cases hsum : Codec.four (Codec.sum dl) = tk
    case pos =>
      have t5 : decide (Codec.four (Codec.sum dl) = tk) = true := decide_eq_true hsum
      have HP := Lib.hid (HPY.out hsum)
      clear hsum
      go_enter Tryd.func38, Tryd.ntmps38
      go_wp2_with fail
      rw [HW1.out]
      refine wp_region_class (w0 := w1) (by kernel_rfl) (by kernel_rfl) (Below.refl _ _) ?_
      repeat (first | go_big_quiet_step (first | (go_at_call 18; exact calls_class (HKEY.out _)) | (go_at_call 32; exact calls_class_s (HGET.out _))))
      refine wpQuiet_nil ?_
      intro w2 hb2; replace hb2 := BW.of hb2
      have HB2 := Lib.hid (HB1.out.trans (hb2.mono HB1.out.size))
      obtain ⟨c0, c1, c2, c3⟩ := VS.out w2 hb2
      clear hb2
      go_wp2_with fail
      refine wp_region_steps [22] 22 22 (by kernel_rfl) (by kernel_rfl) rfl (fun W' => ∃ V : BW w2, W' = V.w) ?_
      refine anyT_pull [0, 1, 2, 3, 4, 5, 6] 22 15 (by intro c a d v w h; cases d <;> exact h) (by kernel_rfl) ⟨⟨w2.drew, (Below.refl _ _).drew⟩, rfl⟩ ?_
      simp only [opsAt, List.filterMap_cons, List.filterMap_nil, List.getElem?_cons_zero, List.getElem?_cons_succ]
      iterate 7
        apply held_step
        · kernel_rfl
        · rintro _ ⟨V, rfl⟩
          have m0 := BW.cell c0 V
          have m1 := BW.cell c1 V
          have m2 := BW.cell c2 V
          have m3 := BW.cell c3 V
          go_simp
          rfl
      refine held_nil ?_
      apply anyT_one 7
      · rfl
      · kernel_rfl
      · kernel_rfl
      intro K hK
      go_simp
      refine (HLN.out _).mono ?_
      rintro e w3 ⟨rfl, hb3⟩
      have HB3 : Hid (Below w2.heap.size w2 w3) := Lib.hid ((Below.refl _ _).drew.trans hb3)
      refine hK _ _ ⟨⟨w3, HB3.out⟩, rfl⟩ ?_
      clear hK hb3
      refine anyT_pull [8, 9, 10, 11, 12, 13, 18, 19, 20] 22 5 (by intro c a d v w h; cases d <;> exact h) (by kernel_rfl) ⟨⟨w3, HB3.out⟩, rfl⟩ ?_
      simp only [opsAt, List.filterMap_cons, List.filterMap_nil, List.getElem?_cons_zero, List.getElem?_cons_succ]
      iterate 9
        apply held_step
        · kernel_rfl
        · rintro _ ⟨V, rfl⟩
          have cv := conv_bytes (HTK.out.below (HB2.out.trans (V.b.mono HB2.out.size)))
          go_simp
          (try rw [e4]) <;> (try rw [t4]) <;> (try rfl)
      refine held_nil ?_
      apply anyT_one 14
      · rfl
      · kernel_rfl
      · kernel_rfl
      intro K hK
      go_simp
      have HB4 : Hid (Below w2.heap.size w2 (w3.alloc (.cells #[.slice ab N cb] 22))) := Lib.hid (HB3.out.alloc HB3.out.size _)
      refine hK _ _ ⟨⟨_, HB4.out⟩, rfl⟩ ?_
      clear hK
      apply anyT_one 15
      · rfl
      · kernel_rfl
      · kernel_rfl
      intro K hK
      go_simp
      refine (sum_any _ 1 1 [dl] _ (Bss.one (HDR.out.below (HB2.out.trans (HB3.out.mono HB2.out.size))))).mono ?_
      rintro e w5 ⟨rfl, hb5⟩
      rw [show ([dl] : List (List UInt8)).flatten = dl by simp]
      have HB5 : Hid (Below w2.heap.size w2 w5) := Lib.hid (HB4.out.trans (hb5.mono HB4.out.size))
      refine hK _ _ ⟨⟨_, HB5.out⟩, rfl⟩ ?_
      clear hK hb5
      apply anyT_one 16
      · rfl
      · kernel_rfl
      · kernel_rfl
      intro K hK
      go_simp
      refine (pfour_any w5.heap.size none 0 0 [] (Codec.sum dl) _ (Nat.le_refl _) (Own.nil _ _) (by omega)).mono ?_
      rintro e w6 ⟨a6, n6, c6, rfl, ho6, hb6, hev6⟩
      have HB6 : Hid (Below w2.heap.size w2 w6) := Lib.hid (HB5.out.trans (hb6.mono HB5.out.size))
      have cv6 := conv_bytes ho6.bs
      rw [List.nil_append] at cv6
      refine hK _ _ ⟨⟨_, HB6.out⟩, rfl⟩ ?_
      clear hK hb6 ho6 hev6
      apply anyT_one 17
      · rfl
      · kernel_rfl
      · kernel_rfl
      intro K hK
      go_simp
      refine hK _ _ ⟨⟨_, HB6.out⟩, rfl⟩ ?_
      clear hK cv6
      refine anyT_pull [21] 22 0 (by intro c a d v w h; cases d <;> exact h) (by kernel_rfl) ⟨⟨_, HB6.out⟩, rfl⟩ ?_
      simp only [opsAt, List.filterMap_cons, List.filterMap_nil, List.getElem?_cons_zero, List.getElem?_cons_succ]
      apply held_step
      · kernel_rfl
      · rintro _ ⟨V, rfl⟩
        go_simp
        (try rw [t5]) <;> (try rfl)
      refine held_nil ?_
      refine anyT_done (by kernel_rfl) ?_
      simp only [opsAt, List.filterMap_cons, List.filterMap_nil, List.getElem?_cons_zero, List.getElem?_cons_succ]
      have HBE := Lib.hid (HB2.out.trans (HB6.out.mono HB2.out.size))
      clear c0 c1 c2 c3
      go_wp2
      go_ret2
      exact ⟨.inr ⟨ab, cb, dl, HP.out, by rw [HNL.out]; rfl, by rw [HNL.out]; exact HDR.out.below HBE.out⟩, HBE.out⟩
    case neg =>
      have t5 : decide (Codec.four (Codec.sum dl) = tk) = false := decide_eq_false hsum
      have HP := Lib.hid (HPN.out hsum)
      clear hsum
      go_enter Tryd.func38, Tryd.ntmps38
      go_wp2_with fail
      rw [HW1.out]
      refine wp_region_class (w0 := w1) (by kernel_rfl) (by kernel_rfl) (Below.refl _ _) ?_
      repeat (first | go_big_quiet_step (first | (go_at_call 18; exact calls_class (HKEY.out _)) | (go_at_call 32; exact calls_class_s (HGET.out _))))
      refine wpQuiet_nil ?_
      intro w2 hb2; replace hb2 := BW.of hb2
      have HB2 := Lib.hid (HB1.out.trans (hb2.mono HB1.out.size))
      obtain ⟨c0, c1, c2, c3⟩ := VS.out w2 hb2
      clear hb2
      go_wp2_with fail
      refine wp_region_steps [22] 22 22 (by kernel_rfl) (by kernel_rfl) rfl (fun W' => ∃ V : BW w2, W' = V.w) ?_
      refine anyT_pull [0, 1, 2, 3, 4, 5, 6] 22 15 (by intro c a d v w h; cases d <;> exact h) (by kernel_rfl) ⟨⟨w2.drew, (Below.refl _ _).drew⟩, rfl⟩ ?_
      simp only [opsAt, List.filterMap_cons, List.filterMap_nil, List.getElem?_cons_zero, List.getElem?_cons_succ]
      iterate 7
        apply held_step
        · kernel_rfl
        · rintro _ ⟨V, rfl⟩
          have m0 := BW.cell c0 V
          have m1 := BW.cell c1 V
          have m2 := BW.cell c2 V
          have m3 := BW.cell c3 V
          go_simp
          rfl
      refine held_nil ?_
      apply anyT_one 7
      · rfl
      · kernel_rfl
      · kernel_rfl
      intro K hK
      go_simp
      refine (HLN.out _).mono ?_
      rintro e w3 ⟨rfl, hb3⟩
      have HB3 : Hid (Below w2.heap.size w2 w3) := Lib.hid ((Below.refl _ _).drew.trans hb3)
      refine hK _ _ ⟨⟨w3, HB3.out⟩, rfl⟩ ?_
      clear hK hb3
      refine anyT_pull [8, 9, 10, 11, 12, 13, 18, 19, 20] 22 5 (by intro c a d v w h; cases d <;> exact h) (by kernel_rfl) ⟨⟨w3, HB3.out⟩, rfl⟩ ?_
      simp only [opsAt, List.filterMap_cons, List.filterMap_nil, List.getElem?_cons_zero, List.getElem?_cons_succ]
      iterate 9
        apply held_step
        · kernel_rfl
        · rintro _ ⟨V, rfl⟩
          have cv := conv_bytes (HTK.out.below (HB2.out.trans (V.b.mono HB2.out.size)))
          go_simp
          (try rw [e4]) <;> (try rw [t4]) <;> (try rfl)
      refine held_nil ?_
      apply anyT_one 14
      · rfl
      · kernel_rfl
      · kernel_rfl
      intro K hK
      go_simp
      have HB4 : Hid (Below w2.heap.size w2 (w3.alloc (.cells #[.slice ab N cb] 22))) := Lib.hid (HB3.out.alloc HB3.out.size _)
      refine hK _ _ ⟨⟨_, HB4.out⟩, rfl⟩ ?_
      clear hK
      apply anyT_one 15
      · rfl
      · kernel_rfl
      · kernel_rfl
      intro K hK
      go_simp
      refine (sum_any _ 1 1 [dl] _ (Bss.one (HDR.out.below (HB2.out.trans (HB3.out.mono HB2.out.size))))).mono ?_
      rintro e w5 ⟨rfl, hb5⟩
      rw [show ([dl] : List (List UInt8)).flatten = dl by simp]
      have HB5 : Hid (Below w2.heap.size w2 w5) := Lib.hid (HB4.out.trans (hb5.mono HB4.out.size))
      refine hK _ _ ⟨⟨_, HB5.out⟩, rfl⟩ ?_
      clear hK hb5
      apply anyT_one 16
      · rfl
      · kernel_rfl
      · kernel_rfl
      intro K hK
      go_simp
      refine (pfour_any w5.heap.size none 0 0 [] (Codec.sum dl) _ (Nat.le_refl _) (Own.nil _ _) (by omega)).mono ?_
      rintro e w6 ⟨a6, n6, c6, rfl, ho6, hb6, hev6⟩
      have HB6 : Hid (Below w2.heap.size w2 w6) := Lib.hid (HB5.out.trans (hb6.mono HB5.out.size))
      have cv6 := conv_bytes ho6.bs
      rw [List.nil_append] at cv6
      refine hK _ _ ⟨⟨_, HB6.out⟩, rfl⟩ ?_
      clear hK hb6 ho6 hev6
      apply anyT_one 17
      · rfl
      · kernel_rfl
      · kernel_rfl
      intro K hK
      go_simp
      refine hK _ _ ⟨⟨_, HB6.out⟩, rfl⟩ ?_
      clear hK cv6
      refine anyT_pull [21] 22 0 (by intro c a d v w h; cases d <;> exact h) (by kernel_rfl) ⟨⟨_, HB6.out⟩, rfl⟩ ?_
      simp only [opsAt, List.filterMap_cons, List.filterMap_nil, List.getElem?_cons_zero, List.getElem?_cons_succ]
      apply held_step
      · kernel_rfl
      · rintro _ ⟨V, rfl⟩
        go_simp
        (try rw [t5]) <;> (try rfl)
      refine held_nil ?_
      refine anyT_done (by kernel_rfl) ?_
      simp only [opsAt, List.filterMap_cons, List.filterMap_nil, List.getElem?_cons_zero, List.getElem?_cons_succ]
      have HBE := Lib.hid (HB2.out.trans (HB6.out.mono HB2.out.size))
      clear c0 c1 c2 c3
      go_wp2
      go_ret2
      exact ⟨.inl ⟨HP.out, rfl⟩, HBE.out⟩
end Go.Proofs.YtkbfefooaajhkaaDoor
