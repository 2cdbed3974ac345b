/- Look, the program's. -/
import Derived.Test.YtkbfefooaajhkaaDoorExL
import Derived.Handy
set_option maxRecDepth 100000
set_option linter.unusedVariables false
set_option linter.unusedSimpArgs false
namespace Go.Proofs.YtkbfefooaajhkaaDoor
open Go.RowKit

theorem get_nil (bk : Nat) (w : World) : (nilAhead 245 24 (.pointer (some ⟨bk, 0, none⟩)) "Get").run Tryd.prog w = .ok (some false) w := by kernel_rfl
theorem get_fn (bk : Nat) (w : World) : (method 245 24 (.pointer (some ⟨bk, 0, none⟩)) "Get").run Tryd.prog w = .ok (32, .pointer (some ⟨bk, 0, none⟩)) w := by kernel_rfl
def src (bk : Nat) : Value := .iface 24 (.pointer (some ⟨bk, 0, none⟩))
theorem set4 {w : World} {b : Nat} {t : TypeId} {x0 x1 x2 x3 : Value} (v0 v1 v2 v3 : Value) (h : w.heap[b]? = some (.cells #[x0, x1, x2, x3] t (0, 0))) :
    ((((w.setCell ⟨b, 0, none⟩ v0).setCell ⟨b, 1, none⟩ v1).setCell ⟨b, 2, none⟩ v2).setCell ⟨b, 3, none⟩ v3).heap[b]? = some (.cells #[v0, v1, v2, v3] t (0, 0)) ∧ Oth (some ⟨b, 0, none⟩) w ((((w.setCell ⟨b, 0, none⟩ v0).setCell ⟨b, 1, none⟩ v1).setCell ⟨b, 2, none⟩ v2).setCell ⟨b, 3, none⟩ v3) :=
  ⟨heap_set (heap_set (heap_set (heap_set h))), (((oth_setAt w b 0 v0).trans (oth_setAt _ b 1 v1)).trans (oth_setAt _ b 2 v2)).trans (oth_setAt _ b 3 v3)⟩
theorem cells4 {w : World} {b : Nat} {t : TypeId} {v0 v1 v2 v3 : Value} (h : w.heap[b]? = some (.cells #[v0, v1, v2, v3] t (0, 0))) :
    w.cell? ⟨b, 0, none⟩ = some v0 ∧ w.cell? ⟨b, 1, none⟩ = some v1 ∧ w.cell? ⟨b, 2, none⟩ = some v2 ∧ w.cell? ⟨b, 3, none⟩ = some v3 ∧ ∀ j, w.frozen? ⟨b, j, none⟩ = false :=
  ⟨(cell_of_row _ _ 0 _ _ _ h).trans rfl, (cell_of_row _ _ 1 _ _ _ h).trans rfl, (cell_of_row _ _ 2 _ _ _ h).trans rfl, (cell_of_row _ _ 3 _ _ _ h).trans rfl, fun j => by simp [World.frozen?, h]⟩
theorem shl_int (x : UInt32) (k : Nat) (hk : k < 32) : n32 x * ((2 ^ k : Nat) : Int) % 4294967296 = n32 (x <<< UInt32.ofNat k) := by
  unfold n32
  rw [UInt32.toNat_shiftLeft, UInt32.toNat_ofNat', Nat.mod_eq_of_lt (a := k) (by omega), Nat.mod_eq_of_lt (a := k) (by omega), Nat.shiftLeft_eq]
  rw [← Int.natCast_mul]
  exact (Int.natCast_emod _ _).symm
theorem rf4_int (a b c d : UInt8) : bits .or .u32 (bits .or .u32 (bits .or .u32 (n32 a.toUInt32) (n32 b.toUInt32 * 256 % 4294967296)) (n32 c.toUInt32 * 65536 % 4294967296)) (n32 d.toUInt32 * 16777216 % 4294967296) = n32 (Codec.rf4 a b c d) := by
  have h1 := shl_int b.toUInt32 8 (by decide)
  have h2 := shl_int c.toUInt32 16 (by decide)
  have h3 := shl_int d.toUInt32 24 (by decide)
  rw [show ((2 ^ 8 : Nat) : Int) = 256 from rfl] at h1
  rw [show ((2 ^ 16 : Nat) : Int) = 65536 from rfl] at h2
  rw [show ((2 ^ 24 : Nat) : Int) = 16777216 from rfl] at h3
  rw [h1, h2, h3, or32, or32, or32]
  rfl
theorem arr_step {A : Array Value} {k j : Nat} {f : Nat → Nat} {v : Value} (h : ∀ j, j < k → A[j]? = some (.int .u64 (f j : Nat))) (hk : k < A.size) (hv : Value.int .u64 (f k : Nat) = v) (hj : j < k + 1) : (A.setIfInBounds k v)[j]? = some (.int .u64 (f j : Nat)) := by
  rw [Array.getElem?_setIfInBounds]
  split
  · rename_i e; subst e; first | rw [if_pos hk, hv] | rw [hv]
  · exact h j (by omega)
theorem okB_bad {b : List UInt8} {k : Nat} (hk : k < 3) (h : Ex.bad b k ≠ 0) : Ex.okB b = false := by
  refine decide_eq_false fun ⟨h0, h1, h2, _⟩ => ?_
  obtain rfl | rfl | rfl : k = 0 ∨ k = 1 ∨ k = 2 := by omega
  · exact h h0
  · exact h h1
  · exact h h2
theorem okB_tail {b : List UInt8} {nk : Nat} (hn : (Ex.rest b 3).length = nk) (h : ¬ (nk = 4 ∧ Ex.num b 0 ≤ 1073741824 ∧ 1 ≤ Ex.num b 1 ∧ Ex.num b 1 ≤ 16777216 ∧ Ex.num b 2 ≤ 1073741824)) : Ex.okB b = false :=
  decide_eq_false fun ⟨_, _, _, h3, h4⟩ => h ⟨by omega, h4⟩
theorem okB_all {b : List UInt8} {nk : Nat} (hg : ∀ j, j < 3 → Ex.bad b j = 0) (hn : (Ex.rest b 3).length = nk) (h : nk = 4 ∧ Ex.num b 0 ≤ 1073741824 ∧ 1 ≤ Ex.num b 1 ∧ Ex.num b 1 ≤ 16777216 ∧ Ex.num b 2 ≤ 1073741824) : Ex.okB b = true :=
  decide_eq_true ⟨hg 0 (by decide), hg 1 (by decide), hg 2 (by decide), by omega, h.2⟩
set_option maxHeartbeats 4000000 in
theorem look_any (bk id : Nat) (L : List Wr) (w : World) (hu : U64 id) (h : KeysAt w bk L) (hL : Laid w) :
    Calls Tryd.prog 24 #[src bk, .int .u64 id] w fun e w' => e = .returned (LookV (Ex.look L id)) ∧ Below w.heap.size w w' := by
  obtain ⟨v, hv, hg⟩ := get_any bk L (Ex.key id) w h
  have HG := Lib.hid hg
  have HLD := Lib.hid hL
  unfold src
  clear hg hL h
  have hlk : Ex.look L id = Ex.read (Kv.get L (Ex.key id)) := rfl
  rw [hlk]
  clear hlk
  have gn := fun w => get_nil bk w
  have gf := fun w => get_fn bk w
  rcases hv with ⟨hno, rfl⟩ | ⟨a, c, b, hyes, rfl, hbs⟩
  · rw [hno]
    clear hno
    go_enter Tryd.func24, Tryd.ntmps24
    go_wp2_with fail
    generalize hw0 : w.alloc (.cells #[.int .i64 0, .int .i64 0, .int .i64 0, .int .u32 0] 52) = w0
    have hb0 : Below w.heap.size w w0 := by rw [← hw0]; exact below_alloc1 _ _
    have hr0 : w0.heap[w.heap.size]? = some (.cells #[.int .i64 0, .int .i64 0, .int .i64 0, .int .u32 0] 52 (0, 0)) := by rw [← hw0]; exact heap_alloc_new _ _
    have HB0 := Lib.hid hb0
    have HR0 := Lib.hid hr0
    have HLD0 := Lib.hid (HLD.out.below hb0)
    clear hr0 hb0 hw0
    have HKEY := Lib.hid (fun W : BW w0 => key_any id hu W.w (HLD0.out.below W.b))
    have HGET := Lib.hid (fun W : BW w0 => HG.out W.w (HB0.out.trans (W.b.mono HB0.out.size)))
    refine wp_region_class (w0 := w0) (by kernel_rfl) (by kernel_rfl) (Below.refl _ _) ?_
    repeat (first | go_big_quiet_step (first | (go_at_call 16; exact calls_class (HKEY.out _)) | (go_at_call 32; exact calls_class_s (HGET.out _))))
    refine wpQuiet_nil ?_
    intro w1 hb1; replace hb1 := BW.of hb1
    have hr1 := (hb1.block _ (Array.getElem?_eq_some_iff.1 HR0.out).1).trans HR0.out
    have HB1 := Lib.hid (HB0.out.trans (hb1.mono HB0.out.size))
    have HR1 := Lib.hid hr1
    obtain ⟨k0, k1, k2, k3, kf⟩ := cells4 hr1
    clear hb1 hr1
    go_wp2
    obtain ⟨hs, hoth⟩ := set4 (.int .i64 0) (.int .i64 0) (.int .i64 0) (.int .u32 0) HR1.out
    have hbb := HB1.out.trans (hoth.below HB1.out.size (fun x hx => by cases hx; exact Nat.le_refl _))
    generalize World.setCell _ _ _ = W9 at *
    obtain ⟨q0, q1, q2, q3, _⟩ := cells4 hs
    exact bodyPost_ret (v := .tuple #[.agg #[.int .i64 0, .int .i64 0, .int .i64 0, .int .u32 0], .int .i64 4]) (by simp [results, Tryd.results24, go_sem, q0, q1, q2, q3]) rfl ⟨rfl, hbb⟩
  · rw [hyes]
    clear hyes
    have HBS0 := Lib.hid hbs
    have hbl := hbs.le.1
    clear hbs
    go_enter Tryd.func24, Tryd.ntmps24
    go_wp2_with fail
    generalize hw0 : w.alloc (.cells #[.int .i64 0, .int .i64 0, .int .i64 0, .int .u32 0] 52) = w0
    have hb0 : Below w.heap.size w w0 := by rw [← hw0]; exact below_alloc1 _ _
    have hr0 : w0.heap[w.heap.size]? = some (.cells #[.int .i64 0, .int .i64 0, .int .i64 0, .int .u32 0] 52 (0, 0)) := by rw [← hw0]; exact heap_alloc_new _ _
    have HB0 := Lib.hid hb0
    have HR0 := Lib.hid hr0
    have HLD0 := Lib.hid (HLD.out.below hb0)
    clear hr0 hb0 hw0
    have HKEY := Lib.hid (fun W : BW w0 => key_any id hu W.w (HLD0.out.below W.b))
    have HGET := Lib.hid (fun W : BW w0 => HG.out W.w (HB0.out.trans (W.b.mono HB0.out.size)))
    refine wp_region_class (w0 := w0) (by kernel_rfl) (by kernel_rfl) (Below.refl _ _) ?_
    repeat (first | go_big_quiet_step (first | (go_at_call 16; exact calls_class (HKEY.out _)) | (go_at_call 32; exact calls_class_s (HGET.out _))))
    refine wpQuiet_nil ?_
    intro w1 hb1; replace hb1 := BW.of hb1
    have hr1 := (hb1.block _ (Array.getElem?_eq_some_iff.1 HR0.out).1).trans HR0.out
    have HB1 := Lib.hid (HB0.out.trans (hb1.mono HB0.out.size))
    have HR1 := Lib.hid hr1
    have HLT1 : Hid (w.heap.size < w1.heap.size) := Lib.hid (Array.getElem?_eq_some_iff.1 hr1).1
    clear hb1 hr1
    go_wp2_with fail
    go_loopw [6, 26] (fun bv iv wr => ∃ (k nk ck : Nat) (ak : Option Addr) (A : Array Value), k ≤ 3 ∧ iv = .int .i64 k ∧ bv = .slice ak nk ck ∧ Hid (Bs w1 ak nk ck (Ex.rest b k)) ∧ Hid (wr.heap[w1.heap.size]? = some (.cells A 81 (0, 0)) ∧ A.size = 3 ∧ ∀ j, j < k → A[j]? = some (.int .u64 (Ex.num b j : Nat))) ∧ Hid (Below w1.heap.size w1 wr) ∧ Hid (∀ j, j < k → Ex.bad b j = 0)) (fun _ iv _ => 3 - (intOf iv).toNat)
    case atStart => exact ⟨0, b.length, c, a, _, Nat.zero_le _, rfl, rfl, Lib.hid (HBS0.out.below HB1.out), Lib.hid ⟨heap_alloc_new _ _, rfl, fun j hj => by omega⟩, Lib.hid (below_alloc1 _ _), Lib.hid (fun j hj => by omega)⟩
    case round =>
      obtain ⟨k, nk, ck, ak, A, hk, rfl, rfl, hbs, harr, hbel, hgood⟩ := hrel
      by_cases hk3 : k < 3
      · have HRN := Lib.hid (readnum_any ak nk ck (Ex.rest b k) wr (hbs.out.below hbel.out))
        have hdl := dec_le (Ex.rest b k)
        have hnk := hbs.out.1
        have hck := hbs.out.2.1
        have hlk := hbs.out.le.1
        have HNUM : Hid (Ex.num b k = (Codec.dec (Ex.rest b k)).1) := Lib.hid rfl
        have HBAD : Hid (Ex.bad b k = (Codec.dec (Ex.rest b k)).2.2) := Lib.hid rfl
        have HREST : Hid (Ex.rest b (k + 1) = (Ex.rest b k).drop (Codec.dec (Ex.rest b k)).2.1) := Lib.hid rfl
        by_cases hbad : (Codec.dec (Ex.rest b k)).2.2 = 0
        · rw [hbad] at HRN
          have hm : (Codec.dec (Ex.rest b k)).2.1 ≤ nk := by omega
          have HDR := Lib.hid (hbs.out.drop hm)
          rw [← HREST.out] at HDR
          generalize (Codec.dec (Ex.rest b k)).2.1 = m at *
          generalize hvv : (Codec.dec (Ex.rest b k)).1 = vv at *
          have hsl : ∀ W, (Instr.slice 22 (.slice ak nk ck) (some (.int .i64 (m : Int))) none none).run Tryd.prog W = .ok (.slice (subA ak ck m) (nk - m) (ck - m)) W := fun W => slice_l ak nk ck rfl hm W
          generalize subA ak ck m = ab at *
          generalize hnkm : nk - m = nkm at *
          generalize ck - m = ckm at *
          obtain ⟨h1, h2, h3⟩ := harr.out
          obtain ⟨v0, hv0⟩ : ∃ v, A[k]? = some v := ⟨_, Array.getElem?_eq_getElem (by omega)⟩
          have c1 : wr.cell? ⟨w1.heap.size, k, none⟩ = some v0 := (cell_of_row _ _ k _ _ _ h1).trans hv0
          have c2 : wr.frozen? ⟨w1.heap.size, k, none⟩ = false := by simp [World.frozen?, h1]
          have HH1 := Lib.hid h1
          have HH2 := Lib.hid h2
          have HH3 := Lib.hid h3
          have HBD := Lib.hid hbad
          have HVV := Lib.hid hvv
          clear hdl hnk hck hlk hbad hnkm h1 h2 h3 hv0 hvv
          go_wp2_with fail
          refine HRN.out.mono ?_
          rintro e w2 ⟨rfl, rfl⟩
          go_upto_region 11 with fail
          refine wp_region_order [0, 1, 2, 3, 4, 5] [] [6] [7] 7 (by intro c a d v w h; cases d <;> exact h) (by kernel_rfl) (by kernel_rfl) (fun W' => True) trivial ?_
          simp only [opsAt, List.filterMap_cons, List.filterMap_nil, List.getElem?_cons_zero, List.getElem?_cons_succ]
          iterate 6
            apply held_step
            · rfl
            · intro W _
              go_simp
              rfl
          refine held_nil ?_
          refine held_nil ?_
          refine walkS_step rfl (fun K hK => ?_)
          go_simp
          refine hK _ _ trivial ?_
          clear hK
          refine walkS_nil ?_
          go_wp2_with fail
          go_roundw
          case rel => exact ⟨k + 1, nkm, ckm, ab, A.setIfInBounds k (.int .u64 (vv : Nat)), by omega, by go_num, rfl, HDR, Lib.hid ⟨heap_set HH1.out, by simp [HH2.out], fun j hj => arr_step HH3.out (by rw [HH2.out]; omega) (by rw [HNUM.out]) hj⟩, Lib.hid (hbel.out.setCell (Nat.le_refl _) _).drew, Lib.hid (fun j hj => by
            rcases Nat.lt_or_ge j k with h | h
            · exact hgood.out j h
            · obtain rfl : j = k := by omega
              rw [HBAD.out, HBD.out])⟩
          case measure => simp [intOf]; omega
        · have HNO : Hid (Ex.read (some b) = (⟨0, 0, 0, 0⟩, 14)) := Lib.hid (read_no (okB_bad hk3 (by rw [HBAD.out]; exact hbad)))
          generalize (Codec.dec (Ex.rest b k)).1 = vv at *
          generalize (Codec.dec (Ex.rest b k)).2.1 = m at *
          generalize (Codec.dec (Ex.rest b k)).2.2 = er at *
          have t1 : ((er : Int) != 0) = true := by simp; omega
          have hr9 := (hbel.out.block _ HLT1.out).trans HR1.out
          have HB9 := Lib.hid (HB1.out.trans (hbel.out.mono HB1.out.size))
          have HR9 := Lib.hid hr9
          obtain ⟨k0, k1, k2, k3, kf⟩ := cells4 hr9
          clear hr9
          clear hnk hck hlk
          go_wp2_with fail
          refine HRN.out.mono ?_
          rintro e w2 ⟨rfl, rfl⟩
          go_wp2
          obtain ⟨hs, hoth⟩ := set4 (.int .i64 0) (.int .i64 0) (.int .i64 0) (.int .u32 0) HR9.out
          have hbb := HB9.out.trans (hoth.below HB9.out.size (fun x hx => by cases hx; exact Nat.le_refl _))
          generalize World.setCell _ _ _ = W9 at *
          obtain ⟨q0, q1, q2, q3, _⟩ := cells4 hs
          exact bodyPost_ret (v := .tuple #[.agg #[.int .i64 0, .int .i64 0, .int .i64 0, .int .u32 0], .int .i64 14]) (by simp [results, Tryd.results24, go_sem, q0, q1, q2, q3]) rfl ⟨by rw [HNO.out]; rfl, hbb⟩
      · obtain rfl : k = 3 := by omega
        obtain ⟨h1, h2, h3⟩ := harr.out
        have c0 : wr.cell? ⟨w1.heap.size, 0, none⟩ = some (.int .u64 (Ex.num b 0 : Nat)) := (cell_of_row _ _ 0 _ _ _ h1).trans (h3 0 (by decide))
        have c1 : wr.cell? ⟨w1.heap.size, 1, none⟩ = some (.int .u64 (Ex.num b 1 : Nat)) := (cell_of_row _ _ 1 _ _ _ h1).trans (h3 1 (by decide))
        have c2 : wr.cell? ⟨w1.heap.size, 2, none⟩ = some (.int .u64 (Ex.num b 2 : Nat)) := (cell_of_row _ _ 2 _ _ _ h1).trans (h3 2 (by decide))
        have hnk := hbs.out.1
        have HNOT := Lib.hid (fun h => read_no (okB_tail (b := b) (nk := nk) hnk h))
        have HYES := Lib.hid (fun h => okB_all (b := b) (nk := nk) hgood.out hnk h)
        have HHD : Hid (Ex.hd b = ⟨Ex.num b 0, Ex.num b 1, Ex.num b 2, Codec.rf4 (nth (Ex.rest b 3) 0) (nth (Ex.rest b 3) 1) (nth (Ex.rest b 3) 2) (nth (Ex.rest b 3) 3)⟩) := Lib.hid rfl
        have HBS3 := Lib.hid (hbs.out.below hbel.out)
        have hle3 := hbs.out.le.1
        have hr9 := (hbel.out.block _ HLT1.out).trans HR1.out
        have HB9 := Lib.hid (HB1.out.trans (hbel.out.mono HB1.out.size))
        have HR9 := Lib.hid hr9
        obtain ⟨k0, k1, k2, k3, kf⟩ := cells4 hr9
        clear hr9
        clear hnk h1 h2 h3
        generalize Ex.num b 0 = N0 at *
        generalize Ex.num b 1 = N1 at *
        generalize Ex.num b 2 = N2 at *
        by_cases d0 : nk = 4
        case neg =>
          have HNO := Lib.hid (HNOT.out (by omega))
          have t1 : ((nk : Int) != 4) = true := by simp; omega
          go_wp2
          obtain ⟨hs, hoth⟩ := set4 (.int .i64 0) (.int .i64 0) (.int .i64 0) (.int .u32 0) HR9.out
          have hbb := HB9.out.trans (hoth.below HB9.out.size (fun x hx => by cases hx; exact Nat.le_refl _))
          generalize World.setCell _ _ _ = W9 at *
          obtain ⟨q0, q1, q2, q3, _⟩ := cells4 hs
          exact bodyPost_ret (v := .tuple #[.agg #[.int .i64 0, .int .i64 0, .int .i64 0, .int .u32 0], .int .i64 14]) (by simp [results, Tryd.results24, go_sem, q0, q1, q2, q3]) rfl ⟨by rw [HNO.out]; rfl, hbb⟩
        subst d0
        by_cases d1 : N0 ≤ 1073741824
        case neg =>
          have HNO := Lib.hid (HNOT.out (by omega))
          have t2 : decide ((1073741824 : Int) < (N0 : Int)) = true := decide_eq_true (by omega)
          go_wp2
          obtain ⟨hs, hoth⟩ := set4 (.int .i64 0) (.int .i64 0) (.int .i64 0) (.int .u32 0) HR9.out
          have hbb := HB9.out.trans (hoth.below HB9.out.size (fun x hx => by cases hx; exact Nat.le_refl _))
          generalize World.setCell _ _ _ = W9 at *
          obtain ⟨q0, q1, q2, q3, _⟩ := cells4 hs
          exact bodyPost_ret (v := .tuple #[.agg #[.int .i64 0, .int .i64 0, .int .i64 0, .int .u32 0], .int .i64 14]) (by simp [results, Tryd.results24, go_sem, q0, q1, q2, q3]) rfl ⟨by rw [HNO.out]; rfl, hbb⟩
        have t2 : decide ((1073741824 : Int) < (N0 : Int)) = false := decide_eq_false (by omega)
        by_cases d2 : 1 ≤ N1
        case neg =>
          have HNO := Lib.hid (HNOT.out (by omega))
          have t3 : decide ((N1 : Int) < 1) = true := decide_eq_true (by omega)
          go_wp2
          obtain ⟨hs, hoth⟩ := set4 (.int .i64 0) (.int .i64 0) (.int .i64 0) (.int .u32 0) HR9.out
          have hbb := HB9.out.trans (hoth.below HB9.out.size (fun x hx => by cases hx; exact Nat.le_refl _))
          generalize World.setCell _ _ _ = W9 at *
          obtain ⟨q0, q1, q2, q3, _⟩ := cells4 hs
          exact bodyPost_ret (v := .tuple #[.agg #[.int .i64 0, .int .i64 0, .int .i64 0, .int .u32 0], .int .i64 14]) (by simp [results, Tryd.results24, go_sem, q0, q1, q2, q3]) rfl ⟨by rw [HNO.out]; rfl, hbb⟩
        have t3 : decide ((N1 : Int) < 1) = false := decide_eq_false (by omega)
        by_cases d3 : N1 ≤ 16777216
        case neg =>
          have HNO := Lib.hid (HNOT.out (by omega))
          have t4 : decide ((16777216 : Int) < (N1 : Int)) = true := decide_eq_true (by omega)
          go_wp2
          obtain ⟨hs, hoth⟩ := set4 (.int .i64 0) (.int .i64 0) (.int .i64 0) (.int .u32 0) HR9.out
          have hbb := HB9.out.trans (hoth.below HB9.out.size (fun x hx => by cases hx; exact Nat.le_refl _))
          generalize World.setCell _ _ _ = W9 at *
          obtain ⟨q0, q1, q2, q3, _⟩ := cells4 hs
          exact bodyPost_ret (v := .tuple #[.agg #[.int .i64 0, .int .i64 0, .int .i64 0, .int .u32 0], .int .i64 14]) (by simp [results, Tryd.results24, go_sem, q0, q1, q2, q3]) rfl ⟨by rw [HNO.out]; rfl, hbb⟩
        have t4 : decide ((16777216 : Int) < (N1 : Int)) = false := decide_eq_false (by omega)
        by_cases d4 : N2 ≤ 1073741824
        case neg =>
          have HNO := Lib.hid (HNOT.out (by omega))
          have t5 : decide ((1073741824 : Int) < (N2 : Int)) = true := decide_eq_true (by omega)
          go_wp2
          obtain ⟨hs, hoth⟩ := set4 (.int .i64 0) (.int .i64 0) (.int .i64 0) (.int .u32 0) HR9.out
          have hbb := HB9.out.trans (hoth.below HB9.out.size (fun x hx => by cases hx; exact Nat.le_refl _))
          generalize World.setCell _ _ _ = W9 at *
          obtain ⟨q0, q1, q2, q3, _⟩ := cells4 hs
          exact bodyPost_ret (v := .tuple #[.agg #[.int .i64 0, .int .i64 0, .int .i64 0, .int .u32 0], .int .i64 14]) (by simp [results, Tryd.results24, go_sem, q0, q1, q2, q3]) rfl ⟨by rw [HNO.out]; rfl, hbb⟩
        have t5 : decide ((1073741824 : Int) < (N2 : Int)) = false := decide_eq_false (by omega)
        have HOK := Lib.hid (read_yes (HYES.out ⟨rfl, d1, d2, d3, d4⟩))
        obtain ⟨bb, off, rfl, y0⟩ := HBS3.out.byte (i := 0) (by omega)
        obtain ⟨_, _, e1, y1⟩ := HBS3.out.byte (i := 1) (by omega)
        obtain ⟨_, _, e2, y2⟩ := HBS3.out.byte (i := 2) (by omega)
        obtain ⟨_, _, e3, y3⟩ := HBS3.out.byte (i := 3) (by omega)
        cases e1; cases e2; cases e3
        rw [Nat.add_zero] at y0
        generalize nth (Ex.rest b 3) 0 = x0 at *
        generalize nth (Ex.rest b 3) 1 = x1 at *
        generalize nth (Ex.rest b 3) 2 = x2 at *
        generalize nth (Ex.rest b 3) 3 = x3 at *
        have w0' : IntKind.i64.wrap (N0 : Int) = (N0 : Int) := by rw [IntKind.wrap_i64]; omega
        have w1' : IntKind.i64.wrap (N1 : Int) = (N1 : Int) := by rw [IntKind.wrap_i64]; omega
        have w2' : IntKind.i64.wrap (N2 : Int) = (N2 : Int) := by rw [IntKind.wrap_i64]; omega
        clear d1 d2 d3 d4
        go_upto_region 15 with fail
        refine wp_region_order [] [0, 1, 2, 3, 4, 5, 6, 7, 8, 9, 10, 11, 12, 13, 14, 15, 16, 17, 18, 19, 20, 21, 22, 23, 24, 25, 26, 27, 28, 29, 30, 31] [] [32, 33] 32 (by intro c a d v w h; cases d <;> exact h) (by kernel_rfl) (by kernel_rfl) (fun W' => ∃ V : BW wr, W' = V.w) ⟨⟨wr.drew, (Below.refl _ _).drew⟩, rfl⟩ ?_
        simp only [opsAt, List.filterMap_cons, List.filterMap_nil, List.getElem?_cons_zero, List.getElem?_cons_succ]
        refine held_nil ?_
        iterate 32
          apply held_step
          · rfl
          · rintro _ ⟨V, rfl⟩
            have m0 := BW.cell c0 V
            have m1 := BW.cell c1 V
            have m2 := BW.cell c2 V
            have n0 := BW.cell y0 V
            have n1 := BW.cell y1 V
            have n2 := BW.cell y2 V
            have n3 := BW.cell y3 V
            go_simp
            rfl
        refine held_nil ?_
        refine walkS_nil ?_
        go_wp2
        rw [rf4_int]
        obtain ⟨hs, hoth⟩ := set4 (.int .i64 (N0 : Nat)) (.int .i64 (N1 : Nat)) (.int .i64 (N2 : Nat)) (.int .u32 (n32 (Codec.rf4 x0 x1 x2 x3))) HR9.out
        have hbb := (HB9.out.trans (hoth.below HB9.out.size (fun x hx => by cases hx; exact Nat.le_refl _))).drew
        generalize World.setCell _ _ _ = W8 at *
        have hs' : W8.drew.heap[w.heap.size]? = _ := hs
        generalize W8.drew = W9 at *
        obtain ⟨q0, q1, q2, q3, _⟩ := cells4 hs'
        exact bodyPost_ret (v := .tuple #[.agg #[.int .i64 (N0 : Nat), .int .i64 (N1 : Nat), .int .i64 (N2 : Nat), .int .u32 (n32 (Codec.rf4 x0 x1 x2 x3))], .int .i64 0]) (by simp [results, Tryd.results24, go_sem, q0, q1, q2, q3]) rfl ⟨by rw [HOK.out, HHD.out]; rfl, hbb⟩
end Go.Proofs.YtkbfefooaajhkaaDoor
