/- Look, the reference's. -/
import Derived.Test.YtkbfefooaajhkaaDoorExLk
set_option maxRecDepth 100000
set_option linter.unusedVariables false
set_option linter.unusedSimpArgs false
namespace Go.Proofs.YtkbfefooaajhkaaDoor
open Go.RowKit

theorem Bs.notin {w w' : World} {a : Option Addr} {n c g : Nat} {l : List UInt8} {t : TypeId} {cs : Array Value} (h : Bs w a n c l) (ko : Oth (some ⟨g, 0, none⟩) w w') (hb : w.heap[g]? = some (.cells cs t (0, 0))) (hno : ∀ v ∈ cs.toList, ∀ z, v ≠ .int .u8 z) : Bs w' a n c l := by
  refine ⟨h.1, h.2.1, h.2.2.1, fun j v hj => ?_⟩
  obtain ⟨b, off, rfl, hc⟩ := h.2.2.2 j v hj
  have := List.mem_of_getElem? hj
  unfold vs at this
  obtain ⟨x, _, hx⟩ := List.mem_map.1 this
  subst hx
  refine ⟨b, off, rfl, cell_oth ko hc (fun e => ?_)⟩
  subst e
  rw [cell_of_row _ _ _ _ _ _ hb] at hc
  exact hno _ (by simpa using Array.mem_of_getElem? hc) _ rfl
/-- What Look has in memory: the result, the reader, the head. -/
structure LkS (w0 w : World) (g0 g1 g2 : Nat) (l : List UInt8) (er : Nat) (v0 v1 v2 v3 : Value) : Prop where
  r0 : w.heap[g0]? = some (.cells #[.int .i64 0, .int .i64 0, .int .i64 0, .int .u32 0] 55 (0, 0))
  rd : RdAt w g1 l er
  hh : w.heap[g2]? = some (.cells #[v0, v1, v2, v3] 55 (0, 0))
  bel : Below w0.heap.size w0 w
  n0 : w0.heap.size ≤ g0
  n1 : g0 < g1
  n2 : g1 < g2
theorem LkS.rint {w0 w w' : World} {g0 g1 g2 er er' : Nat} {l l' : List UInt8} {v0 v1 v2 v3 : Value} (h : LkS w0 w g0 g1 g2 l er v0 v1 v2 v3) (hr : RdAt w' g1 l' er') (ho : Oth (some ⟨g1, 0, none⟩) w w') : LkS w0 w' g0 g1 g2 l' er' v0 v1 v2 v3 :=
  ⟨(ho.block g0 (Array.getElem?_eq_some_iff.1 h.r0).1 (fun x hx => by cases hx; have := h.n1; show g1 ≠ g0; omega)).trans h.r0, hr,
   (ho.block g2 (Array.getElem?_eq_some_iff.1 h.hh).1 (fun x hx => by cases hx; have := h.n2; show g1 ≠ g2; omega)).trans h.hh,
   h.bel.trans (ho.below h.bel.size (fun x hx => by cases hx; have := h.n0; have := h.n1; show w0.heap.size ≤ g1; omega)), h.n0, h.n1, h.n2⟩
theorem LkS.other {w0 w w' : World} {g0 g1 g2 er : Nat} {l : List UInt8} {v0 v1 v2 v3 u0 u1 u2 u3 : Value} (h : LkS w0 w g0 g1 g2 l er v0 v1 v2 v3) (ho : Oth (some ⟨g2, 0, none⟩) w w') (hh : w'.heap[g2]? = some (.cells #[u0, u1, u2, u3] 55 (0, 0)))
    (hno : ∀ v ∈ [v0, v1, v2, v3], ∀ z, v ≠ .int .u8 z) : LkS w0 w' g0 g1 g2 l er u0 u1 u2 u3 := by
  have k1 := h.n1
  have k2 := h.n2
  obtain ⟨a, n, c, h1, h2⟩ := h.rd.row
  exact ⟨(ho.block g0 (Array.getElem?_eq_some_iff.1 h.r0).1 (fun x hx => by cases hx; show g2 ≠ g0; omega)).trans h.r0,
   ⟨a, n, c, (ho.block g1 (Array.getElem?_eq_some_iff.1 h1).1 (fun x hx => by cases hx; show g2 ≠ g1; omega)).trans h1, h2.notin ho h.hh hno⟩,
   hh, h.bel.trans (ho.below h.bel.size (fun x hx => by cases hx; have := h.n0; show w0.heap.size ≤ g2; omega)), h.n0, h.n1, h.n2⟩
theorem LkS.below {w0 w w' : World} {g0 g1 g2 er : Nat} {l : List UInt8} {v0 v1 v2 v3 : Value} (h : LkS w0 w g0 g1 g2 l er v0 v1 v2 v3) (k : Below w.heap.size w w') : LkS w0 w' g0 g1 g2 l er v0 v1 v2 v3 :=
  ⟨(k.block g0 (Array.getElem?_eq_some_iff.1 h.r0).1).trans h.r0, h.rd.below k, (k.block g2 (Array.getElem?_eq_some_iff.1 h.hh).1).trans h.hh, h.bel.trans (k.mono h.bel.size), h.n0, h.n1, h.n2⟩
theorem no_u8 {a b c : Int} {d : Value} (hd : ∀ z, d ≠ .int .u8 z) : ∀ v ∈ [Value.int .i64 a, .int .i64 b, .int .i64 c, d], ∀ z, v ≠ .int .u8 z := by
  intro v hv z e
  simp only [List.mem_cons, List.not_mem_nil, or_false] at hv
  rcases hv with rfl | rfl | rfl | rfl
  · cases e
  · cases e
  · cases e
  · exact hd z e
theorem r1_any (bk : Nat) (b : List UInt8) (w : World) (h : RdAt w bk b 0) :
    Calls Tryd.prog 46 #[.pointer (some ⟨bk, 0, none⟩), .int .u64 1073741824] w fun e w' => e = .returned (.int .i64 ((Ex.r1 b).1 : Nat)) ∧ RdAt w' bk (Ex.r1 b).2.1 (Ex.r1 b).2.2 ∧ Oth (some ⟨bk, 0, none⟩) w w' ∧ (Ex.r1 b).2.2 ≤ 20 :=
  rint_any 1073741824 bk b 0 w h (by decide) (by decide)
theorem r2_any (bk : Nat) (b : List UInt8) (w : World) (h : RdAt w bk (Ex.r1 b).2.1 (Ex.r1 b).2.2) (he : (Ex.r1 b).2.2 ≤ 20) :
    Calls Tryd.prog 46 #[.pointer (some ⟨bk, 0, none⟩), .int .u64 16777216] w fun e w' => e = .returned (.int .i64 ((Ex.r2 b).1 : Nat)) ∧ RdAt w' bk (Ex.r2 b).2.1 (Ex.r2 b).2.2 ∧ Oth (some ⟨bk, 0, none⟩) w w' ∧ (Ex.r2 b).2.2 ≤ 20 :=
  rint_any 16777216 bk _ _ w h he (by decide)
theorem r3_any (bk : Nat) (b : List UInt8) (w : World) (h : RdAt w bk (Ex.r2 b).2.1 (Ex.r2 b).2.2) (he : (Ex.r2 b).2.2 ≤ 20) :
    Calls Tryd.prog 46 #[.pointer (some ⟨bk, 0, none⟩), .int .u64 1073741824] w fun e w' => e = .returned (.int .i64 ((Ex.r3 b).1 : Nat)) ∧ RdAt w' bk (Ex.r3 b).2.1 (Ex.r3 b).2.2 ∧ Oth (some ⟨bk, 0, none⟩) w w' ∧ (Ex.r3 b).2.2 ≤ 20 :=
  rint_any 1073741824 bk _ _ w h he (by decide)
set_option maxHeartbeats 4000000 in
theorem rlook_any (bk id : Nat) (L : List Wr) (w : World) (hu : U64 id) (h : KeysAt w bk L) :
    Calls Tryd.prog 25 #[.pointer (some ⟨bk, 0, none⟩), .int .u64 id] w fun e w' => e = .returned (LookV (Ex.look L id)) ∧ Below w.heap.size w w' := by
  obtain ⟨v, hv, hg⟩ := get_any bk L (Ex.key id) w h
  have HG := Lib.hid hg
  clear hg h
  have hlk : Ex.look L id = Ex.read (Kv.get L (Ex.key id)) := rfl
  rw [hlk]
  clear hlk
  rcases hv with ⟨hno, rfl⟩ | ⟨a, c, b, hyes, rfl, hbs⟩
  · rw [hno]
    clear hno
    go_enter Tryd.func25, Tryd.ntmps25
    go_wp2_with fail
    refine (rkey_any id hu _).mono ?_
    rintro e w1 ⟨rfl, hb1⟩
    have HB1 := Lib.hid (((Below.refl _ _).alloc (Nat.le_refl _) _).trans (hb1.mono (le_alloc (Nat.le_refl _))))
    have hr1 : w1.heap[w.heap.size]? = some (.cells #[.int .i64 0, .int .i64 0, .int .i64 0, .int .u32 0] 55 (0, 0)) := (hb1.block _ (by simp)).trans (heap_alloc_new _ _)
    have HR1 := Lib.hid hr1
    obtain ⟨k0, k1, k2, k3, kf⟩ := cells4 hr1
    clear hb1 hr1
    go_wp2_with fail
    refine (HG.out _ HB1.out).mono ?_
    rintro e w2 ⟨rfl, rfl⟩
    go_wp2
    obtain ⟨hs, hoth⟩ := set4 (.int .i64 0) (.int .i64 0) (.int .i64 0) (.int .u32 0) HR1.out
    have hbb := HB1.out.trans (hoth.below HB1.out.size (fun x hx => by cases hx; exact Nat.le_refl _))
    generalize World.setCell _ _ _ = W9 at *
    obtain ⟨q0, q1, q2, q3, _⟩ := cells4 hs
    exact bodyPost_ret (v := .tuple #[.agg #[.int .i64 0, .int .i64 0, .int .i64 0, .int .u32 0], .int .i64 4]) (by simp [results, Tryd.results25, go_sem, q0, q1, q2, q3]) rfl ⟨rfl, hbb⟩
  · rw [hyes]
    clear hyes
    have HBS0 := Lib.hid hbs
    have HN0 := hbs.1
    have hbl := hbs.le.1
    have HIFF := Lib.hid (r3_ok b)
    have HVV := Lib.hid (r3_val (b := b))
    have HHD : Hid (Ex.hd b = ⟨Ex.num b 0, Ex.num b 1, Ex.num b 2, Codec.rf4 (nth (Ex.rest b 3) 0) (nth (Ex.rest b 3) 1) (nth (Ex.rest b 3) 2) (nth (Ex.rest b 3) 3)⟩) := Lib.hid rfl
    clear hbs
    go_enter Tryd.func25, Tryd.ntmps25
    go_wp2_with fail
    refine (rkey_any id hu _).mono ?_
    rintro e w1 ⟨rfl, hb1⟩
    have HB1 := Lib.hid (((Below.refl _ _).alloc (Nat.le_refl _) _).trans (hb1.mono (le_alloc (Nat.le_refl _))))
    have HR1 : Hid (w1.heap[w.heap.size]? = some (.cells #[.int .i64 0, .int .i64 0, .int .i64 0, .int .u32 0] 55 (0, 0))) := Lib.hid ((hb1.block _ (by simp)).trans (heap_alloc_new _ _))
    have HLT1 : Hid (w.heap.size < w1.heap.size) := Lib.hid (by have := hb1.size; simp at this; omega)
    clear hb1
    go_wp2_with fail
    refine (HG.out _ HB1.out).mono ?_
    rintro e w2 ⟨rfl, rfl⟩
    go_wp2_with fail
    obtain ⟨w3, hw3⟩ : ∃ w3, w3 = ((w1.alloc (.cells #[.slice a b.length c, .int .i64 0] 86)).alloc (.cells #[.int .i64 0, .int .i64 0, .int .i64 0, .int .u32 0] 55)) := ⟨_, rfl⟩
    have hb13 : Below w1.heap.size w1 w3 := by rw [hw3]; exact (below_alloc1 _ _).alloc (by simp) _
    have HS3 : Hid (LkS w w3 w.heap.size w1.heap.size (w1.heap.size + 1) b 0 (.int .i64 0) (.int .i64 0) (.int .i64 0) (.int .u32 0)) := Lib.hid
      ⟨(hb13.block _ HLT1.out).trans HR1.out, ⟨a, b.length, c, by rw [hw3]; exact (((below_alloc1 (w1.alloc (.cells #[.slice a b.length c, .int .i64 0] 86)) _).block w1.heap.size (by simp))).trans (heap_alloc_new _ _), (HBS0.out.below HB1.out).below hb13⟩,
       by rw [hw3]; have := heap_alloc_new (w1.alloc (.cells #[.slice a b.length c, .int .i64 0] 86)) (.cells #[.int .i64 0, .int .i64 0, .int .i64 0, .int .u32 0] 55); simpa using this,
       HB1.out.trans (hb13.mono HB1.out.size), Nat.le_refl _, HLT1.out, by omega⟩
    rw [← hw3]
    clear hb13 hw3
    refine (r1_any w1.heap.size b _ HS3.out.rd).mono ?_
    rintro e w4 ⟨rfl, hrd, ho, he1⟩
    have HS4 := Lib.hid (HS3.out.rint hrd ho)
    have HST4 := Lib.hid (HS4.out.other (oth_setAt w4 (w1.heap.size + 1) 0 (.int .i64 ((Ex.r1 b).1 : Nat))) (heap_set HS4.out.hh) (no_u8 (fun z e => by cases e)))
    obtain ⟨c0, c1, c2, c3, cf⟩ := cells4 HS4.out.hh
    clear hrd ho
    go_wp2_with fail
    clear c0 c1 c2 c3 cf
    refine (r2_any w1.heap.size b _ HST4.out.rd he1).mono ?_
    rintro e w5 ⟨rfl, hrd, ho, he2⟩
    have HS5 := Lib.hid (HST4.out.rint hrd ho)
    have HST5 := Lib.hid (HS5.out.other (oth_setAt w5 (w1.heap.size + 1) 1 (.int .i64 ((Ex.r2 b).1 : Nat))) (heap_set HS5.out.hh) (no_u8 (fun z e => by cases e)))
    obtain ⟨c0, c1, c2, c3, cf⟩ := cells4 HS5.out.hh
    clear hrd ho
    go_wp2_with fail
    clear c0 c1 c2 c3 cf
    refine (r3_any w1.heap.size b _ HST5.out.rd he2).mono ?_
    rintro e w6 ⟨rfl, hrd, ho, he3⟩
    have HS6 := Lib.hid (HST5.out.rint hrd ho)
    have HST6 := Lib.hid (HS6.out.other (oth_setAt w6 (w1.heap.size + 1) 2 (.int .i64 ((Ex.r3 b).1 : Nat))) (heap_set HS6.out.hh) (no_u8 (fun z e => by cases e)))
    obtain ⟨c0, c1, c2, c3, cf⟩ := cells4 HS6.out.hh
    clear hrd ho
    go_upto_region 9 with fail
    clear c0 c1 c2 c3 cf
    obtain ⟨w7, hw7⟩ : ∃ w7, w7 = w6.setCell ⟨w1.heap.size + 1, 2, none⟩ (.int .i64 ((Ex.r3 b).1 : Nat)) := ⟨_, rfl⟩
    rw [← hw7] at HST6
    rw [← hw7]
    clear hw7
    have HS9 := HST6
    obtain ⟨c0, c1, c2, c3, cf⟩ := cells4 HS9.out.hh
    obtain ⟨z0, z1, z2, z3, zf⟩ := cells4 HS9.out.r0
    obtain ⟨ar, nr, cr, hrr, hrb⟩ := HS9.out.rd.row
    have k0 : w7.cell? ⟨w1.heap.size, 0, none⟩ = some (.slice ar nr cr) := (cell_of_row _ _ 0 _ _ _ hrr).trans rfl
    have k1 : w7.cell? ⟨w1.heap.size, 1, none⟩ = some (.int .i64 ((Ex.r3 b).2.2 : Nat)) := (cell_of_row _ _ 1 _ _ _ hrr).trans rfl
    have hnr := hrb.1
    have HRB := Lib.hid hrb
    have hler := hrb.le.1
    clear hrr hrb
    by_cases d0 : (Ex.r3 b).2.2 = 0
    case neg =>
      have HNO : Hid (Ex.okB b = false) := Lib.hid (by
        cases hb : Ex.okB b with
        | false => rfl
        | true => exact absurd (HIFF.out.1 hb).1 d0)
      have t1 : (((Ex.r3 b).2.2 : Int) != 0) = true := by simp; omega
      go_wp2
      obtain ⟨hs, hoth⟩ := set4 (.int .i64 0) (.int .i64 0) (.int .i64 0) (.int .u32 0) HS9.out.r0
      have hbb := HS9.out.bel.trans (hoth.below HS9.out.bel.size (fun x hx => by cases hx; exact Nat.le_refl _))
      generalize World.setCell _ _ _ = W9 at *
      obtain ⟨q0, q1, q2, q3, _⟩ := cells4 hs
      exact bodyPost_ret (v := .tuple #[.agg #[.int .i64 0, .int .i64 0, .int .i64 0, .int .u32 0], .int .i64 14]) (by simp [results, Tryd.results25, go_sem, q0, q1, q2, q3]) rfl ⟨by rw [read_no HNO.out]; rfl, hbb⟩
    have t1 : (((Ex.r3 b).2.2 : Int) != 0) = false := by simp; omega
    by_cases d1 : 1 ≤ (Ex.r2 b).1
    case neg =>
      have HNO : Hid (Ex.okB b = false) := Lib.hid (by
        cases hb : Ex.okB b with
        | false => rfl
        | true => exact absurd (HIFF.out.1 hb).2.1 d1)
      have t2 : decide (((Ex.r2 b).1 : Int) < 1) = true := decide_eq_true (by omega)
      go_wp2
      obtain ⟨hs, hoth⟩ := set4 (.int .i64 0) (.int .i64 0) (.int .i64 0) (.int .u32 0) HS9.out.r0
      have hbb := HS9.out.bel.trans (hoth.below HS9.out.bel.size (fun x hx => by cases hx; exact Nat.le_refl _))
      generalize World.setCell _ _ _ = W9 at *
      obtain ⟨q0, q1, q2, q3, _⟩ := cells4 hs
      exact bodyPost_ret (v := .tuple #[.agg #[.int .i64 0, .int .i64 0, .int .i64 0, .int .u32 0], .int .i64 14]) (by simp [results, Tryd.results25, go_sem, q0, q1, q2, q3]) rfl ⟨by rw [read_no HNO.out]; rfl, hbb⟩
    have t2 : decide (((Ex.r2 b).1 : Int) < 1) = false := decide_eq_false (by omega)
    by_cases d2 : nr = 4
    case neg =>
      have HNO : Hid (Ex.okB b = false) := Lib.hid (by
        cases hb : Ex.okB b with
        | false => rfl
        | true => have := (HIFF.out.1 hb).2.2; omega)
      have t3 : ((nr : Int) != 4) = true := by simp; omega
      go_wp2
      obtain ⟨hs, hoth⟩ := set4 (.int .i64 0) (.int .i64 0) (.int .i64 0) (.int .u32 0) HS9.out.r0
      have hbb := HS9.out.bel.trans (hoth.below HS9.out.bel.size (fun x hx => by cases hx; exact Nat.le_refl _))
      generalize World.setCell _ _ _ = W9 at *
      obtain ⟨q0, q1, q2, q3, _⟩ := cells4 hs
      exact bodyPost_ret (v := .tuple #[.agg #[.int .i64 0, .int .i64 0, .int .i64 0, .int .u32 0], .int .i64 14]) (by simp [results, Tryd.results25, go_sem, q0, q1, q2, q3]) rfl ⟨by rw [read_no HNO.out]; rfl, hbb⟩
    subst d2
    have HOK : Hid (Ex.okB b = true) := Lib.hid (HIFF.out.2 ⟨d0, d1, by rw [hnr]⟩)
    obtain ⟨e1, e2, e3⟩ := HVV.out HOK.out
    have g1 : (Ex.r1 b).1 = Ex.num b 0 := by rw [e1]
    have g2 : (Ex.r2 b).1 = Ex.num b 1 := by rw [e2]
    have g3 : (Ex.r3 b).1 = Ex.num b 2 := by rw [e3]
    have g4 : (Ex.r3 b).2.1 = Ex.rest b 3 := by rw [e3]
    have HG4 := Lib.hid g4
    have HHO := Lib.hid (hd_ok HOK.out)
    rw [g1] at c0
    rw [g2] at c1 t2
    rw [g3] at c2
    have HH9 : Hid (w7.heap[w1.heap.size + 1]? = some (.cells #[.int .i64 (Ex.num b 0 : Nat), .int .i64 (Ex.num b 1 : Nat), .int .i64 (Ex.num b 2 : Nat), .int .u32 0] 55 (0, 0))) := Lib.hid (by have := HS9.out.hh; rw [g1, g2, g3] at this; exact this)
    clear e1 e2 e3 g1 g2 g3 g4 z0 z1 z2 z3 zf hnr
    go_wp2_with fail
    refine (readfour_any ar 4 cr _ _ HRB.out (Nat.le_refl _)).mono ?_
    rintro e w8 ⟨rfl, hb8⟩
    rw [HG4.out]
    have HS8 := Lib.hid (HS9.out.below hb8)
    have HH8 : Hid (w8.heap[w1.heap.size + 1]? = some (.cells #[.int .i64 (Ex.num b 0 : Nat), .int .i64 (Ex.num b 1 : Nat), .int .i64 (Ex.num b 2 : Nat), .int .u32 0] 55 (0, 0))) := Lib.hid ((hb8.block _ (Array.getElem?_eq_some_iff.1 HH9.out).1).trans HH9.out)
    clear hb8 c0 c1 c2 c3 cf k0 k1
    obtain ⟨c0, c1, c2, c3, cf⟩ := cells4 HH8.out
    obtain ⟨z0, z1, z2, z3, zf⟩ := cells4 HS8.out.r0
    generalize hX : Codec.rf4 (nth (Ex.rest b 3) 0) (nth (Ex.rest b 3) 1) (nth (Ex.rest b 3) 2) (nth (Ex.rest b 3) 3) = X at *
    have HSE := Lib.hid (HS8.out.other (oth_setAt w8 (w1.heap.size + 1) 3 (.int .u32 (n32 X))) (heap_set HH8.out) (no_u8 (fun z e => by cases e)))
    generalize Ex.num b 0 = N0 at *
    generalize Ex.num b 1 = N1 at *
    generalize Ex.num b 2 = N2 at *
    clear HST4 HST5 HST6 HS9 HS8 HS3 HS4 HS5 HS6 HIFF HVV
    go_upto_region 12 with fail
    clear c0 c1 c2 c3 cf z0 z1 z2 z3 zf
    obtain ⟨w9, hw9⟩ : ∃ w9, w9 = w8.setCell ⟨w1.heap.size + 1, 3, none⟩ (.int .u32 (n32 X)) := ⟨_, rfl⟩
    rw [← hw9] at HSE
    rw [← hw9]
    clear hw9
    obtain ⟨c0, c1, c2, c3, cf⟩ := cells4 HSE.out.hh
    obtain ⟨z0, z1, z2, z3, zf⟩ := cells4 HSE.out.r0
    go_wp2
    obtain ⟨hs, hoth⟩ := set4 (.int .i64 (N0 : Nat)) (.int .i64 (N1 : Nat)) (.int .i64 (N2 : Nat)) (.int .u32 (n32 X)) HSE.out.r0
    have hbb := HSE.out.bel.trans (hoth.below HSE.out.bel.size (fun x hx => by cases hx; exact Nat.le_refl _))
    generalize World.setCell _ _ _ = W9 at *
    obtain ⟨q0, q1, q2, q3, _⟩ := cells4 hs
    exact bodyPost_ret (v := .tuple #[.agg #[.int .i64 (N0 : Nat), .int .i64 (N1 : Nat), .int .i64 (N2 : Nat), .int .u32 (n32 X)], .int .i64 0]) (by simp [results, Tryd.results25, go_sem, q0, q1, q2, q3]) rfl ⟨by rw [read_yes HOK.out, HHD.out]; rfl, hbb⟩
end Go.Proofs.YtkbfefooaajhkaaDoor
