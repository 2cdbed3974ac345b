/- References, frees: the reference. -/
import Derived.Test.YtkbfefooaajhkaaDoorExRf
set_option maxRecDepth 100000
set_option linter.unusedVariables false
set_option linter.unusedSimpArgs false
namespace Go.Proofs.YtkbfefooaajhkaaDoor
open Go.RowKit

/-- The head's block is none of the row's. -/
theorem free_row {w w6 w8 : World} {B n c g : Nat} {a a' : Option Addr} {l : List Wr} {x0 x1 x2 x3 : Value} {o : Obj} (hb : Below w.heap.size w w6) (hev : Evol (w6.alloc o) a w8 a') (hacc : AccW w B a n c l) (hg : w.heap[g]? = some (.cells #[x0, x1, x2, x3] 55 (0, 0))) : w8.heap[g]? = some (.cells #[x0, x1, x2, x3] 55 (0, 0)) := by
  have hlt := (Array.getElem?_eq_some_iff.1 hg).1
  have h6 := (hb.block g hlt).trans hg
  have h7 : (w6.alloc o).heap[g]? = some (.cells #[x0, x1, x2, x3] 55 (0, 0)) := ((below_alloc1 w6 o).block g (Array.getElem?_eq_some_iff.1 h6).1).trans h6
  rw [hev.1.block g (Array.getElem?_eq_some_iff.1 h7).1 (fun e => ?_)]
  · exact h7
  · cases a with
    | none => cases e
    | some z =>
      have ez : g = z.block := by simpa using e
      obtain ⟨cs, h1, _⟩ := hacc.row
      rcases h1.2 with ⟨h2, _⟩ | ⟨g', cap, cur, h2, _, h3, _⟩
      · cases h2
      · cases h2
        subst ez
        rw [hg] at h3
        injection (Option.some.inj h3) with _ ht _
        exact absurd ht (by decide)
set_option maxHeartbeats 2000000 in
theorem rref_any (bk id : Nat) (L : List Wr) (z : Int) (w : World) (hu : U64 id) (h : KeysAt w bk L) (hz : -9223372036854775808 ≤ z ∧ z ≤ 9223372036854775807) :
    Calls Tryd.prog 29 #[.pointer (some ⟨bk, 0, none⟩), .int .u64 id, .int .i64 z] w (RetW (Ex.ref L id z).1 ((Ex.ref L id z).2 : Nat) w) := by
  have HLK := Lib.hid (rlook_any bk id L w hu h)
  have HOK := Lib.hid (read_ok (b := Kv.get L (Ex.key id)))
  have hp : Ex.ref L id z = Ex.refOf (Ex.look L id) id z := rfl
  rw [hp]
  clear hp
  have HOK2 : Hid ((Ex.look L id).2 = 0 → (Ex.look L id).1.Ok) := Lib.hid (fun h => (HOK.out h).1)
  have HKEY := Lib.hid (fun W (hb : Below w.heap.size w W) => rkey_any id hu W)
  have HMARK := Lib.hid (fun W (hb : Below w.heap.size w W) => rmark_any id hu W)
  generalize Ex.look L id = x at *
  clear HOK h
  obtain ⟨hd, er⟩ := x
  unfold LookV hval at HLK
  dsimp only at *
  by_cases h0 : er = 0
  case neg =>
    have HP := Lib.hid (refOf_err id z (x := (hd, er)) h0)
    have t1 : ((er : Int) != 0) = true := by simp; omega
    rw [HP.out]
    go_enter Tryd.func29, Tryd.ntmps29
    go_wp2_with fail
    refine HLK.out.mono ?_
    rintro e w1 ⟨rfl, hb1⟩
    have HB1 := Lib.hid hb1
    clear hb1
    go_wp2
    go_ret2
    exact retw_nil (HB1.out.alloc HB1.out.size _)
  subst h0
  have ok := HOK2.out rfl
  have HOK := Lib.hid ok
  obtain ⟨ok1, ok2, ok3, ok4⟩ := ok
  by_cases hz1 : z < -(hd.refs : Int)
  · have hz2 : z < -(hd.refs : Int) ∨ 1073741824 - (hd.refs : Int) < z := .inl hz1
    have HP := Lib.hid (refOf_arg (h := hd) id z hz2)
    rw [HP.out]
    have t2 : decide (z < 0 - (hd.refs : Int)) = true := decide_eq_true (by omega)
    have t2' : decide (z < -(hd.refs : Int)) = true := decide_eq_true (by omega)
    clear hz2
    go_enter Tryd.func29, Tryd.ntmps29
    go_wp2_with fail
    refine HLK.out.mono ?_
    rintro e w1 ⟨rfl, hb1⟩
    have hr2 := heap_alloc_new w1 (.cells #[.int .i64 hd.size, .int .i64 hd.chunk, .int .i64 hd.refs, .int .u32 (n32 hd.sum)] 55)
    obtain ⟨w2, hw2⟩ : ∃ w2, w1.alloc (.cells #[.int .i64 hd.size, .int .i64 hd.chunk, .int .i64 hd.refs, .int .u32 (n32 hd.sum)] 55) = w2 := ⟨_, rfl⟩
    have HB2 : Hid (Below w.heap.size w w2) := Lib.hid (by rw [← hw2]; exact hb1.alloc hb1.size _)
    rw [hw2] at hr2
    have HR2 := Lib.hid hr2
    have HG : Hid (w.heap.size ≤ w1.heap.size) := Lib.hid hb1.size
    have HW2 := Lib.hid hw2
    clear hw2 hb1
    go_upto_region 2 with fail
    rw [HW2.out]
    clear HW2
    obtain ⟨c0, c1, c2, c3, cf⟩ := cells4 hr2
    clear hr2
    go_wp2
    go_ret2
    exact retw_nil HB2.out
  by_cases hz3 : 1073741824 - (hd.refs : Int) < z
  · have hz2 : z < -(hd.refs : Int) ∨ 1073741824 - (hd.refs : Int) < z := .inr hz3
    have HP := Lib.hid (refOf_arg (h := hd) id z hz2)
    rw [HP.out]
    have t2 : decide (z < 0 - (hd.refs : Int)) = false := decide_eq_false (by omega)
    have t2' : decide (z < -(hd.refs : Int)) = false := decide_eq_false (by omega)
    have t3 : decide (1073741824 - (hd.refs : Int) < z) = true := decide_eq_true hz3
    clear hz2
    go_enter Tryd.func29, Tryd.ntmps29
    go_wp2_with fail
    refine HLK.out.mono ?_
    rintro e w1 ⟨rfl, hb1⟩
    have hr2 := heap_alloc_new w1 (.cells #[.int .i64 hd.size, .int .i64 hd.chunk, .int .i64 hd.refs, .int .u32 (n32 hd.sum)] 55)
    obtain ⟨w2, hw2⟩ : ∃ w2, w1.alloc (.cells #[.int .i64 hd.size, .int .i64 hd.chunk, .int .i64 hd.refs, .int .u32 (n32 hd.sum)] 55) = w2 := ⟨_, rfl⟩
    have HB2 : Hid (Below w.heap.size w w2) := Lib.hid (by rw [← hw2]; exact hb1.alloc hb1.size _)
    rw [hw2] at hr2
    have HR2 := Lib.hid hr2
    have HG : Hid (w.heap.size ≤ w1.heap.size) := Lib.hid hb1.size
    have HW2 := Lib.hid hw2
    clear hw2 hb1
    go_upto_region 2 with fail
    rw [HW2.out]
    clear HW2
    obtain ⟨c0, c1, c2, c3, cf⟩ := cells4 hr2
    clear hr2
    go_wp2
    go_ret2
    exact retw_nil HB2.out
  have HP := Lib.hid (refOf_ok (h := hd) id z (by omega))
  rw [HP.out]
  have t2 : decide (z < 0 - (hd.refs : Int)) = false := decide_eq_false (by omega)
  have t2' : decide (z < -(hd.refs : Int)) = false := decide_eq_false (by omega)
  have t3 : decide (1073741824 - (hd.refs : Int) < z) = false := decide_eq_false hz3
  obtain ⟨R, hR⟩ : ∃ R, R = ((hd.refs : Int) + z).toNat := ⟨_, rfl⟩
  have e1 : (hd.refs : Int) + z = (R : Int) := by omega
  have hRb : R ≤ 1073741824 := by omega
  have HNH : Hid (Ex.newRefs hd z = ⟨hd.size, hd.chunk, R, hd.sum⟩) := Lib.hid (by unfold Ex.newRefs; rw [hR])
  obtain ⟨H, hH⟩ : ∃ H : Hd, H = ⟨hd.size, hd.chunk, R, hd.sum⟩ := ⟨_, rfl⟩
  have HHE := Lib.hid (HNH.out.trans hH.symm)
  have HOKH : Hid H.Ok := Lib.hid (by rw [hH]; exact ⟨ok1, ok2, ok3, by show R ≤ _; omega⟩)
  have HHR : Hid (H.refs = R) := Lib.hid (by rw [hH])
  have HVAL : Hid (hval H = .agg #[.int .i64 hd.size, .int .i64 hd.chunk, .int .i64 (R : Nat), .int .u32 (n32 hd.sum)]) := Lib.hid (by rw [hH]; rfl)
  have HREF : Hid (Ex.refs hd id z = ⟨Ex.key id, false, H.bytes⟩ :: (if R = 0 then [⟨Ex.mark id, false, []⟩] else if hd.refs = 0 then [⟨Ex.mark id, true, []⟩] else [])) := Lib.hid (by unfold Ex.refs; rw [HHE.out, HHR.out])
  clear hH hR hz1 hz3 HP
  have HP := True.intro
  go_enter Tryd.func29, Tryd.ntmps29
  go_wp2_with fail
  refine HLK.out.mono ?_
  rintro e w1 ⟨rfl, hb1⟩
  have hr2 := heap_alloc_new w1 (.cells #[.int .i64 hd.size, .int .i64 hd.chunk, .int .i64 hd.refs, .int .u32 (n32 hd.sum)] 55)
  obtain ⟨w2, hw2⟩ : ∃ w2, w1.alloc (.cells #[.int .i64 hd.size, .int .i64 hd.chunk, .int .i64 hd.refs, .int .u32 (n32 hd.sum)] 55) = w2 := ⟨_, rfl⟩
  have HB2 : Hid (Below w.heap.size w w2) := Lib.hid (by rw [← hw2]; exact hb1.alloc hb1.size _)
  rw [hw2] at hr2
  have HR2 := Lib.hid hr2
  have HG : Hid (w.heap.size ≤ w1.heap.size) := Lib.hid hb1.size
  have HW2 := Lib.hid hw2
  clear hw2 hb1
  go_upto_region 2 with fail
  rw [HW2.out]
  clear HW2
  obtain ⟨c0, c1, c2, c3, cf⟩ := cells4 hr2
  clear hr2
  go_upto_region 8 with fail
  have HR3 := Lib.hid (heap_set (j := 2) (v := .int .i64 (R : Nat)) HR2.out)
  have HB3 := Lib.hid (HB2.out.trans ((oth_setAt w2 w1.heap.size 2 (.int .i64 (R : Nat))).below HB2.out.size (fun x hx => by cases hx; exact HG.out)))
  clear c0 c1 c2 c3 cf
  generalize w2.setCell ⟨w1.heap.size, 2, none⟩ (.int .i64 (R : Nat)) = w3 at *
  have hr3 : w3.heap[w1.heap.size]? = some (.cells #[.int .i64 hd.size, .int .i64 hd.chunk, .int .i64 (R : Nat), .int .u32 (n32 hd.sum)] 55 (0, 0)) := HR3.out
  obtain ⟨c0, c1, c2, c3, cf⟩ := cells4 hr3
  have HR3' := Lib.hid hr3
  clear hr3
  refine wp_region_order [0] [2] [1, 3] [4, 5, 6] 4 (by intro c a d v w h; cases d <;> exact h) (by kernel_rfl) (by kernel_rfl) (fun W' => ∃ V : BW w3, W' = V.w) ⟨⟨w3.drew, (Below.refl _ _).drew⟩, rfl⟩ ?_
  simp only [opsAt, List.filterMap_cons, List.filterMap_nil, List.getElem?_cons_zero, List.getElem?_cons_succ]
  apply held_step
  · rfl
  · rintro _ _
    go_simp
    rfl
  refine held_nil ?_
  apply held_step
  · rfl
  · rintro _ ⟨V, rfl⟩
    have m0 := BW.cell c0 V
    have m1 := BW.cell c1 V
    have m2 := BW.cell c2 V
    have m3 := BW.cell c3 V
    go_simp
    rfl
  refine held_nil ?_
  have HBC : Below w3.heap.size w3 w3.drew := (Below.refl _ _).drew
  refine walkS_step rfl (fun K hK => ?_)
  go_simp
  refine (HKEY.out _ HB3.out.drew).mono ?_
  rintro e w4 ⟨rfl, hb4⟩
  have HB4 := HBC.trans hb4
  refine hK _ _ ⟨⟨w4, HB4⟩, rfl⟩ ?_
  clear hK
  refine walkS_step rfl (fun K hK => ?_)
  go_simp
  rw [← HVAL.out]
  refine (headed_any H _ HOKH.out).mono ?_
  rintro e w5 ⟨a5, n5, k5, rfl, ho5, hb5⟩
  have HB5 := HB4.trans (hb5.mono HB4.size)
  refine hK _ _ ⟨⟨w5, HB5⟩, rfl⟩ ?_
  clear hK
  refine walkS_nil ?_
  have hl5 : n5 = H.bytes.length := ho5.bs.1.symm
  subst hl5
  have HM0 : Hid (MadeW (w5.alloc (.cells #[.string (bstr (Ex.key id)), .bool false, .slice a5 H.bytes.length k5] 33)) w3.heap.size (some ⟨w5.heap.size, 0, none⟩) 1 1 [⟨Ex.key id, false, H.bytes⟩]) :=
    Lib.hid (MadeW.one (e := ⟨Ex.key id, false, H.bytes⟩) rfl HB5.size (ho5.mono HB4.size))
  have HB6 : Hid (Below w3.heap.size w3 (w5.alloc (.cells #[.string (bstr (Ex.key id)), .bool false, .slice a5 H.bytes.length k5] 33))) := Lib.hid (HB5.alloc HB5.size _)
  clear ho5 hb4 hb5 HB4 HB5 HBC c0 c1 c2 c3 cf
  go_upto_region 9 with fail
  obtain ⟨w6, hw6⟩ : ∃ w6, (w5.alloc (.cells #[.string (bstr (Ex.key id)), .bool false, .slice a5 H.bytes.length k5] 33)) = w6 := ⟨_, rfl⟩
  rw [hw6] at HM0 HB6
  rw [hw6]
  clear hw6
  have hr6 : w6.heap[w1.heap.size]? = some (.cells #[.int .i64 hd.size, .int .i64 hd.chunk, .int .i64 (R : Nat), .int .u32 (n32 hd.sum)] 55 (0, 0)) := (HB6.out.block _ (Array.getElem?_eq_some_iff.1 HR3'.out).1).trans HR3'.out
  obtain ⟨c0, c1, c2, c3, cf⟩ := cells4 hr6
  have HBW6 := Lib.hid (HB3.out.trans (HB6.out.mono HB3.out.size))
  have HMW6 := Lib.hid (HM0.out.mono HB3.out.size)
  have HG6 : Hid (w.heap.size ≤ w6.heap.size) := Lib.hid HBW6.out.size
  clear hr6
  by_cases hR0 : R = 0
  · subst hR0
    rw [if_pos rfl] at HREF
    have t4 : (((0 : Nat) : Int) == 0) = true := by simp
    go_wp2_with fail
    refine (HMARK.out w6 HBW6.out).mono ?_
    rintro e w7 ⟨rfl, hb7⟩
    have HB7 := Lib.hid hb7
    clear hb7
    go_wp2_with (at_builtin; refine app_made (w0 := w6) rfl _ _ rfl w.heap.size rfl HMW6.out (HB7.out.alloc HB7.out.size _) HG6.out rfl (wr_box w7 ⟨Ex.mark id, false, []⟩ none 0) (Own.nil _ _) (by omega) ?_; intro a8 c8 w8 h8 hb8 hev8; have H8 := Lib.hid h8; have HB8 := Lib.hid (HBW6.out.trans (((HB7.out.alloc HB7.out.size _).mono HG6.out).trans hb8)); clear h8 hb8 hev8)
    go_ret2
    rw [HREF.out]
    exact ⟨a8, 2, c8, rfl, H8.out, HB8.out⟩
  have t4 : ((R : Int) == 0) = false := by simp; omega
  rw [if_neg hR0] at HREF
  by_cases hR1 : hd.refs = 0
  · have t5 : ((hd.refs : Int) == 0) = true := by simp; omega
    rw [if_pos hR1] at HREF
    clear hR1
    go_wp2_with fail
    refine (HMARK.out w6 HBW6.out).mono ?_
    rintro e w7 ⟨rfl, hb7⟩
    have HB7 := Lib.hid hb7
    clear hb7
    go_wp2_with (at_builtin; refine app_made (w0 := w6) rfl _ _ rfl w.heap.size rfl HMW6.out (HB7.out.alloc HB7.out.size _) HG6.out rfl (wr_box w7 ⟨Ex.mark id, true, []⟩ none 0) (Own.nil _ _) (by omega) ?_; intro a8 c8 w8 h8 hb8 hev8; have H8 := Lib.hid h8; have HB8 := Lib.hid (HBW6.out.trans (((HB7.out.alloc HB7.out.size _).mono HG6.out).trans hb8)); clear h8 hb8 hev8)
    go_ret2
    rw [HREF.out]
    exact ⟨a8, 2, c8, rfl, H8.out, HB8.out⟩
  · have t5 : ((hd.refs : Int) == 0) = false := by simp; omega
    rw [if_neg hR1] at HREF
    clear hR1
    go_wp2
    go_ret2
    rw [HREF.out]
    exact ⟨_, 1, 1, rfl, HMW6.out, HBW6.out⟩
set_option maxHeartbeats 2000000 in
theorem rfree_any (bk id : Nat) (L : List Wr) (w : World) (hu : U64 id) (h : KeysAt w bk L) :
    Calls Tryd.prog 31 #[.pointer (some ⟨bk, 0, none⟩), .int .u64 id] w (RetW (Ex.free L id).1 ((Ex.free L id).2 : Nat) w) := by
  have HLK := Lib.hid (rlook_any bk id L w hu h)
  have HOK := Lib.hid (read_ok (b := Kv.get L (Ex.key id)))
  have hp : Ex.free L id = Ex.freeOf (Ex.look L id) id := rfl
  rw [hp]
  clear hp
  have HOK2 : Hid ((Ex.look L id).2 = 0 → (Ex.look L id).1.Ok) := Lib.hid (fun h => (HOK.out h).1)
  have HKEY := Lib.hid (fun W (hb : Below w.heap.size w W) => rkey_any id hu W)
  have HMARK := Lib.hid (fun W (hb : Below w.heap.size w W) => rmark_any id hu W)
  have HCK := Lib.hid (fun (k : Nat) (hk : k < 4294967296) W (hb : Below w.heap.size w W) => by have := rck_any id (k : Int) hu (by omega) W; rw [low_nat hk] at this; exact this)
  generalize Ex.look L id = x at *
  clear HOK h
  obtain ⟨hd, er⟩ := x
  unfold LookV hval at HLK
  dsimp only at *
  by_cases h0 : er = 0
  case neg =>
    have HP := Lib.hid (freeOf_err id (x := (hd, er)) h0)
    have t1 : ((er : Int) != 0) = true := by simp; omega
    rw [HP.out]
    go_enter Tryd.func31, Tryd.ntmps31
    go_wp2_with fail
    refine HLK.out.mono ?_
    rintro e w1 ⟨rfl, hb1⟩
    have HB1 := Lib.hid hb1
    clear hb1
    go_wp2
    go_ret2
    exact retw_nil (HB1.out.alloc HB1.out.size _)
  subst h0
  have ok := HOK2.out rfl
  have HOK := Lib.hid ok
  obtain ⟨ok1, ok2, ok3, ok4⟩ := ok
  by_cases hr0 : hd.refs = 0
  case neg =>
    have HP := Lib.hid (freeOf_arg (h := hd) id hr0)
    rw [HP.out]
    have t2 : ((hd.refs : Int) != 0) = true := by simp; omega
    go_enter Tryd.func31, Tryd.ntmps31
    go_wp2_with fail
    refine HLK.out.mono ?_
    rintro e w1 ⟨rfl, hb1⟩
    have hr2 := heap_alloc_new w1 (.cells #[.int .i64 hd.size, .int .i64 hd.chunk, .int .i64 hd.refs, .int .u32 (n32 hd.sum)] 55)
    obtain ⟨w2, hw2⟩ : ∃ w2, w1.alloc (.cells #[.int .i64 hd.size, .int .i64 hd.chunk, .int .i64 hd.refs, .int .u32 (n32 hd.sum)] 55) = w2 := ⟨_, rfl⟩
    have HB2 : Hid (Below w.heap.size w w2) := Lib.hid (by rw [← hw2]; exact hb1.alloc hb1.size _)
    rw [hw2] at hr2
    have HR2 := Lib.hid hr2
    have HG : Hid (w.heap.size ≤ w1.heap.size) := Lib.hid hb1.size
    have HW2 := Lib.hid hw2
    clear hw2 hb1
    go_upto_region 2 with fail
    rw [HW2.out]
    clear HW2
    obtain ⟨c0, c1, c2, c3, cf⟩ := cells4 hr2
    clear hr2
    go_wp2
    go_ret2
    exact retw_nil HB2.out
  have HP := Lib.hid (freeOf_ok (h := hd) id hr0)
  rw [HP.out]
  have t2 : ((hd.refs : Int) != 0) = false := by simp; omega
  have HCN := Lib.hid (fun (W : World) => rchunks_any hd W HOK.out)
  unfold hval at HCN
  have hNb : hd.n ≤ 1073741824 := by
    have h9 := (n_lt HOK.out (n := 1073741824)).1
    rcases Nat.lt_or_ge 1073741824 hd.n with g | g
    · have h8 := h9 g
      have h7 := Nat.mul_le_mul_left 1073741824 ok3
      omega
    · exact g
  generalize hd.n = N at *
  clear hr0 HP
  have HP := True.intro
  go_enter Tryd.func31, Tryd.ntmps31
  go_wp2_with fail
  refine HLK.out.mono ?_
  rintro e w1 ⟨rfl, hb1⟩
  have hr2 := heap_alloc_new w1 (.cells #[.int .i64 hd.size, .int .i64 hd.chunk, .int .i64 hd.refs, .int .u32 (n32 hd.sum)] 55)
  obtain ⟨w2, hw2⟩ : ∃ w2, w1.alloc (.cells #[.int .i64 hd.size, .int .i64 hd.chunk, .int .i64 hd.refs, .int .u32 (n32 hd.sum)] 55) = w2 := ⟨_, rfl⟩
  have HB2 : Hid (Below w.heap.size w w2) := Lib.hid (by rw [← hw2]; exact hb1.alloc hb1.size _)
  rw [hw2] at hr2
  have HR2 := Lib.hid hr2
  have HG : Hid (w.heap.size ≤ w1.heap.size) := Lib.hid hb1.size
  have HW2 := Lib.hid hw2
  clear hw2 hb1
  go_upto_region 2 with fail
  rw [HW2.out]
  clear HW2
  obtain ⟨c0, c1, c2, c3, cf⟩ := cells4 hr2
  clear hr2
  go_wp2_with fail
  refine (HKEY.out w2 HB2.out).mono ?_
  rintro e w3 ⟨rfl, hb3⟩
  have HB3 := Lib.hid (HB2.out.trans (hb3.mono HB2.out.size))
  have HM3 : Hid (MadeW (w3.alloc (.cells #[.string (bstr (Ex.key id)), .bool true, .slice none 0 0] 33)) w.heap.size (some ⟨w3.heap.size, 0, none⟩) 1 1 (Ex.freeTo id 0)) :=
    Lib.hid (MadeW.one (e := ⟨Ex.key id, true, []⟩) rfl HB3.out.size (Own.nil _ _))
  obtain ⟨w4, hw4⟩ : ∃ w4, (w3.alloc (.cells #[.string (bstr (Ex.key id)), .bool true, .slice none 0 0] 33)) = w4 := ⟨_, rfl⟩
  have hb34 : Below w3.heap.size w3 w4 := by rw [← hw4]; exact below_alloc1 _ _
  rw [hw4] at HM3
  have HB4 := Lib.hid (HB3.out.trans (hb34.mono HB3.out.size))
  have HR4 : Hid (w4.heap[w1.heap.size]? = some (.cells #[.int .i64 hd.size, .int .i64 hd.chunk, .int .i64 hd.refs, .int .u32 (n32 hd.sum)] 55 (0, 0))) := Lib.hid (((hb3.trans (hb34.mono hb3.size)).block _ (Array.getElem?_eq_some_iff.1 HR2.out).1).trans HR2.out)
  have HW4 := Lib.hid hw4
  clear hb3 hw4 hb34 c0 c1 c2 c3 cf
  go_upto_region 7 with fail
  rw [HW4.out]
  clear HW4
  obtain ⟨c0, c1, c2, c3, cf⟩ := cells4 HR4.out
  go_wp2_with fail
  clear c0 c1 c2 c3 cf
  go_loopw [8, 9] (fun ov iv wr => ∃ (k co : Nat) (ao : Option Addr), k ≤ N ∧ iv = .int .i64 k ∧ ov = .slice ao (k + 1) co ∧ Hid (MadeW wr w.heap.size ao (k + 1) co (Ex.freeTo id k)) ∧ Hid (Below w.heap.size w wr) ∧ Hid (wr.heap[w1.heap.size]? = w4.heap[w1.heap.size]?)) (fun _ iv _ => N - (intOf iv).toNat)
  case atStart => exact ⟨0, 1, _, Nat.zero_le _, rfl, rfl, HM3, HB4, Lib.hid rfl⟩
  case round =>
    obtain ⟨k, co, ao, hk, rfl, rfl, hac, hbl, hrow⟩ := hrel
    have hr9 := hrow.out.trans HR4.out
    obtain ⟨c0, c1, c2, c3, cf⟩ := cells4 hr9
    have HR9 := Lib.hid hr9
    clear hr9
    by_cases hkN : k < N
    · have HWB := Lib.hid (fun (W : World) => wr_box W ⟨Ex.ck id k, true, []⟩ none 0)
      go_wp2_with fail
      refine (HCN.out wr).mono ?_
      rintro e w5 ⟨rfl, hb5⟩
      have HB5 := Lib.hid hb5
      clear hb5 c0 c1 c2 c3 cf
      go_wp2_with fail
      refine (HCK.out k (by omega) w5 (hbl.out.trans (HB5.out.mono hbl.out.size))).mono ?_
      rintro e w6 ⟨rfl, hb6⟩
      have HB6 := Lib.hid (HB5.out.trans (hb6.mono HB5.out.size))
      clear hb6
      go_wp2_with (at_builtin; refine app_made (w0 := wr) rfl _ _ rfl w.heap.size rfl hac.out (HB6.out.alloc HB6.out.size _) hbl.out.size rfl (HWB.out _) (Own.nil _ _) (by omega) ?_; intro a8 c8 w8 h8 hb8 hev8; have H8 := Lib.hid h8; have HB8 := Lib.hid (hbl.out.trans (((HB6.out.alloc HB6.out.size _).mono hbl.out.size).trans hb8)); have HEV := Lib.hid hev8; clear h8 hb8 hev8)
      have HRW := Lib.hid (free_row HB6.out HEV.out hac.out.acc HR9.out)
      go_roundw
      case rel => exact ⟨k + 1, c8, a8, by omega, by go_num, rfl, by rw [freeTo_succ]; exact H8, HB8, Lib.hid (HRW.out.trans HR4.out.symm)⟩
      case measure => simp [intOf]; omega
    · obtain rfl : k = N := by omega
      go_wp2_with fail
      refine (HCN.out wr).mono ?_
      rintro e w5 ⟨rfl, hb5⟩
      have HB5 := Lib.hid hb5
      clear hb5 c0 c1 c2 c3 cf
      go_wp2_with fail
      refine (HMARK.out w5 (hbl.out.trans (HB5.out.mono hbl.out.size))).mono ?_
      rintro e w6 ⟨rfl, hb6⟩
      have HB6 := Lib.hid (HB5.out.trans (hb6.mono HB5.out.size))
      clear hb6
      go_wp2_with (at_builtin; refine app_made (w0 := wr) rfl _ _ rfl w.heap.size rfl hac.out (HB6.out.alloc HB6.out.size _) hbl.out.size rfl (wr_box w6 ⟨Ex.mark id, true, []⟩ none 0) (Own.nil _ _) (by omega) ?_; intro a8 c8 w8 h8 hb8 hev8; have H8 := Lib.hid h8; have HB8 := Lib.hid (hbl.out.trans (((HB6.out.alloc HB6.out.size _).mono hbl.out.size).trans hb8)); clear h8 hb8 hev8)
      go_ret2
      exact ⟨a8, k + 1 + 1, c8, rfl, H8.out, HB8.out⟩
end Go.Proofs.YtkbfefooaajhkaaDoor
