/- Read, the program's and the reference's. -/
import Derived.Test.YtkbfefooaajhkaaDoorExPr
set_option maxRecDepth 100000
set_option linter.unusedVariables false
set_option linter.unusedSimpArgs false
namespace Go.Proofs.YtkbfefooaajhkaaDoor
open Go.RowKit

/-! Plain. -/
def Ex.readOf (x : Hd × Nat) (L : List Wr) (id : Nat) : List UInt8 × Nat :=
  if x.2 ≠ 0 then ([], x.2)
  else if (Ex.partOf x L id 0 x.1.size).2 ≠ 0 then ([], (Ex.partOf x L id 0 x.1.size).2)
  else if Codec.sum (Ex.partOf x L id 0 x.1.size).1 ≠ x.1.sum then ([], 13)
  else ((Ex.partOf x L id 0 x.1.size).1, 0)
def Ex.rd (L : List Wr) (id : Nat) : List UInt8 × Nat := Ex.readOf (Ex.look L id) L id
theorem part_full {L : List Wr} {id : Nat} {hd : Hd} (ok : hd.Ok) (h : (Ex.partOf (hd, 0) L id 0 hd.size).2 = 0) : (Ex.partOf (hd, 0) L id 0 hd.size).1.length = hd.size := by
  have h1 : ¬ ((0 : Int) < 0 ∨ (hd.size : Int) < 0 ∨ ((hd.size : Nat) : Int) < (hd.size : Int)) := by omega
  by_cases h0 : hd.size = 0
  · rw [part_nil L id 0 _ (x := (hd, 0)) rfl h1 (by omega), h0]; rfl
  · have e := part_whole L id 0 hd.size (x := (hd, 0)) rfl (by omega) (Nat.le_refl _)
    have e0 : ((0 : Nat) : Int) = 0 := rfl
    rw [e0] at e
    rw [e] at h ⊢
    cases hg : Ex.gat L id hd (0 / hd.chunk) (Ex.last hd hd.size - 0 / hd.chunk) with
    | none => rw [whole_none hg] at h; cases h
    | some l =>
      rw [whole_some hg]
      have hC := ok.pos
      have hz : 0 / hd.chunk = 0 := Nat.zero_div _
      rw [hz] at hg
      rw [hz, Nat.sub_zero] at *
      have hl := gat_len hg (fun j hj => (lt_last hC).1 (by omega)) (by simp)
      have hL := last_le (h := hd) (t := hd.size) hC
      rw [Nat.zero_mul, Nat.zero_add, Nat.add_zero] at hl
      simp only [Nat.zero_mul, Nat.sub_zero, List.drop_zero, List.length_take]
      omega
theorem readOf_err {x : Hd × Nat} (L : List Wr) (id : Nat) (h : x.2 ≠ 0) : Ex.readOf x L id = ([], x.2) := by unfold Ex.readOf; rw [if_pos h]
theorem readOf_part {hd : Hd} (L : List Wr) (id : Nat) {r : List UInt8 × Nat} (h : Ex.partOf (hd, 0) L id 0 hd.size = r) (h1 : r.2 ≠ 0) : Ex.readOf (hd, 0) L id = ([], r.2) := by
  subst h
  unfold Ex.readOf; rw [if_neg (by simp), if_pos h1]
theorem readOf_sum {hd : Hd} (L : List Wr) (id : Nat) {r : List UInt8 × Nat} (h : Ex.partOf (hd, 0) L id 0 hd.size = r) (h1 : r.2 = 0) (h2 : Codec.sum r.1 ≠ hd.sum) : Ex.readOf (hd, 0) L id = ([], 13) := by
  subst h
  unfold Ex.readOf; rw [if_neg (by simp), if_neg (by simpa using h1), if_pos h2]
theorem readOf_ok {hd : Hd} (L : List Wr) (id : Nat) {r : List UInt8 × Nat} (h : Ex.partOf (hd, 0) L id 0 hd.size = r) (h1 : r.2 = 0) (h2 : Codec.sum r.1 = hd.sum) : Ex.readOf (hd, 0) L id = (r.1, 0) := by
  subst h
  unfold Ex.readOf; rw [if_neg (by simp), if_neg (by simpa using h1), if_neg (by simpa using h2)]
theorem refsum_q {a : Option Addr} {n c : Nat} {l : List UInt8} {w : World} (h : Bs w a n c l) :
    Calls Tryd.prog 40 #[.slice a n c] w fun e w' => e = .returned (.int .u32 (n32 (Codec.sum l))) ∧ w' = w := (refsum_any a n c l w h).mono fun _ _ ⟨h1, h2⟩ => ⟨h1, h2.symm⟩
set_option maxHeartbeats 2000000 in
theorem rread_any (bk id : Nat) (L : List Wr) (w : World) (hu : U64 id) (h : KeysAt w bk L) :
    Calls Tryd.prog 26 #[.pointer (some ⟨bk, 0, none⟩), .int .u64 id] w (RetP (Ex.rd L id) w) := by
  have HLK := Lib.hid (rlook_any bk id L w hu h)
  have HPT := Lib.hid (fun W (hb : Below w.heap.size w W) (t : Int) (ht : -9223372036854775808 ≤ t ∧ t ≤ 9223372036854775807) => rpart_any bk id L 0 t W hu (h.below hb) (by omega) ht)
  have HOK := Lib.hid (read_ok (b := Kv.get L (Ex.key id)))
  have hp : Ex.rd L id = Ex.readOf (Ex.look L id) L id := rfl
  rw [hp]
  clear hp
  have HOK2 : Hid ((Ex.look L id).2 = 0 → (Ex.look L id).1.Ok) := Lib.hid (fun h => (HOK.out h).1)
  unfold Ex.part at HPT
  generalize Ex.look L id = x at *
  clear HOK
  obtain ⟨hd, er⟩ := x
  unfold LookV hval at HLK
  dsimp only at *
  clear h
  by_cases h0 : er = 0
  case neg =>
    have HP := Lib.hid (readOf_err L id (x := (hd, er)) h0)
    have t1 : ((er : Int) != 0) = true := by simp; omega
    rw [HP.out]
    go_enter Tryd.func26, Tryd.ntmps26
    go_wp2_with fail
    refine HLK.out.mono ?_
    rintro e w1 ⟨rfl, hb1⟩
    have HB1 := Lib.hid hb1
    clear hb1
    go_wp2
    go_ret2
    exact retp_nil (HB1.out.alloc HB1.out.size _)
  subst h0
  have ok := HOK2.out rfl
  have hszb : (hd.size : Int) ≤ 9223372036854775807 := by have := ok.size; omega
  have HPQ := Lib.hid (fun W hb => HPT.out W hb (hd.size : Int) (by omega))
  have HRP := Lib.hid (fun r => readOf_part (hd := hd) L id (r := r))
  have HRS := Lib.hid (fun r => readOf_sum (hd := hd) L id (r := r))
  have HRK := Lib.hid (fun r => readOf_ok (hd := hd) L id (r := r))
  generalize hRR : Ex.readOf (hd, 0) L id = RR at *
  generalize hPP : Ex.partOf (hd, 0) L id 0 (hd.size : Int) = PP at *
  clear hRR hPP HPT HOK2
  obtain ⟨bl, pe⟩ := PP
  have HRP := Lib.hid (HRP.out _ rfl)
  have HRS := Lib.hid (HRS.out _ rfl)
  have HRK := Lib.hid (HRK.out _ rfl)
  go_enter Tryd.func26, Tryd.ntmps26
  go_wp2_with fail
  refine HLK.out.mono ?_
  rintro e w1 ⟨rfl, hb1⟩
  have hcells := hd_cells w1 hd 55
  obtain ⟨w2, hw2⟩ : ∃ w2, w1.alloc (.cells #[.int .i64 hd.size, .int .i64 hd.chunk, .int .i64 hd.refs, .int .u32 (n32 hd.sum)] 55) = w2 := ⟨_, rfl⟩
  have HB2 : Hid (Below w.heap.size w w2) := Lib.hid (by rw [← hw2]; exact hb1.alloc hb1.size _)
  rw [hw2] at hcells
  have VS := Lib.hid (fun (W : World) (k : Below w2.heap.size w2 W) => And.intro (cell_later k hcells.1) (And.intro (cell_later k hcells.2.1) (And.intro (cell_later k hcells.2.2.1) (cell_later k hcells.2.2.2))))
  have HW2 := Lib.hid hw2
  clear hcells hw2 hb1
  go_upto_region 2 with fail
  rw [HW2.out]
  obtain ⟨c0, c1, c2, c3⟩ := VS.out w2 (Below.refl _ _)
  go_wp2_with fail
  clear c0 c1 c2 c3
  refine (HPQ.out _ HB2.out).mono ?_
  rintro e w3 ⟨a3, n3, k3, rfl, ho3, hb3⟩
  dsimp only at ho3 ⊢
  have HB3 := Lib.hid hb3
  have HB3W := Lib.hid (HB2.out.trans (hb3.mono HB2.out.size))
  have HO3 := Lib.hid (ho3.mono HB2.out.size)
  clear hb3 ho3
  by_cases hpe : pe = 0
  case neg =>
    have HP := Lib.hid (HRP.out hpe)
    have t1 : ((pe : Int) != 0) = true := by simp; omega
    go_wp2
    go_ret2
    rw [HP.out]
    exact retp_nil HB3W.out
  subst hpe
  obtain ⟨c0, c1, c2, c3⟩ := VS.out w3 HB3.out
  have HRSM := Lib.hid (fun W (hb : Below w3.heap.size w3 W) => refsum_any a3 n3 k3 bl W (HO3.out.bs.below hb))
  by_cases hsum : Codec.sum bl = hd.sum
  · have HP := Lib.hid (HRK.out rfl hsum)
    have t2 : (Codec.sum bl == hd.sum) = true := by simp [hsum]
    clear hsum
    go_wp2_with fail
    refine wp_region_still_tail 4 (by kernel_rfl) (by kernel_rfl) ?_
    simp only [List.take_succ_cons, List.take_zero, List.drop_succ_cons, List.drop_zero]
    repeat still_step
    still_call (refsum_q (HO3.out.bs.below (Below.refl _ _).drew))
    repeat still_step
    refine wpStill_nil ?_
    go_wp2
    go_ret2
    rw [HP.out]
    exact ⟨a3, n3, k3, rfl, HO3.out.below (Below.refl _ _).drew, HB3W.out.drew⟩
  · have HP := Lib.hid (HRS.out rfl hsum)
    have t2 : (Codec.sum bl == hd.sum) = false := by simp [hsum]
    clear hsum
    go_wp2_with fail
    refine wp_region_still_tail 4 (by kernel_rfl) (by kernel_rfl) ?_
    simp only [List.take_succ_cons, List.take_zero, List.drop_succ_cons, List.drop_zero]
    repeat still_step
    still_call (refsum_q (HO3.out.bs.below (Below.refl _ _).drew))
    repeat still_step
    refine wpStill_nil ?_
    go_wp2
    go_ret2
    rw [HP.out]
    exact retp_nil HB3W.out.drew
end Go.Proofs.YtkbfefooaajhkaaDoor
