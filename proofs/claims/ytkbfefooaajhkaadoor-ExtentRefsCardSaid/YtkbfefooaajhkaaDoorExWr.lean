/- Rows of writes held beside each other; few, small. -/
import Derived.Test.YtkbfefooaajhkaaDoorExKn
set_option maxRecDepth 100000
set_option linter.unusedVariables false
set_option linter.unusedSimpArgs false
namespace Go.Proofs.YtkbfefooaajhkaaDoor
open Go.RowKit

set_option maxHeartbeats 4000000 in
theorem writes_any (a a' : Option Addr) (n c n' c' : Nat) (l l' : List Wr) (w : World) (h : Ws w a n c l) (h' : Ws w a' n' c' l') :
    Calls Tryd.prog 15 #[.slice a n c, .slice a' n' c'] w fun e w' => e = .returned (.bool (decide (l = l'))) ∧ Below w.heap.size w w' := by
  have hle := h.le.1
  have hle' := h'.le.1
  have HN := Lib.hid h.1
  have HN' := Lib.hid h'.1
  have HE := Lib.hid h
  have HE' := Lib.hid h'
  clear h h'
  go_enter Tryd.func15, Tryd.ntmps15
  by_cases hn : n = n'
  case neg =>
    have t1 : ((n : Int) != (n' : Int)) = true := by simp; omega
    have E := Lib.hid (decide_eq_false (show ¬ l = l' from fun e => hn (by rw [← HN.out, ← HN'.out, e])))
    clear hn
    go_wp2
    go_ret
    exact ⟨by rw [E.out]; rfl, Below.refl _ _⟩
  subst hn
  have t1 : ((n : Int) != (n : Int)) = false := by simp
  go_wp2
  go_loopw [5] (fun i wr => ∃ k : Nat, k ≤ n ∧ i = .int .i64 k ∧ Hid (Below w.heap.size w wr) ∧ Hid (∀ j, j < k → nth l j = nth l' j)) (fun i _ => n - (intOf i).toNat)
  case atStart => exact ⟨0, by omega, rfl, Lib.hid (Below.refl _ _), Lib.hid (fun j hj => by omega)⟩
  case round =>
    obtain ⟨k, hk, rfl, hb, hall⟩ := hrel
    by_cases hlt : k < n
    case neg =>
      obtain rfl : k = n := by omega
      have E := Lib.hid (decide_eq_true (wr_ext_nth (l := l) (m := l') (by rw [HN.out, HN'.out]) (fun j hj => hall.out j (by rw [HN.out] at hj; exact hj))))
      go_wp2
      go_ret
      exact ⟨by rw [E.out]; rfl, hb.out⟩
    obtain ⟨b1, o1, a1, d1, ea, he1, hv1⟩ := (HE.out.below hb.out).vals hlt
    obtain ⟨b2, o2, a2, d2, eb, he2, hv2⟩ := (HE'.out.below hb.out).vals hlt
    subst ea eb
    have HNE := Lib.hid (fun (q : nth l k ≠ nth l' k) => decide_eq_false (show ¬ l = l' from fun e => q (by rw [e])))
    have HEQ := Lib.hid (fun (q : nth l k = nth l' k) (j : Nat) (hj : j < k + 1) => (show nth l j = nth l' j from by
      by_cases e : j = k
      · rw [e]; exact q
      · exact hall.out j (by omega)))
    generalize nth l k = x at *
    generalize nth l' k = y at *
    have p1 := BW.cell he1.key
    have p2 := BW.cell he1.gone
    have p3 := BW.cell he1.val
    have q1 := BW.cell he2.key
    have q2 := BW.cell he2.gone
    have q3 := BW.cell he2.val
    have v1 := fun W : BW wr => conv_bytes (hv1.below W.b)
    have v2 := fun W : BW wr => conv_bytes (hv2.below W.b)
    clear he1 he2 hv1 hv2
    by_cases h1 : x.key = y.key
    case neg =>
      have t1 : ((bstr x.key).toList == (bstr y.key).toList) = false := by rw [bstr_beq]; exact decide_eq_false h1
      have t1' : decide (x.key = y.key) = false := decide_eq_false h1
      have E := Lib.hid (HNE.out (fun e => h1 (by rw [e])))
      clear h1 HNE HEQ
      go_wp2_with fail
      refine wp_region_class (w0 := wr) (by kernel_rfl) (by kernel_rfl) (Below.refl _ _) ?_
      repeat (first | go_big_quiet_step (fail))
      refine wpQuiet_nil ?_
      intro w1 hb1; replace hb1 := BW.of hb1
      have HB1 := Lib.hid (hb.out.trans (hb1.mono hb.out.size))
      clear hb1 p1 p2 p3 q1 q2 q3 v1 v2
      go_wp2
      go_ret
      exact ⟨by rw [E.out]; rfl, HB1.out⟩
    have t1 : ((bstr x.key).toList == (bstr y.key).toList) = true := by rw [bstr_beq]; exact decide_eq_true h1
    have t1' : decide (x.key = y.key) = true := decide_eq_true h1
    by_cases h2 : x.gone = y.gone
    case neg =>
      have t2 : (x.gone != y.gone) = true := by simpa using h2
      have t2' : (x.gone == y.gone) = false := by simpa using h2
      have E := Lib.hid (HNE.out (fun e => h2 (by rw [e])))
      clear h1 h2 HNE HEQ
      go_wp2_with fail
      refine wp_region_class (w0 := wr) (by kernel_rfl) (by kernel_rfl) (Below.refl _ _) ?_
      repeat (first | go_big_quiet_step (fail))
      refine wpQuiet_nil ?_
      intro w1 hb1; replace hb1 := BW.of hb1
      have HB1 := Lib.hid (hb.out.trans (hb1.mono hb.out.size))
      clear hb1 p1 p2 p3 q1 q2 q3 v1 v2
      go_wp2
      go_ret
      exact ⟨by rw [E.out]; rfl, HB1.out⟩
    have t2 : (x.gone != y.gone) = false := by simpa using h2
    have t2' : (x.gone == y.gone) = true := by simpa using h2
    by_cases h3 : x.val = y.val
    case neg =>
      have t3 : ((bstr x.val).toList == (bstr y.val).toList) = false := by rw [bstr_beq]; exact decide_eq_false h3
      have t3' : decide (x.val = y.val) = false := decide_eq_false h3
      have E := Lib.hid (HNE.out (fun e => h3 (by rw [e])))
      clear h1 h2 h3 HNE HEQ
      go_wp2_with fail
      refine wp_region_class (w0 := wr) (by kernel_rfl) (by kernel_rfl) (Below.refl _ _) ?_
      repeat (first | go_big_quiet_step (fail))
      refine wpQuiet_nil ?_
      intro w1 hb1; replace hb1 := BW.of hb1
      have HB1 := Lib.hid (hb.out.trans (hb1.mono hb.out.size))
      clear hb1 p1 p2 p3 q1 q2 q3 v1 v2
      go_wp2
      go_ret
      exact ⟨by rw [E.out]; rfl, HB1.out⟩
    have t3 : ((bstr x.val).toList == (bstr y.val).toList) = true := by rw [bstr_beq]; exact decide_eq_true h3
    have t3' : decide (x.val = y.val) = true := decide_eq_true h3
    have E := Lib.hid (HEQ.out (Wr.ext' h1 h2 h3))
    clear h1 h2 h3 HNE HEQ
    go_wp2_with fail
    refine wp_region_class (w0 := wr) (by kernel_rfl) (by kernel_rfl) (Below.refl _ _) ?_
    repeat (first | go_big_quiet_step (fail))
    refine wpQuiet_nil ?_
    intro w1 hb1; replace hb1 := BW.of hb1
    have HB1 := Lib.hid (hb.out.trans (hb1.mono hb.out.size))
    clear hb1 p1 p2 p3 q1 q2 q3 v1 v2
    go_wp2
    go_roundw
    case rel => exact ⟨k + 1, by omega, by go_num, HB1, E⟩
    case measure => simp [intOf]; omega
/-- How many letters there are. -/
def Wr.cost (x : Wr) : Nat := x.key.length + x.val.length
def Wr.costs (l : List Wr) : Nat := (l.map Wr.cost).sum
theorem costs_snoc (l : List Wr) {i : Nat} (hi : i < l.length) : Wr.costs (l.take (i + 1)) = Wr.costs (l.take i) + Wr.cost (nth l i) := by
  unfold Wr.costs
  rw [take_snoc l hi, List.map_append, List.sum_append]
  simp
theorem costs_take (l : List Wr) (i : Nat) : Wr.costs (l.take i) ≤ Wr.costs l := by
  unfold Wr.costs
  have e : (l.map Wr.cost).sum = ((l.take i).map Wr.cost).sum + ((l.drop i).map Wr.cost).sum := by rw [← List.sum_append, ← List.map_append, List.take_append_drop]
  omega
def Wr.fewB (l : List Wr) : Bool := decide (l.length ≤ 500) && decide (Wr.costs l ≤ 131072)
set_option maxHeartbeats 2000000 in
theorem few_any (a : Option Addr) (n c : Nat) (l : List Wr) (w : World) (h : Ws w a n c l) (hc : Wr.costs l ≤ 1000000000) :
    Calls Tryd.prog 22 #[.slice a n c] w fun e w' => e = .returned (.bool (Wr.fewB l)) ∧ Below w.heap.size w w' := by
  have hle := h.le.1
  have HN := Lib.hid h.1
  have HE := Lib.hid h
  clear h
  go_enter Tryd.func22, Tryd.ntmps22
  go_wp2
  go_loopw [3, 4] (fun v i wr => ∃ k m : Nat, k ≤ n ∧ i = .int .i64 k ∧ v = .int .i64 m ∧ m ≤ 1000000000 ∧ Hid (m = Wr.costs (l.take k)) ∧ Hid (Below w.heap.size w wr)) (fun _ i _ => n - (intOf i).toNat)
  case atStart => exact ⟨0, 0, by omega, rfl, rfl, by omega, Lib.hid rfl, Lib.hid (Below.refl _ _)⟩
  case round =>
    obtain ⟨k, m, hk, rfl, rfl, hm, HM, hb⟩ := hrel
    by_cases hlt : k < n
    case neg =>
      obtain rfl : k = n := by omega
      have e1 : l.take k = l := by rw [← HN.out, List.take_length]
      rw [e1] at HM
      have E : Hid (Wr.fewB l = (decide (k ≤ 500) && decide (m ≤ 131072))) := Lib.hid (by unfold Wr.fewB; rw [HN.out, HM.out])
      clear e1
      by_cases d1 : k ≤ 500
      · have t1 : decide ((k : Int) ≤ 500) = true := decide_eq_true (by omega)
        have t1' : decide (k ≤ 500) = true := decide_eq_true d1
        go_wp2
        go_ret
        exact ⟨by rw [E.out, t1', show decide (m ≤ 131072) = decide ((m : Int) ≤ 131072) from decide_eq_decide.2 (by omega)]; rfl, hb.out⟩
      · have t1 : decide ((k : Int) ≤ 500) = false := decide_eq_false (by omega)
        have t1' : decide (k ≤ 500) = false := decide_eq_false d1
        go_wp2
        go_ret
        exact ⟨by rw [E.out, t1']; rfl, hb.out⟩
    obtain ⟨b1, o1, a1, d1, ea, he1, hv1⟩ := (HE.out.below hb.out).vals hlt
    subst ea
    have HSN := Lib.hid (costs_snoc l (i := k) (by rw [HN.out]; exact hlt))
    have HTK := Lib.hid (costs_take l (k + 1))
    have hcx : m + ((nth l k).key.length + (nth l k).val.length) ≤ 1000000000 := by
      have h1 := HSN.out
      have h2 := HTK.out
      have h3 := HM.out
      unfold Wr.cost at h1
      omega
    have HM1 : Hid (m + ((nth l k).key.length + (nth l k).val.length) = Wr.costs (l.take (k + 1))) := Lib.hid (by rw [HSN.out, ← HM.out]; rfl)
    generalize nth l k = x at *
    have p1 := BW.cell he1.key
    have p3 := BW.cell he1.val
    have e1 := bstr_size x.key
    clear he1 hv1
    generalize x.key.length = kl at *
    generalize x.val.length = vl at *
    go_wp2_with fail
    refine wp_region_class (w0 := wr) (by kernel_rfl) (by kernel_rfl) (Below.refl _ _) ?_
    repeat (first | go_big_quiet_step (fail))
    refine wpQuiet_nil ?_
    intro w1 hb1; replace hb1 := BW.of hb1
    have HB1 := Lib.hid (hb.out.trans (hb1.mono hb.out.size))
    clear hb1 p1 p3
    go_wp2
    go_roundw
    case rel => exact ⟨k + 1, m + (kl + vl), by omega, by go_num, by rw [Int.natCast_add, Int.natCast_add, Int.add_assoc], hcx, HM1, HB1⟩
    case measure => simp [intOf]; omega
def Ex.smallB (L : List Wr) (id : Nat) : Bool := !decide ((Ex.look L id).2 = 0) || decide ((Ex.look L id).1.n ≤ 2000)
set_option maxHeartbeats 2000000 in
theorem small_any (bk id : Nat) (L : List Wr) (w : World) (hu : U64 id) (h : KeysAt w bk L) :
    Calls Tryd.prog 23 #[.pointer (some ⟨bk, 0, none⟩), .int .u64 id] w fun e w' => e = .returned (.bool (Ex.smallB L id)) ∧ Below w.heap.size w w' := by
  have HLK := Lib.hid (rlook_any bk id L w hu h)
  have HOK := Lib.hid (read_ok (b := Kv.get L (Ex.key id)))
  have HSB : Hid (Ex.smallB L id = (!decide ((Ex.look L id).2 = 0) || decide ((Ex.look L id).1.n ≤ 2000))) := Lib.hid rfl
  rw [HSB.out]
  clear HSB
  have HOK2 : Hid ((Ex.look L id).2 = 0 → (Ex.look L id).1.Ok) := Lib.hid (fun h => (HOK.out h).1)
  generalize Ex.look L id = x at *
  clear HOK h
  obtain ⟨hd, er⟩ := x
  unfold LookV hval at HLK
  dsimp only at *
  by_cases h0 : er = 0
  case neg =>
    have t1 : ((er : Int) != 0) = true := by simp; omega
    rw [decide_eq_false h0]
    go_enter Tryd.func23, Tryd.ntmps23
    go_wp2_with fail
    refine HLK.out.mono ?_
    rintro e w1 ⟨rfl, hb1⟩
    have HB1 := Lib.hid hb1
    clear hb1
    go_wp2
    go_ret
    exact ⟨rfl, HB1.out.alloc HB1.out.size _⟩
  subst h0
  have HCN := Lib.hid (fun (W : World) => rchunks_any hd W (HOK2.out rfl))
  unfold hval at HCN
  rw [show (!decide ((0 : Nat) = 0) || decide (hd.n ≤ 2000)) = decide (hd.n ≤ 2000) by simp]
  generalize hd.n = N at *
  go_enter Tryd.func23, Tryd.ntmps23
  go_wp2_with fail
  refine HLK.out.mono ?_
  rintro e w1 ⟨rfl, hb1⟩
  have hr2 := heap_alloc_new w1 (.cells #[.int .i64 hd.size, .int .i64 hd.chunk, .int .i64 hd.refs, .int .u32 (n32 hd.sum)] 55)
  obtain ⟨w2, hw2⟩ : ∃ w2, w1.alloc (.cells #[.int .i64 hd.size, .int .i64 hd.chunk, .int .i64 hd.refs, .int .u32 (n32 hd.sum)] 55) = w2 := ⟨_, rfl⟩
  have HB2 : Hid (Below w.heap.size w w2) := Lib.hid (by rw [← hw2]; exact hb1.alloc hb1.size _)
  rw [hw2] at hr2
  have HW2 := Lib.hid hw2
  clear hw2 hb1
  go_upto_region 2 with fail
  rw [HW2.out]
  obtain ⟨c0, c1, c2, c3, cf⟩ := cells4 hr2
  clear hr2
  go_wp2_with fail
  refine (HCN.out w2).mono ?_
  rintro e w3 ⟨rfl, hb3⟩
  have HB3 := Lib.hid (HB2.out.trans (hb3.mono HB2.out.size))
  clear hb3
  go_wp2
  go_ret
  exact ⟨by rw [show decide (N ≤ 2000) = decide ((N : Int) ≤ 2000) from decide_eq_decide.2 (by omega)]; rfl, HB3.out⟩
end Go.Proofs.YtkbfefooaajhkaaDoor
