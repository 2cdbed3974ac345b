/- The reference's Seen and Prune. -/
import Derived.Test.YtlipgaefflecaaaZCgK
set_option linter.unusedVariables false
set_option linter.unusedSimpArgs false
set_option maxRecDepth 100000
set_option linter.unusedSimpArgs false
namespace Go.Proofs.Ytlipgaefflecaaa
open Go.RowKit
set_option linter.unusedVariables false

theorem load_box2 (w : World) (x : Ent) (a : Option Addr) (c : Nat) {b : Bool} (h : x.gone = b) : EntAt (w.alloc (.cells #[.string (bstr x.key), .int .u64 x.seq, .bool b, .slice a x.val.length c] 57)) w.heap.size 0 x a c := by
  subst h; exact load_box w x a c
/-- The key before. -/
def Ent.pk (es : List Ent) (k : Nat) : Option (List UInt8) := if k = 0 then none else some (nth es (k - 1)).key
theorem pk_succ (es : List Ent) (k : Nat) : Ent.pk es (k + 1) = some (nth es k).key := by unfold Ent.pk; rw [if_neg (by omega), Nat.add_sub_cancel]
theorem drop_nth {es : List Ent} {k : Nat} (h : k < es.length) : es.drop k = nth es k :: es.drop (k + 1) := by rw [List.drop_eq_getElem_cons h, nth_eq _ h]
/-- How the flag stands behind the first test. -/
inductive Fl (es : List Ent) (k : Nat) (d : Bool) : Bool → Prop
  | start (h : k = 0) (hd : d = false) : Fl es k d false
  | same (j : Nat) (h : k = j + 1) (hk : (nth es (j + 1)).key = (nth es j).key) : Fl es k d d
  | other (j : Nat) (h : k = j + 1) (hk : ¬ (nth es (j + 1)).key = (nth es j).key) : Fl es k d false
theorem fl (es : List Ent) (k : Nat) (d : Bool) (h0 : k = 0 → d = false) : Fl es k d (d && decide (Ent.pk es k = some (nth es k).key)) := by
  cases k with
  | zero => rw [h0 rfl, Bool.false_and]; exact .start rfl rfl
  | succ j =>
    rw [pk_succ]
    by_cases h : (nth es (j + 1)).key = (nth es j).key
    · rw [decide_eq_true (by rw [h]), Bool.and_true]; exact .same j rfl h
    · rw [decide_eq_false (fun e => h (by simpa using e.symm)), Bool.and_false]; exact .other j rfl h
set_option maxHeartbeats 16000000 in
theorem refseen_any (a : Option Addr) (n c : Nat) (es : List Ent) (up : Nat) (w : World) (h : Es w a n c es) (hn : n ≤ 1000000) :
    Calls Try.prog 18 #[.slice a n c, .int .u64 up] w (fun e w' => RetEs (if Ent.rightB es = true then Ent.seen es up else []) (if Ent.rightB es = true then 0 else 15) w e w') := by
  have hle := h.le.1
  have HN := Lib.hid h.1
  have HE := Lib.hid h
  clear h
  cases hR : Ent.rightB es with
  | false =>
    have HM : Hid (∀ W, Es W a n c es → Calls Try.prog 7 #[.slice a n c] W fun e w' => e = .returned (.bool false) ∧ Below W.heap.size W w') := Lib.hid fun W h => by rw [← hR]; exact refright_any a n c es W h
    clear hR
    simp only [Bool.false_eq_true, if_false]
    go_enter Try.func18, Try.ntmps18
    go_wp2_with fail
    refine (HM.out _ HE.out).mono ?_
    rintro e w1 ⟨rfl, hb1⟩
    have HB1 := Lib.hid hb1
    clear hb1
    go_wp2
    go_ret2
    exact ret_es_nil HB1.out
  | true =>
    have HM : Hid (∀ W, Es W a n c es → Calls Try.prog 7 #[.slice a n c] W fun e w' => e = .returned (.bool true) ∧ Below W.heap.size W w') := Lib.hid fun W h => by rw [← hR]; exact refright_any a n c es W h
    have HT : Hid (Ent.seenGo up es none false = Ent.seen es up) := Lib.hid (Ent.seenGo_all (right_pairwise hR) up)
    clear hR
    simp only [if_true]
    go_enter Try.func18, Try.ntmps18
    go_wp2_with fail
    refine (HM.out _ HE.out).mono ?_
    rintro e w1 ⟨rfl, hb1⟩
    have HB1 := Lib.hid hb1
    clear hb1
    go_wp2_with fail
    go_loopw [6, 7, 8] (fun o d i wr => ∃ (k m co : Nat) (ao : Option Addr) (db : Bool) (ls : List Ent), k ≤ n ∧ (k = 0 → db = false) ∧ m ≤ k ∧ o = .slice ao m co ∧ d = .bool db ∧ i = .int .i64 k ∧ AccE wr w.heap.size ao m co ls ∧ Below w.heap.size w wr ∧ Hid (ls ++ Ent.seenGo up (es.drop k) (Ent.pk es k) db = Ent.seenGo up es none false)) (fun _ _ i _ => n - (intOf i).toNat)
    case atStart => exact ⟨0, 0, 0, none, false, [], Nat.zero_le _, fun _ => rfl, Nat.le_refl _, rfl, rfl, rfl, AccE.nil _ _, HB1.out, Lib.hid rfl⟩
    case round =>
      clear HB1
      obtain ⟨k, m, co, ao, db, ls, hk, h0, hm, rfl, rfl, rfl, hac, hb, hto⟩ := hrel
      by_cases hlt : k < n
      · obtain ⟨b1, o1, a1, d1, rfl, he1, hv1⟩ := HE.out.vals hlt
        have HOLD : Hid (0 < (nth es k).val.length → ∀ y, a1 = some y → y.block < w.heap.size) := Lib.hid (fun h => hv1.old h)
        have he2 := he1.below hb
        have p1 := he2.key
        have p2 := he2.seq
        have p3 := he2.gone
        have p4 := he2.val
        have hstep := hto.out
        rw [drop_nth (by rw [HN.out]; exact hlt), Ent.seenGo_cons] at hstep
        have hfl := fl es k db h0
        generalize hdf : (db && decide (Ent.pk es k = some (nth es k).key)) = df at *
        have HAC := Lib.hid hac
        have HB := Lib.hid hb
        have HV := Lib.hid (hv1.below hb)
        have HNEW := Lib.hid hac.new
        clear hdf hac hb he1 hv1 he2 hto h0
        rcases hfl with ⟨h, hd⟩ | ⟨j, h, hky⟩ | ⟨j, h, hky⟩
        · subst h
          subst hd
          have HPK := Lib.hid (pk_succ es 0)
          have t0 : decide ((0 : Nat) < 0) = false := rfl
          simp only [Nat.zero_mul, Nat.add_zero] at p1 p2 p3 p4
          rw [if_neg (by simp)] at hstep
          by_cases hs : up < (nth es (0)).seq
          · rw [if_pos hs] at hstep
            have HST := Lib.hid hstep
            have t5 : decide (up < (nth es (0)).seq) = true := decide_eq_true hs
            clear hstep hs
            go_wp2_with fail
            go_quiet (fail)
            clear t0
            go_wp2
            go_roundw
            case rel => exact ⟨0 + 1, m, co, ao, false, ls, by omega, fun h => by omega, by omega, rfl, rfl, by go_num, HAC.out.below (below_drewN (Below.refl _ _) _), below_drewN HB.out _, by rw [HPK.out]; exact HST⟩
            case measure => simp [intOf]; omega
          · rw [if_neg hs] at hstep
            have t5 : decide (up < (nth es (0)).seq) = false := decide_eq_false hs
            cases hgo : (nth es (0)).gone with
            | true =>
              rw [hgo] at hstep p3
              have HGO := Lib.hid hgo
              rw [if_pos rfl, List.nil_append] at hstep
              have HST := Lib.hid hstep
              clear hstep hs hgo
              go_wp2_with fail
              go_quiet (fail)
              clear t0
              go_wp2
              go_roundw
              case rel => exact ⟨0 + 1, m, co, ao, true, ls, by omega, fun h => by omega, by omega, rfl, rfl, by go_num, HAC.out.below (below_drewN (Below.refl _ _) _), below_drewN HB.out _, by rw [HPK.out]; exact HST⟩
              case measure => simp [intOf]; omega
            | false =>
              rw [hgo] at hstep p3
              have HGO := Lib.hid hgo
              rw [if_neg (by simp), ← List.append_assoc] at hstep
              have HST := Lib.hid hstep
              clear hstep hs hgo
              go_wp2_with fail
              go_quiet (fail)
              clear t0
              go_wp2_with (at_builtin; refine app_ent rfl _ _ rfl w.heap.size rfl ((HAC.out.below (below_drewN (Below.refl _ _) _)).below (below_alloc1 _ _)) rfl (load_box2 _ (nth es (0)) _ _ HGO.out) ((HV.out.below (below_drewN (Below.refl _ _) _)).below (below_alloc1 _ _)) (fun h5 x y hx hy e => by have h1 := HOLD.out h5 x hx; have h2 := (HNEW.out y hy).1; omega) (by omega) (le_alloc HB.out.size) ?_; intro a4 c4 w4 h4 hb4 _; have H4 := Lib.hid h4; have HB4 := Lib.hid (((below_drewN HB.out _).alloc HB.out.size _).trans hb4); clear h4 hb4)
              go_roundw
              case rel => exact ⟨0 + 1, m + 1, c4, a4, true, ls ++ [nth es (0)], by omega, fun h => by omega, by omega, rfl, rfl, by go_num, H4.out, HB4.out, by rw [HPK.out]; exact HST⟩
              case measure => simp [intOf]; omega
        · subst h
          have HPK := Lib.hid (pk_succ es (j + 1))
          have t0 : decide (0 < j + 1) = true := decide_eq_true (by omega)
          have z1 : IntKind.i64.wrap (((j + 1 : Nat) : Int) - 1) = (j : Int) := by rw [IntKind.wrap_i64]; omega
          have z2 : (0 : Int) ≤ (j : Int) := by omega
          obtain ⟨b5, o5, a5, d5, e5, he5, _⟩ := HE.out.vals (i := j) (by omega)
          cases e5
          have q1 := (he5.below HB.out).key
          have t1 : decide ((nth es (j + 1)).key = (nth es j).key) = true := decide_eq_true hky
          have t2 : ((bstr (nth es (j + 1)).key).toList == (bstr (nth es j).key).toList) = true := by rw [bstr_beq]; exact t1
          have t3 : ((bstr (nth es (j + 1)).key).toList != (bstr (nth es j).key).toList) = false := by rw [bne, t2]; rfl
          clear hky he5
          cases db with
          | false =>
            rw [if_neg (by simp)] at hstep
            by_cases hs : up < (nth es (j + 1)).seq
            · rw [if_pos hs] at hstep
              have HST := Lib.hid hstep
              have t5 : decide (up < (nth es (j + 1)).seq) = true := decide_eq_true hs
              clear hstep hs
              go_wp2_with fail
              go_quiet (fail)
              clear t0
              go_wp2
              go_roundw
              case rel => exact ⟨j + 1 + 1, m, co, ao, false, ls, by omega, fun h => by omega, by omega, rfl, rfl, by go_num, HAC.out.below (below_drewN (Below.refl _ _) _), below_drewN HB.out _, by rw [HPK.out]; exact HST⟩
              case measure => simp [intOf]; omega
            · rw [if_neg hs] at hstep
              have t5 : decide (up < (nth es (j + 1)).seq) = false := decide_eq_false hs
              cases hgo : (nth es (j + 1)).gone with
              | true =>
                rw [hgo] at hstep p3
                have HGO := Lib.hid hgo
                rw [if_pos rfl, List.nil_append] at hstep
                have HST := Lib.hid hstep
                clear hstep hs hgo
                go_wp2_with fail
                go_quiet (fail)
                clear t0
                go_wp2
                go_roundw
                case rel => exact ⟨j + 1 + 1, m, co, ao, true, ls, by omega, fun h => by omega, by omega, rfl, rfl, by go_num, HAC.out.below (below_drewN (Below.refl _ _) _), below_drewN HB.out _, by rw [HPK.out]; exact HST⟩
                case measure => simp [intOf]; omega
              | false =>
                rw [hgo] at hstep p3
                have HGO := Lib.hid hgo
                rw [if_neg (by simp), ← List.append_assoc] at hstep
                have HST := Lib.hid hstep
                clear hstep hs hgo
                go_wp2_with fail
                go_quiet (fail)
                clear t0
                go_wp2_with (at_builtin; refine app_ent rfl _ _ rfl w.heap.size rfl ((HAC.out.below (below_drewN (Below.refl _ _) _)).below (below_alloc1 _ _)) rfl (load_box2 _ (nth es (j + 1)) _ _ HGO.out) ((HV.out.below (below_drewN (Below.refl _ _) _)).below (below_alloc1 _ _)) (fun h5 x y hx hy e => by have h1 := HOLD.out h5 x hx; have h2 := (HNEW.out y hy).1; omega) (by omega) (le_alloc HB.out.size) ?_; intro a4 c4 w4 h4 hb4 _; have H4 := Lib.hid h4; have HB4 := Lib.hid (((below_drewN HB.out _).alloc HB.out.size _).trans hb4); clear h4 hb4)
                go_roundw
                case rel => exact ⟨j + 1 + 1, m + 1, c4, a4, true, ls ++ [nth es (j + 1)], by omega, fun h => by omega, by omega, rfl, rfl, by go_num, H4.out, HB4.out, by rw [HPK.out]; exact HST⟩
                case measure => simp [intOf]; omega
          | true =>
            have HST := Lib.hid hstep
            rw [if_pos rfl] at HST
            clear hstep
            go_wp2_with fail
            go_quiet (fail)
            clear t0
            go_wp2
            go_roundw
            case rel => exact ⟨j + 1 + 1, m, co, ao, true, ls, by omega, fun h => by omega, by omega, rfl, rfl, by go_num, HAC.out.below (below_drewN (Below.refl _ _) _), below_drewN HB.out _, by rw [HPK.out]; exact HST⟩
            case measure => simp [intOf]; omega
        · subst h
          have HPK := Lib.hid (pk_succ es (j + 1))
          have t0 : decide (0 < j + 1) = true := decide_eq_true (by omega)
          have z1 : IntKind.i64.wrap (((j + 1 : Nat) : Int) - 1) = (j : Int) := by rw [IntKind.wrap_i64]; omega
          have z2 : (0 : Int) ≤ (j : Int) := by omega
          obtain ⟨b5, o5, a5, d5, e5, he5, _⟩ := HE.out.vals (i := j) (by omega)
          cases e5
          have q1 := (he5.below HB.out).key
          have t1 : decide ((nth es (j + 1)).key = (nth es j).key) = false := decide_eq_false hky
          have t2 : ((bstr (nth es (j + 1)).key).toList == (bstr (nth es j).key).toList) = false := by rw [bstr_beq]; exact t1
          have t3 : ((bstr (nth es (j + 1)).key).toList != (bstr (nth es j).key).toList) = true := by rw [bne, t2]; rfl
          clear hky he5
          rw [if_neg (by simp)] at hstep
          by_cases hs : up < (nth es (j + 1)).seq
          · rw [if_pos hs] at hstep
            have HST := Lib.hid hstep
            have t5 : decide (up < (nth es (j + 1)).seq) = true := decide_eq_true hs
            clear hstep hs
            cases db
            all_goals
              go_wp2_with fail
              go_quiet (fail)
              clear t0
              go_wp2
              go_roundw
              case rel => exact ⟨j + 1 + 1, m, co, ao, false, ls, by omega, fun h => by omega, by omega, rfl, rfl, by go_num, HAC.out.below (below_drewN (Below.refl _ _) _), below_drewN HB.out _, by rw [HPK.out]; exact HST⟩
              case measure => simp [intOf]; omega
          · rw [if_neg hs] at hstep
            have t5 : decide (up < (nth es (j + 1)).seq) = false := decide_eq_false hs
            cases hgo : (nth es (j + 1)).gone with
            | true =>
              rw [hgo] at hstep p3
              have HGO := Lib.hid hgo
              rw [if_pos rfl, List.nil_append] at hstep
              have HST := Lib.hid hstep
              clear hstep hs hgo
              cases db
              all_goals
                go_wp2_with fail
                go_quiet (fail)
                clear t0
                go_wp2
                go_roundw
                case rel => exact ⟨j + 1 + 1, m, co, ao, true, ls, by omega, fun h => by omega, by omega, rfl, rfl, by go_num, HAC.out.below (below_drewN (Below.refl _ _) _), below_drewN HB.out _, by rw [HPK.out]; exact HST⟩
                case measure => simp [intOf]; omega
            | false =>
              rw [hgo] at hstep p3
              have HGO := Lib.hid hgo
              rw [if_neg (by simp), ← List.append_assoc] at hstep
              have HST := Lib.hid hstep
              clear hstep hs hgo
              cases db
              all_goals
                go_wp2_with fail
                go_quiet (fail)
                clear t0
                go_wp2_with (at_builtin; refine app_ent rfl _ _ rfl w.heap.size rfl ((HAC.out.below (below_drewN (Below.refl _ _) _)).below (below_alloc1 _ _)) rfl (load_box2 _ (nth es (j + 1)) _ _ HGO.out) ((HV.out.below (below_drewN (Below.refl _ _) _)).below (below_alloc1 _ _)) (fun h5 x y hx hy e => by have h1 := HOLD.out h5 x hx; have h2 := (HNEW.out y hy).1; omega) (by omega) (le_alloc HB.out.size) ?_; intro a4 c4 w4 h4 hb4 _; have H4 := Lib.hid h4; have HB4 := Lib.hid (((below_drewN HB.out _).alloc HB.out.size _).trans hb4); clear h4 hb4)
                go_roundw
                case rel => exact ⟨j + 1 + 1, m + 1, c4, a4, true, ls ++ [nth es (j + 1)], by omega, fun h => by omega, by omega, rfl, rfl, by go_num, H4.out, HB4.out, by rw [HPK.out]; exact HST⟩
                case measure => simp [intOf]; omega
      · obtain rfl : k = n := by omega
        have e1 : ls = Ent.seen es up := by
          have := hto.out
          rw [List.drop_eq_nil_of_le (by rw [HN.out]; exact Nat.le_refl _)] at this
          rw [← HT.out, ← this]
          exact (List.append_nil _).symm
        have HAC := Lib.hid hac
        have HB := Lib.hid hb
        have E1 := Lib.hid e1
        clear hac hb e1 hto
        go_wp2
        go_ret2
        exact ⟨_, _, _, rfl, by rw [← E1.out]; exact HAC.out, HB.out⟩
end Go.Proofs.Ytlipgaefflecaaa
