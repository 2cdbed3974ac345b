/- Keys: Do. -/
import Derived.Test.YtkbfefooaajhkaaDoorExK
set_option maxRecDepth 100000
set_option linter.unusedVariables false
set_option linter.unusedSimpArgs false
namespace Go.Proofs.YtkbfefooaajhkaaDoor
open Go.RowKit

theorem Ws.setBox {w : World} {a : Option Addr} {n c bk : Nat} {l : List Wr} {t : TypeId} {q : Option Addr} {m k : Nat} {v : Value} (h : Ws w a n c l) (hb : Boxed w bk t (.slice q m k)) : Ws (w.setCell ⟨bk, 0, none⟩ v) a n c l := h.oth (oth_set w bk v) hb
theorem wr_box (w : World) (e : Wr) (a : Option Addr) (c : Nat) : WrAt (w.alloc (.cells #[.string (bstr e.key), .bool e.gone, .slice a e.val.length c] 33)) w.heap.size 0 e a c := by
  have h := heap_alloc_new w (.cells #[.string (bstr e.key), .bool e.gone, .slice a e.val.length c] 33)
  exact ⟨(cell_of_row _ _ 0 _ _ _ h).trans rfl, (cell_of_row _ _ 1 _ _ _ h).trans rfl, (cell_of_row _ _ 2 _ _ _ h).trans rfl⟩
theorem filter_snoc {α : Type} [Inhabited α] (p : α → Bool) (l : List α) {i : Nat} (hi : i < l.length) : (l.take (i + 1)).filter p = (l.take i).filter p ++ (if p (nth l i) = true then [nth l i] else []) := by
  rw [take_snoc l hi, List.filter_append]
  congr 1
  cases h : p (nth l i) <;> simp [h]
theorem does_snoc (L ws : List Wr) {i : Nat} (hi : i < ws.length) : Kv.does L (ws.take (i + 1)) = Kv.do1 (Kv.does L (ws.take i)) (nth ws i) := by
  unfold Kv.does; rw [take_snoc ws hi, List.foldl_append]; rfl
theorem do1_len (L : List Wr) (x : Wr) : (Kv.do1 L x).length ≤ L.length + 1 := by
  unfold Kv.do1
  have := List.length_filter_le (fun e : Wr => decide (e.key ≠ x.key)) L
  have h2 : (if x.gone = true then ([] : List Wr) else [x]).length ≤ 1 := by split <;> simp
  rw [List.length_append]
  omega
theorem does_len (L : List Wr) : ∀ ws : List Wr, (Kv.does L ws).length ≤ L.length + ws.length := by
  intro ws
  unfold Kv.does
  induction ws generalizing L with
  | nil => simp
  | cons x ws ih =>
    have h1 := ih (Kv.do1 L x)
    have h2 := do1_len L x
    simp only [List.foldl_cons, List.length_cons]
    omega
theorem boxed_set {w : World} {B : Nat} {t : TypeId} {u v : Value} (h : Boxed w B t u) : Boxed (w.setCell ⟨B, 0, none⟩ v) B t v := by
  show (w.heap.modify B _)[B]? = _
  have h' : w.heap[B]? = some (.cells #[u] t (0, 0)) := h
  obtain ⟨hlt, hk⟩ := Array.getElem?_eq_some_iff.1 h'
  rw [Array.getElem?_eq_getElem (by rw [Array.size_modify]; exact hlt), Array.getElem_modify_self, hk]
  rfl
set_option maxHeartbeats 8000000 in
theorem do_any (bk : Nat) (al : Option Addr) (nl cl : Nat) (L ws : List Wr) (w : World) (h : KeysAt w bk L) (hl : Ws w al nl cl ws) (hb : L.length + nl ≤ 1000000) :
    Calls Tryd.prog 11 #[.pointer (some ⟨bk, 0, none⟩), .slice al nl cl] w fun e w' => e = .returned (.tuple #[]) ∧ KeysAt w' bk (Kv.does L ws) ∧ Oth (some ⟨bk, 0, none⟩) w w' := by
  have hle := hl.le.1
  have HN := Lib.hid hl.1
  have HL := Lib.hid hl
  have HK := Lib.hid h
  obtain ⟨qa, qn, qc, HQ0, _⟩ := h
  have HQ := Lib.hid HQ0
  clear hl HQ0
  go_enter Tryd.func11, Tryd.ntmps11
  go_wp2_with fail
  go_loopw [4] (fun iv wr => ∃ i : Nat, i ≤ nl ∧ iv = .int .i64 i ∧ Hid (KeysAt wr bk (Kv.does L (ws.take i))) ∧ Hid (Oth (some ⟨bk, 0, none⟩) w wr)) (fun iv _ => nl - (intOf iv).toNat)
  case atStart => exact ⟨0, Nat.zero_le _, rfl, HK, Lib.hid (Oth.refl _ _)⟩
  case round =>
    obtain ⟨i, hi, rfl, hk, ho⟩ := hrel
    by_cases hin : i < nl
    · have HLR := Lib.hid (HL.out.oth ho.out HQ.out)
      have HDN := Lib.hid (does_snoc L ws (i := i) (by rw [HN.out]; exact hin))
      have HLEN : Hid ((Kv.does L (ws.take i)).length ≤ 1000000) := Lib.hid (by
        have h1 := does_len L (ws.take i)
        rw [List.length_take] at h1
        omega)
      generalize Kv.does L (ws.take i) = L1 at *
      obtain ⟨a, n, c, hbx, hws⟩ := hk.out
      have k0 := hbx.cell
      have HBX := Lib.hid hbx
      have HWS := Lib.hid hws
      have HN1 := Lib.hid hws.1
      have hn1 : n ≤ 1000000 := by rw [← hws.1]; exact HLEN.out
      have hle1 := hws.le.1
      obtain ⟨b, off, ai, ci, ea, hw1, hv1⟩ := HLR.out.vals hin
      subst ea
      have HW1 := Lib.hid hw1
      have HV1 := Lib.hid hv1
      generalize hx : nth ws i = x at *
      have q1 := hw1.key
      have q2 := hw1.gone
      have q3 := hw1.val
      clear hbx hws hw1 hv1 hx hk
      obtain ⟨w0, rfl⟩ : ∃ x, x = wr := ⟨wr, rfl⟩
      go_wp2_with fail
      go_loopw [5, 6] (fun ov jv wr => ∃ (j m co : Nat) (ao : Option Addr), j ≤ n ∧ m ≤ j ∧ jv = .int .i64 j ∧ ov = .slice ao m co ∧ Hid (AccW wr w0.heap.size ao m co ((L1.take j).filter fun e => decide (e.key ≠ x.key))) ∧ Hid (Below w0.heap.size w0 wr)) (fun _ jv _ => n - (intOf jv).toNat)
      case atStart => exact ⟨0, 0, 0, none, Nat.zero_le _, Nat.le_refl _, rfl, rfl, Lib.hid (AccW.nil _ _), Lib.hid (Below.refl _ _)⟩
      case round =>
        obtain ⟨j, m, co, ao, hj, hmj, rfl, rfl, hac, hbl⟩ := hrel
        have k0' := cell_later hbl.out k0
        have q1' := cell_later hbl.out q1
        have q2' := cell_later hbl.out q2
        have q3' := cell_later hbl.out q3
        by_cases hjn : j < n
        · obtain ⟨b2, o2, a2, c2, ea, he, hv⟩ := HWS.out.vals hjn
          subst ea
          have HFS := Lib.hid (filter_snoc (fun e : Wr => decide (e.key ≠ x.key)) L1 (i := j) (by rw [HN1.out]; exact hjn))
          have he' := he.below hbl.out
          have HV := Lib.hid (hv.below hbl.out)
          have HOLD := Lib.hid (fun (h0 : 0 < (nth L1 j).val.length) => hv.old h0)
          have c1 := he'.key
          have c2 := he'.gone
          have c3 := he'.val
          have HNEW := Lib.hid hac.out.new
          clear he hv he'
          generalize nth L1 j = y at *
          by_cases hxy : y.key = x.key
          · have HS2 : Hid ((L1.take (j + 1)).filter (fun e => decide (e.key ≠ x.key)) = (L1.take j).filter (fun e => decide (e.key ≠ x.key))) := Lib.hid (by rw [HFS.out]; simp [hxy])
            have t1 : ((bstr y.key).toList == (bstr x.key).toList) = true := by rw [bstr_beq]; exact decide_eq_true hxy
            have t2 : decide (y.key = x.key) = true := decide_eq_true hxy
            clear hxy HFS
            go_wp2_with fail
            refine wp_region_class (w0 := wr) (by kernel_rfl) (by kernel_rfl) (Below.refl _ _) ?_
            have m0 := BW.cell k0'
            have m1 := BW.cell q1'
            have m2 := BW.cell c1
            repeat (first | go_big_quiet_step (fail))
            refine wpQuiet_nil ?_
            intro w7 hb7; replace hb7 := BW.of hb7
            have HB7 := Lib.hid (hbl.out.trans (hb7.mono hbl.out.size))
            have HA7 := Lib.hid (hac.out.below hb7)
            clear hb7 m0 m1 m2
            go_wp2
            go_roundw
            case rel => exact ⟨j + 1, m, co, ao, by omega, by omega, by go_num, rfl, by rw [HS2.out]; exact HA7, HB7⟩
            case measure => simp [intOf]; omega
          · have HS2 : Hid ((L1.take (j + 1)).filter (fun e => decide (e.key ≠ x.key)) = (L1.take j).filter (fun e => decide (e.key ≠ x.key)) ++ [y]) := Lib.hid (by rw [HFS.out]; simp [hxy])
            have t1 : ((bstr y.key).toList == (bstr x.key).toList) = false := by rw [bstr_beq]; exact decide_eq_false hxy
            have t2 : decide (y.key = x.key) = false := decide_eq_false hxy
            clear hxy HFS
            go_wp2_with fail
            refine wp_region_class (w0 := wr) (by kernel_rfl) (by kernel_rfl) (Below.refl _ _) ?_
            have m0 := BW.cell k0'
            have m1 := BW.cell q1'
            have m2 := BW.cell c1
            repeat (first | go_big_quiet_step (fail))
            refine wpQuiet_nil ?_
            intro w7 hb7; replace hb7 := BW.of hb7
            have HB7 := Lib.hid (hbl.out.trans (hb7.mono hbl.out.size))
            have HA7 := Lib.hid (hac.out.below hb7)
            have HV7 := Lib.hid (HV.out.below hb7)
            have c1 := cell_later hb7 c1
            have c2 := cell_later hb7 c2
            have c3 := cell_later hb7 c3
            have k0' := cell_later hb7 k0'
            clear hb7 m0 m1 m2
            go_wp2_with (at_builtin; refine app_wr rfl _ _ rfl w0.heap.size rfl (HA7.out.below (below_alloc1 _ _)) rfl (wr_box _ y _ _) (HV7.out.below (below_alloc1 _ _)) (fun h5 p r hp hr e => by have h1 := HOLD.out h5 p hp; have h2 := (HNEW.out r hr).1; omega) (by omega) (le_alloc HB7.out.size) ?_; intro a4 c4 w4 h4 hb4 _; have H4 := Lib.hid h4; have HB4 := Lib.hid ((HB7.out.alloc HB7.out.size _).trans hb4); clear h4 hb4)
            go_roundw
            case rel => exact ⟨j + 1, m + 1, c4, a4, by omega, by omega, by go_num, rfl, by rw [HS2.out]; exact H4, HB4⟩
            case measure => simp [intOf]; omega
        · obtain rfl : n = j := by omega
          have e1 : L1.take n = L1 := by rw [← HN1.out, List.take_length]
          rw [e1] at hac
          clear e1
          have hbw := Boxed.below HBX.out hbl.out
          have b0 := hbw.cell
          have b1 := hbw.frozen
          have HBW := Lib.hid hbw
          have HSTEP : Hid (Kv.does L (ws.take (i + 1)) = L1.filter (fun e => decide (e.key ≠ x.key)) ++ if x.gone = true then [] else [x]) := HDN
          have HOT := Lib.hid (ho.out.trans (Oth.of_below hbl.out))
          clear hbw k0 k0' HDN
          cases hg : x.gone with
          | true =>
            rw [hg] at q2' HSTEP
            have HS2 : Hid (Kv.does L (ws.take (i + 1)) = L1.filter (fun e => decide (e.key ≠ x.key))) := Lib.hid (by rw [HSTEP.out]; simp)
            clear hg HSTEP
            go_wp2
            go_roundw
            case rel => exact ⟨i + 1, by omega, by go_num, Lib.hid (by rw [HS2.out]; exact ⟨ao, m, co, boxed_set HBW.out, hac.out.ws.setBox HBW.out⟩), Lib.hid (HOT.out.set rfl rfl _)⟩
            case measure => simp [intOf]; omega
          | false =>
            rw [hg] at q2' HSTEP
            have HS2 : Hid (Kv.does L (ws.take (i + 1)) = L1.filter (fun e => decide (e.key ≠ x.key)) ++ [x]) := Lib.hid (by rw [HSTEP.out]; simp)
            have HVX := Lib.hid (HV1.out.below hbl.out)
            have HOLD := Lib.hid (fun (h0 : 0 < x.val.length) => HV1.out.old h0)
            have HNEW := Lib.hid hac.out.new
            have HXB : Hid (WrAt (wr.alloc (.cells #[.string (bstr x.key), .bool false, .slice ai x.val.length ci] 33)) wr.heap.size 0 x ai ci) := Lib.hid (by have := wr_box wr x ai ci; rw [hg] at this; exact this)
            have hbo := Lib.hid (Boxed.below HBW.out (below_alloc1 wr (.cells #[.string (bstr x.key), .bool false, .slice ai x.val.length ci] 33)))
            have HAW := Lib.hid (hac.out.below (below_alloc1 wr (.cells #[.string (bstr x.key), .bool false, .slice ai x.val.length ci] 33)))
            clear hg HSTEP
            go_wp2_with (at_builtin; refine app_wr rfl _ _ rfl w0.heap.size rfl HAW.out rfl HXB.out (HVX.out.below (below_alloc1 _ _)) (fun h5 p r hp hr e => by have h1 := HOLD.out h5 p hp; have h2 := (HNEW.out r hr).1; omega) (by omega) (le_alloc hbl.out.size) ?_; intro a4 c4 w4 h4 hb4 hev4; have H4 := Lib.hid h4; have HB4 := Lib.hid ((hbl.out.alloc hbl.out.size _).trans hb4); have hbx4 : Boxed w4 bk 27 (.slice a n c) := Boxed.below HBX.out HB4.out; have b2 := hbx4.cell; have b3 := hbx4.frozen; have HBX4 := Lib.hid hbx4; clear h4 hb4 hev4 hbx4)
            go_roundw
            case rel => exact ⟨i + 1, by omega, by go_num, Lib.hid (by rw [HS2.out]; exact ⟨a4, m + 1, c4, boxed_set HBX4.out, H4.out.ws.setBox HBX4.out⟩), Lib.hid ((ho.out.trans (Oth.of_below HB4.out)).set rfl rfl _)⟩
            case measure => simp [intOf]; omega
    · obtain rfl : nl = i := by omega
      have e1 : ws.take nl = ws := by rw [← HN.out, List.take_length]
      rw [e1] at hk
      clear e1
      go_wp2
      go_end0
      exact ⟨rfl, hk.out, ho.out⟩
end Go.Proofs.YtkbfefooaajhkaaDoor
