/- Apply: gf's and the reference's. -/
import Derived.Test.YtkecjgdmjhljnaaGfP
import Derived.Test.YtkecjgdmjhljnaaConcat
namespace Go.Proofs.Ytkecjgdmjhljnaa
open Go.RowKit Go.Deep

theorem applyElem (i j : Nat) (av : Option Addr) (nv cv : Nat) (lv : List UInt8) (b : Nat) (w : World) (hv : Bs w av nv cv lv) (c2 : w.cell? ⟨b, 0, none⟩ = some (.slice av nv cv)) (hi : i < nv) (hb : nv ≤ 255) :
    Calls Try.prog 58 #[.int .i64 i, .int .i64 j, .pointer (some ⟨b, 0, none⟩)] w fun e w' => e = .returned (.int .u8 (n8 (nth lv i))) ∧ ∃ q, w' = w.drewN q := by
  obtain ⟨b1, o1, rfl, d1⟩ := hv.byte hi
  have hi2 : i ≤ 255 := by omega
  clear hv
  go_enter Try.func58, Try.ntmps58
  go_wp2
  go_ret
  exact ⟨rfl, 0, rfl⟩
def Gf.applyOk (m : List (List UInt8)) (v : List UInt8) : Bool := Gf.right m && decide (v.length = (nth m 0).length)
def Gf.applyL (m : List (List UInt8)) (v : List UInt8) : List UInt8 := if Gf.applyOk m v = true then (List.range m.length).map (fun i => Gf.sm v.length (fun k => Gf.mul (at2 m i k) (nth v k))) else []
def Gf.applyE (m : List (List UInt8)) (v : List UInt8) : Int := if Gf.applyOk m v = true then 0 else 1
theorem apply_bad {m : List (List UInt8)} {v : List UInt8} (h : Gf.applyOk m v = false) : Gf.applyL m v = [] ∧ Gf.applyE m v = 1 := by
  unfold Gf.applyL Gf.applyE; rw [h]; exact ⟨rfl, rfl⟩
theorem apply_good {m : List (List UInt8)} {v : List UInt8} (h : Gf.applyOk m v = true) : Gf.applyL m v = (List.range m.length).map (fun i => Gf.sm v.length (fun k => Gf.mul (at2 m i k) (nth v k))) ∧ Gf.applyE m v = 0 := by
  unfold Gf.applyL Gf.applyE; rw [if_pos h, if_pos h]; exact ⟨rfl, rfl⟩
/-- Bytes and an error are told. -/
def VRes (l : List UInt8) (er : Int) (w : World) (e : Ending) (w' : World) : Prop :=
  (∃ a n c, e = .returned (.tuple #[.slice a n c, .int .i64 er]) ∧ Bs w' a n c l) ∧ Below w.heap.size w w'
theorem nil_vres {w w' : World} {er : Int} (hb : Below w.heap.size w w') : VRes [] er w (.returned (.tuple #[.slice none 0 0, .int .i64 er])) w' := ⟨⟨_, _, _, rfl, Bs.nil w'⟩, hb⟩

theorem at2_mat {n C : Nat} {Z : Nat → Nat → UInt8} {i j : Nat} (hi : i < n) (hj : j < C) : at2 (mat n C Z) i j = Z i j := by
  unfold at2
  rw [mat_row hi, nth_eq _ (by simpa using hj)]
  simp
theorem right_mat {n C : Nat} {Z : Nat → Nat → UInt8} (h1 : 1 ≤ n) (h2 : n ≤ 255) (h3 : 1 ≤ C) (h4 : C ≤ 255) : Gf.right (mat n C Z) = true :=
  right_eq (mat_len _ _ _) (n0 := C) (by rw [mat_row (by omega)]; simp) h1 h2 h3 h4 (fun k hk => by rw [mat_row hk]; simp)
theorem flatten_ones {α β : Type} (f : α → β) : ∀ l : List α, (l.map fun i => [f i]).flatten = l.map f
  | [] => rfl
  | a :: l => by simp only [List.map_cons, List.flatten_cons, flatten_ones f l]; rfl
theorem apply_times {m : List (List UInt8)} {v : List UInt8} (h : Gf.applyOk m v = true) (hv : v.length ≤ 255) :
    (Gf.timesL m (mat v.length 1 (fun i _ => nth v i))).flatten = Gf.applyL m v ∧ tot (Gf.timesL m (mat v.length 1 (fun i _ => nth v i))) ≤ 255 := by
  have h' := h
  unfold Gf.applyOk at h'
  rw [Bool.and_eq_true, decide_eq_true_eq] at h'
  obtain ⟨r1, r2, r3, r4, r5⟩ := right_spec h'.1
  have ht : Gf.timesOk m (mat v.length 1 (fun i _ => nth v i)) = true := by
    unfold Gf.timesOk
    rw [h'.1, right_mat (by omega) (by omega) (by omega) (by omega), mat_len, ← h'.2]
    simp
  have e : Gf.timesL m (mat v.length 1 (fun i _ => nth v i)) = (List.range m.length).map (fun i => [Gf.sm v.length (fun k => Gf.mul (at2 m i k) (nth v k))]) := by
    rw [(times_good ht).1, mat_len, mat_row (by omega)]
    simp only [List.length_map, List.length_range, mat]
    apply List.map_congr_left
    intro i hi
    show [_] = [_]
    congr 1
    apply Gf.sm_congr
    intro k hk
    rw [show at2 _ k 0 = nth v k from at2_mat hk (by omega)]
  have e2 : ((List.range m.length).map (fun i => [Gf.sm v.length (fun k => Gf.mul (at2 m i k) (nth v k))])).flatten = (List.range m.length).map (fun i => Gf.sm v.length (fun k => Gf.mul (at2 m i k) (nth v k))) := by
    exact flatten_ones _ _
  unfold tot
  rw [e, e2, (apply_good h).1]
  exact ⟨rfl, by simp; omega⟩

set_option maxHeartbeats 4000000 in
theorem apply_any (am av : Option Addr) (nm cm nv cv : Nat) (lm : List (List UInt8)) (lv : List UInt8) (w : World) (hm : Bss w am nm cm lm) (hv : Bs w av nv cv lv) :
    Calls Try.prog 34 #[.slice am nm cm, .slice av nv cv] w (VRes (Gf.applyL lm lv) (Gf.applyE lm lv) w) := by
  have hlm := hm.1
  have hlv := hv.1
  have hlem := hm.le.1
  have hlev := hv.le.1
  generalize hW0 : w.alloc (.cells #[.slice av nv cv] 56) = w0
  have hb0 : Below w.heap.size w w0 := by rw [← hW0]; exact (Below.refl _ _).alloc (Nat.le_refl _) _
  have HBm : Hid (∀ W, Below w0.heap.size w0 W → Bss W am nm cm lm) := Lib.hid fun W h => (hm.below hb0).below h
  have HBv : Hid (∀ W, Below w0.heap.size w0 W → Bs W av nv cv lv) := Lib.hid fun W h => (hv.below hb0).below h
  have c3 : w0.cell? ⟨w.heap.size, 0, none⟩ = some (.slice av nv cv) := by
    rw [← hW0]
    exact cell_of_row _ _ 0 #[.slice av nv cv] 56 (0, 0) (heap_alloc_new w _)
  have HW := Lib.hid hW0
  have HB0 := Lib.hid hb0
  clear hm hv hb0 hW0
  by_cases h1 : Gf.right lm = true
  case neg =>
    have h1 : Gf.right lm = false := by simpa using h1
    obtain ⟨e1, e2⟩ := apply_bad (m := lm) (v := lv) (by unfold Gf.applyOk; rw [h1]; rfl)
    rw [e1, e2]
    clear e1 e2
    have H1 := Lib.hid h1
    clear h1
    go_enter Try.func34, Try.ntmps34
    go_wp2_with fail
    rw [HW.out]
    refine wp_region_class (w0 := w0) (by kernel_rfl) (by kernel_rfl) (Below.refl _ _) ?_
    have l3 := BW.cell c3
    repeat (first | go_big_quiet_step ((go_at_call 27; exact calls_class (right_no H1.out (HBm.out _ (BW.b _))))))
    refine wpQuiet_nil ?_
    intro w1 hb1; replace hb1 := BW.of hb1
    clear l3
    have HS := Lib.hid hb1
    clear hb1
    go_wp2
    go_ret2
    exact nil_vres (HB0.out.trans (HS.out.mono HB0.out.size))
  have H1 := Lib.hid h1
  obtain ⟨r1, r2, r3, r4, r5⟩ := right_spec h1
  rw [hlm] at r1 r2 r5
  obtain ⟨bm, om, am0, nm0, cm0, rfl, dm, hm0⟩ := (HBm.out w0 (Below.refl _ _)).get (show 0 < nm by omega)
  have em := hm0.1
  rw [Nat.add_zero] at dm
  have hp1 : 0 < nm := by omega
  have hle3 : nm0 ≤ 9223372036854775807 := by omega
  by_cases h3 : nv = nm0
  case neg =>
    obtain ⟨e1, e2⟩ := apply_bad (m := lm) (v := lv) (by unfold Gf.applyOk; rw [h1, em, hlv, decide_eq_false h3]; rfl)
    rw [e1, e2]
    have t : ((nv : Int) != (nm0 : Int)) = true := by simp; omega
    clear e1 e2 h1 r1 r2 r3 r4 r5 em hlm hlv h3 hm0
    go_enter Try.func34, Try.ntmps34
    go_wp2_with fail
    rw [HW.out]
    refine wp_region_class (w0 := w0) (by kernel_rfl) (by kernel_rfl) (Below.refl _ _) ?_
    have l3 := BW.cell c3
    have l4 := BW.cell dm
    repeat (first | go_big_quiet_step ((go_at_call 27; exact calls_class (right_yes H1.out (HBm.out _ (BW.b _))))))
    refine wpQuiet_nil ?_
    intro w1 hb1; replace hb1 := BW.of hb1
    clear l3 l4
    have HS := Lib.hid hb1
    clear hb1
    go_wp2
    go_ret2
    exact nil_vres (HB0.out.trans (HS.out.mono HB0.out.size))
  have hok : Gf.applyOk lm lv = true := by unfold Gf.applyOk; rw [h1, em, hlv, decide_eq_true h3]; rfl
  have hnv : nv ≤ 255 := by omega
  have hat := apply_times hok (by rw [hlv]; exact hnv)
  rw [hlv] at hat
  rw [← hat.1, (apply_good hok).2]
  have HAT := Lib.hid hat.2
  have HTE : Hid (Gf.timesE lm (mat nv 1 (fun i _ => nth lv i)) = 0) := Lib.hid (times_good (by
    unfold Gf.timesOk
    rw [h1, right_mat (by omega) (by omega) (by omega) (by omega), mat_len, em, h3]
    simp)).2
  subst h3
  have t : ((nv : Int) != (nv : Int)) = false := by simp
  clear hat hok h1 r1 r2 r3 r4 r5 em hlm hlv hm0
  go_enter Try.func34, Try.ntmps34
  go_wp2_with fail
  rw [HW.out]
  refine wp_region_class (w0 := w0) (by kernel_rfl) (by kernel_rfl) (Below.refl _ _) ?_
  have l3 := BW.cell c3
  have l4 := BW.cell dm
  repeat (first | go_big_quiet_step ((go_at_call 27; exact calls_class (right_yes H1.out (HBm.out _ (BW.b _))))))
  refine wpQuiet_nil ?_
  intro w1 hb1; replace hb1 := BW.of hb1
  clear l3 l4
  have k3 := cell_later hb1 c3
  have HS := Lib.hid hb1
  have hel : Elem w1 58 #[.pointer (some ⟨w.heap.size, 0, none⟩)] nv 1 (fun i _ => nth lv i) := by
    intro V i j hV hi hj
    have hv : Below w0.heap.size w0 V := HS.out.trans (hV.mono HS.out.size)
    exact applyElem i j _ nv cv lv _ V (HBv.out V hv) (cell_later hv c3) hi hnv
  have HE := Lib.hid hel
  clear hel hb1 c3 dm
  have HN := Lib.hid hnv
  go_wp2_with fail
  refine (made_ex 58 _ nv 1 _ _ (enters_of Try.func58 (by kernel_rfl) rfl) (by have := HN.out; omega) (by omega) HE.out).mono ?_
  rintro e w2 ⟨g, bl, rfl, hx, hb2⟩
  have HX := Lib.hid (hx.bss (Nat.le_refl _) (by have := HN.out; simp only [maxLen]; omega) (by simp only [maxLen]; omega))
  have HS2 := Lib.hid (HS.out.trans (hb2.mono HS.out.size))
  clear hx hb2
  go_wp2_with fail
  refine (times_any _ _ nm cm nv nv lm _ w2 (HBm.out w2 HS2.out) HX.out).mono ?_
  rintro e w3 ⟨⟨a3, n3, c3, rfl, h3, _⟩, hb3⟩
  rw [HTE.out]
  have H3 := Lib.hid h3
  have HS3 := Lib.hid (HB0.out.trans ((HS2.out.trans (hb3.mono HS2.out.size)).mono HB0.out.size))
  clear h3 hb3
  go_wp2_with fail
  refine (concat_any _ _ _ _ w3 H3.out (by have := HAT.out; omega)).mono ?_
  rintro e w4 ⟨a4, n4, c4, rfl, h4, hb4⟩
  have HP : Hid (VRes (Gf.timesL lm (mat nv 1 (fun i _ => nth lv i))).flatten 0 w (.returned (.tuple #[.slice a4 n4 c4, .int .i64 0])) w4) := Lib.hid ⟨⟨_, _, _, rfl, h4.bs⟩, HS3.out.trans (hb4.mono HS3.out.size)⟩
  clear h4 hb4
  go_wp2
  go_ret2
  exact HP.out
end Go.Proofs.Ytkecjgdmjhljnaa
