/- The walks of MergeCompares, MergeSees. -/
import Derived.Test.YtmmlgcfhcdpolaaMgM
namespace Go.Proofs.Ytmmlgcfhcdpolaa
open Go.RowKit
set_option linter.unusedVariables false

theorem tot_mem {l : List Ent} {e : Ent} (h : e ∈ l) : e.key.length + e.val.length ≤ Ent.tot l := by
  induction l with
  | nil => cases h
  | cons x l ih =>
    unfold Ent.tot at *
    simp only [List.map_cons, List.sum_cons]
    rcases List.mem_cons.1 h with h | h
    · subst h; omega
    · have := ih h; omega
theorem few_yes {l : List Ent} {n most : Nat} (h : decide (n ≤ most ∧ Ent.tot l ≤ 131072) = true) : n ≤ most ∧ ∀ e ∈ l, e.val.length ≤ 1000000000 := by
  have h1 := of_decide_eq_true h
  exact ⟨h1.1, fun e he => by have := tot_mem he; omega⟩
theorem srows_same (a a' : Option Addr) (n c n' c' : Nat) (l : List Ent) (w : World) (h : Es w a n c l) (h' : Es w a' n' c' l) :
    Calls Try.prog 18 #[.slice a n c, .slice a' n' c'] w fun e w' => e = .returned (.bool true) ∧ Below w.heap.size w w' :=
  (srows_any a a' n c n' c' l l w h h').mono fun e w' ⟨h1, h2⟩ => ⟨by rw [h1]; simp, h2⟩
def Ent.erE (l : List Ent) : Int := if Ent.rightB l = true then 0 else 15
def Ent.seenE (l : List Ent) (up : Nat) : List Ent := if Ent.rightB l = true then Ent.seen l up else []
def Ent.pruneE (l : List Ent) (keep : Nat) (bottom : Bool) : List Ent := if Ent.rightB l = true then Ent.prune l keep bottom else []
theorem seen_e (a : Option Addr) (n c : Nat) (es : List Ent) (up : Nat) (w : World) (h : Es w a n c es) (hn : n ≤ 30000) (hv : ∀ e ∈ es, e.val.length ≤ 1000000000) :
    Calls Try.prog 16 #[.slice a n c, .int .u64 up] w (RetEs (Ent.seenE es up) (Ent.erE es) w) := seen_any a n c es up w h hn hv
theorem prune_e (a : Option Addr) (n c : Nat) (es : List Ent) (keep : Nat) (bottom : Bool) (w : World) (h : Es w a n c es) (hn : n ≤ 30000) (hv : ∀ e ∈ es, e.val.length ≤ 1000000000) :
    Calls Try.prog 19 #[.slice a n c, .int .u64 keep, .bool bottom] w (RetEs (Ent.pruneE es keep bottom) (Ent.erE es) w) := prune_any a n c es keep bottom w h hn hv
theorem refseen_e (a : Option Addr) (n c : Nat) (es : List Ent) (up : Nat) (w : World) (h : Es w a n c es) (hn : n ≤ 1000000) :
    Calls Try.prog 17 #[.slice a n c, .int .u64 up] w (RetEs (Ent.seenE es up) (Ent.erE es) w) := refseen_any a n c es up w h hn
theorem refprune_e (a : Option Addr) (n c : Nat) (es : List Ent) (keep : Nat) (bottom : Bool) (w : World) (h : Es w a n c es) (hn : n ≤ 1000000) :
    Calls Try.prog 20 #[.slice a n c, .int .u64 keep, .bool bottom] w (RetEs (Ent.pruneE es keep bottom) (Ent.erE es) w) := refprune_any a n c es keep bottom w h hn
theorem nums_same (k : Int) : (k != k) = false ∧ (k == k) = true := ⟨by simp, by simp⟩
set_option maxHeartbeats 4000000 in
theorem mergeSees_walk (a : Option Addr) (n c : Nat) (l : List Ent) (up : Nat) (bottom : Bool) (w : World) (h : Es w a n c l) (hf : Ent.tot l + n ≤ 1000000000) :
    Calls Try.prog 4 #[.slice a n c, .int .u64 up, .bool bottom] w fun e w' => e = .returned (.bool true) ∧ Below w.heap.size w w' := by
  have hle := h.le.1
  have HE := Lib.hid h
  have HF := Lib.hid hf
  have HN := Lib.hid nums_same
  clear h hf
  go_enter Try.func4, Try.ntmps4
  go_wp2_with fail
  refine (known_any _).mono ?_
  rintro e w1 ⟨rfl, hb1⟩
  have HB1 := Lib.hid hb1
  clear hb1
  go_wp2_with fail
  refine (efew_any a n c l 1000 _ (HE.out.below HB1.out) HF.out (by omega)).mono ?_
  rintro e w2 ⟨rfl, q, rfl⟩
  have HB2 := Lib.hid (below_drewN HB1.out q)
  cases hfw : decide (n ≤ 1000 ∧ Ent.tot l ≤ 131072) with
  | false =>
    clear hfw
    go_wp2
    go_ret
    exact ⟨rfl, HB2.out⟩
  | true =>
    have HFW := Lib.hid (few_yes hfw)
    clear hfw
    go_wp2_with fail
    refine (seen_e a n c l up _ (HE.out.below HB2.out) (by have := HFW.out.1; omega) HFW.out.2).mono ?_
    rintro e w3 ⟨a3, n3, c3, rfl, ha3, hb3⟩
    have HA3 := Lib.hid ha3.es
    have HB3 := Lib.hid (HB2.out.trans (hb3.mono HB2.out.size))
    clear ha3 hb3
    go_wp2_with fail
    refine (refseen_e a n c l up _ (HE.out.below HB3.out) (by have := HFW.out.1; omega)).mono ?_
    rintro e w4 ⟨a4, n4, c4, rfl, ha4, hb4⟩
    have HA4 := Lib.hid ha4.es
    have HA34 := Lib.hid (HA3.out.below hb4)
    have HB4 := Lib.hid (HB3.out.trans (hb4.mono HB3.out.size))
    clear ha4 hb4 HA3
    have s1 := (HN.out (Ent.erE l)).1
    have s2 := (HN.out (Ent.erE l)).2
    go_wp2_with fail
    refine (srows_same _ _ _ _ _ _ _ _ HA34.out HA4.out).mono ?_
    rintro e w5 ⟨rfl, hb5⟩
    have HB5 := Lib.hid (HB4.out.trans (hb5.mono HB4.out.size))
    clear hb5
    go_wp2_with fail
    refine (prune_e a n c l up bottom w5 (HE.out.below HB5.out) (by have := HFW.out.1; omega) HFW.out.2).mono ?_
    rintro e w6 ⟨a6, n6, c6, rfl, ha6, hb6⟩
    have HA6 := Lib.hid ha6.es
    have HB6 := Lib.hid (HB5.out.trans (hb6.mono HB5.out.size))
    clear ha6 hb6
    go_wp2_with fail
    refine (refprune_e a n c l up bottom w6 (HE.out.below HB6.out) (by have := HFW.out.1; omega)).mono ?_
    rintro e w7 ⟨a7, n7, c7, rfl, ha7, hb7⟩
    have HA7 := Lib.hid ha7.es
    have HA67 := Lib.hid (HA6.out.below hb7)
    have HB7 := Lib.hid (HB6.out.trans (hb7.mono HB6.out.size))
    clear ha7 hb7 HA6
    go_wp2_with fail
    refine (srows_same _ _ _ _ _ _ _ _ HA67.out HA7.out).mono ?_
    rintro e w8 ⟨rfl, hb8⟩
    have HB8 := Lib.hid (HB7.out.trans (hb8.mono HB7.out.size))
    clear hb8
    go_wp2
    go_ret
    exact ⟨rfl, HB8.out⟩
theorem two_es (w : World) (x y : Ent) (ax ay : Option Addr) (cx cy : Nat) (hx : Bs w ax x.val.length cx x.val) (hy : Bs w ay y.val.length cy y.val) :
    Es (w.alloc (.cells #[.string (bstr x.key), .int .u64 x.seq, .bool x.gone, .slice ax x.val.length cx, .string (bstr y.key), .int .u64 y.seq, .bool y.gone, .slice ay y.val.length cy] 25)) (some ⟨w.heap.size, 0, none⟩) 2 2 [x, y] := by
  have hn := heap_alloc_new w (.cells #[.string (bstr x.key), .int .u64 x.seq, .bool x.gone, .slice ax x.val.length cx, .string (bstr y.key), .int .u64 y.seq, .bool y.gone, .slice ay y.val.length cy] 25)
  have e3 := below_alloc1 w (.cells #[.string (bstr x.key), .int .u64 x.seq, .bool x.gone, .slice ax x.val.length cx, .string (bstr y.key), .int .u64 y.seq, .bool y.gone, .slice ay y.val.length cy] 25)
  refine ⟨rfl, Nat.le_refl _, by simp [maxLen], fun i hi => ?_⟩
  have hc := fun j => cell_of_row _ _ j _ _ _ hn
  match i, hi with
  | 0, _ => exact ⟨w.heap.size, 0, _, _, rfl, ⟨hc 0, hc 1, hc 2, hc 3⟩, hx.below e3⟩
  | 1, _ => exact ⟨w.heap.size, 0, _, _, rfl, ⟨hc 4, hc 5, hc 6, hc 7⟩, hy.below e3⟩
  | i + 2, hi => omega
set_option maxHeartbeats 4000000 in
theorem mergeCompares_walk (x y : Ent) (ax ay : Option Addr) (cx cy : Nat) (a : Option Addr) (n c : Nat) (l : List Ent) (w : World) (hx : Bs w ax x.val.length cx x.val) (hy : Bs w ay y.val.length cy y.val) (h : Es w a n c l) (hf : Ent.tot l + n ≤ 1000000000) (hf2 : Ent.tot [x, y] + 2 ≤ 1000000000) :
    Calls Try.prog 3 #[ev x ax cx, ev y ay cy, .slice a n c] w fun e w' => e = .returned (.bool true) ∧ Below w.heap.size w w' := by
  have hle := h.le.1
  have hlx := hx.le
  have hly := hy.le
  have HE := Lib.hid h
  have HX := Lib.hid hx
  have HY := Lib.hid hy
  have HF := Lib.hid hf
  have HF2 := Lib.hid hf2
  have HB0 := Lib.hid (two_boxes w (.cells #[.string (bstr x.key), .int .u64 x.seq, .bool x.gone, .slice ax x.val.length cx] 25) (.cells #[.string (bstr y.key), .int .u64 y.seq, .bool y.gone, .slice ay y.val.length cy] 25))
  have e1 := (load_box w x ax cx).below (below_alloc1 _ (.cells #[.string (bstr y.key), .int .u64 y.seq, .bool y.gone, .slice ay y.val.length cy] 25))
  have e2 := load_box (w.alloc (.cells #[.string (bstr x.key), .int .u64 x.seq, .bool x.gone, .slice ax x.val.length cx] 25)) y ay cy
  rw [World.size_alloc] at e2
  have HE1 := Lib.hid e1
  have HE2 := Lib.hid e2
  clear h hf hx hy hf2 e1 e2
  unfold ev
  go_enter Try.func3, Try.ntmps3
  go_wp2_with fail
  refine (known_any _).mono ?_
  rintro e w1 ⟨rfl, hb1⟩
  have HB1 := Lib.hid (HB0.out.trans (hb1.mono HB0.out.size))
  have g1 := HE1.out.below hb1
  have g2 := HE2.out.below hb1
  clear hb1 HE1 HE2
  go_wp2_with fail
  refine (efew_any a n c l 1000 _ (HE.out.below HB1.out) HF.out (by omega)).mono ?_
  rintro e w2 ⟨rfl, q, rfl⟩
  have HB2 := Lib.hid (below_drewN HB1.out q)
  have G1 := Lib.hid (g1.below (below_drewN (Below.refl _ w1) q))
  have G2 := Lib.hid (g2.below (below_drewN (Below.refl _ w1) q))
  clear g1 g2
  cases hfw : decide (n ≤ 1000 ∧ Ent.tot l ≤ 131072) with
  | false =>
    clear hfw
    go_wp2
    go_ret
    exact ⟨rfl, HB2.out⟩
  | true =>
    clear hfw
    have p1 := G1.out.key
    have p2 := G1.out.seq
    have p3 := G1.out.gone
    have p4 := G1.out.val
    have q1 := G2.out.key
    have q2 := G2.out.seq
    have q3 := G2.out.gone
    have q4 := G2.out.val
    go_wp2_with fail
    have h2s := (two_es (w1.drewN q) x y ax ay cx cy (HX.out.below HB2.out) (HY.out.below HB2.out))
    have hA := below_alloc1 (w1.drewN q) (.cells #[.string (bstr x.key), .int .u64 x.seq, .bool x.gone, .slice ax x.val.length cx, .string (bstr y.key), .int .u64 y.seq, .bool y.gone, .slice ay y.val.length cy] 25)
    have g1 := G1.out.below hA
    have g2 := G2.out.below hA
    have HB3 := Lib.hid (HB2.out.trans (hA.mono HB2.out.size))
    clear p1 p2 p3 p4 q1 q2 q3 q4 G1 G2 hA
    refine (efew_any (some ⟨w1.heap.size, 0, none⟩) 2 2 [x, y] 2 _ h2s HF2.out (by omega)).mono ?_
    rintro e w2 ⟨rfl, q2, rfl⟩
    have HB4 := Lib.hid (below_drewN HB3.out q2)
    have k1 := g1.below (below_drewN (Below.refl _ _) q2)
    have k2 := g2.below (below_drewN (Below.refl _ _) q2)
    clear h2s g1 g2
    cases hfw : decide (2 ≤ 2 ∧ Ent.tot [x, y] ≤ 131072) with
    | false =>
      clear hfw k1 k2
      go_wp2
      go_ret
      exact ⟨rfl, HB4.out⟩
    | true =>
      clear hfw
      generalize (((w1.drewN q).alloc (.cells #[.string (bstr x.key), .int .u64 x.seq, .bool x.gone, .slice ax x.val.length cx, .string (bstr y.key), .int .u64 y.seq, .bool y.gone, .slice ay y.val.length cy] 25)).drewN q2) = W at *
      have p1 := k1.key
      have p2 := k1.seq
      have p3 := k1.gone
      have p4 := k1.val
      have q1 := k2.key
      have q2' := k2.seq
      have q3 := k2.gone
      have q4 := k2.val
      clear k1 k2
      go_wp2_with fail
      refine wp_region_class (w0 := W) (by kernel_rfl) (by kernel_rfl) (Below.refl _ _) ?_
      have m1 := BW.cell p1
      have m2 := BW.cell p2
      have m3 := BW.cell p3
      have m4 := BW.cell p4
      have n1 := BW.cell q1
      have n2 := BW.cell q2'
      have n3 := BW.cell q3
      have n4 := BW.cell q4
      have HC1 := Lib.hid (fun V : World => cmp_any x y ax ay cx cy V)
      have HC2 := Lib.hid (fun V : World => refcmp_any x y ax ay cx cy V)
      have HR1 := Lib.hid (fun V : BW W => mright_any a n c l V.w (HE.out.below (HB4.out.trans (V.b.mono HB4.out.size))))
      have HR2 := Lib.hid (fun V : BW W => refright_any a n c l V.w (HE.out.below (HB4.out.trans (V.b.mono HB4.out.size))))
      have s0 : ((Ent.cmp x y : Int) == Ent.cmp x y) = true := by simp
      generalize Ent.cmp x y = cm at *
      generalize Ent.rightB l = rb at *
      repeat (first | go_big_quiet_step ((go_at_call 12; exact calls_class (HC1.out _))) | go_big_quiet_step ((go_at_call 13; exact calls_class (HC2.out _))) | go_big_quiet_step ((go_at_call 14; exact calls_class (HR1.out _))) | go_big_quiet_step ((go_at_call 15; exact calls_class (HR2.out _))))
      refine wpQuiet_nil ?_
      intro w9 hb9; replace hb9 := BW.of hb9
      have HB9 := Lib.hid (HB4.out.trans (hb9.mono HB4.out.size))
      clear hb9 m1 m2 m3 m4 n1 n2 n3 n4
      go_wp2
      go_ret
      exact ⟨by simp, HB9.out⟩
end Go.Proofs.Ytmmlgcfhcdpolaa
