/- Slices of entries that are read; Same, SameRows, Few. -/
import Derived.Test.YtchdmjnhjonddaaCgB
set_option maxRecDepth 100000
set_option linter.unusedVariables false
set_option linter.unusedSimpArgs false
namespace Go.Proofs.Ytchdmjnhjonddaa
open Go.RowKit

/-- The cells of an entry. -/
structure EntAt (w : World) (b o : Nat) (e : Ent) (a : Option Addr) (c : Nat) : Prop where
  key : w.cell? ⟨b, o, none⟩ = some (.string (bstr e.key))
  seq : w.cell? ⟨b, o + 1, none⟩ = some (.int .u64 e.seq)
  gone : w.cell? ⟨b, o + 2, none⟩ = some (.bool e.gone)
  val : w.cell? ⟨b, o + 3, none⟩ = some (.slice a e.val.length c)
theorem EntAt.below {w w' : World} {b o : Nat} {e : Ent} {a : Option Addr} {c : Nat} (h : EntAt w b o e a c) (k : Below w.heap.size w w') : EntAt w' b o e a c :=
  ⟨cell_later k h.key, cell_later k h.seq, cell_later k h.gone, cell_later k h.val⟩
/-- A slice of entries that is read. -/
def Es (w : World) (a : Option Addr) (n c : Nat) (l : List Ent) : Prop :=
  l.length = n ∧ n ≤ c ∧ c ≤ maxLen ∧ ∀ i, i < n → ∃ b off ai ci, a = some ⟨b, off, none⟩ ∧ EntAt w b (off + i * 4) (nth l i) ai ci ∧ Bs w ai (nth l i).val.length ci (nth l i).val
theorem Es.below {w w' : World} {a : Option Addr} {n c : Nat} {l : List Ent} (h : Es w a n c l) (k : Below w.heap.size w w') : Es w' a n c l :=
  ⟨h.1, h.2.1, h.2.2.1, fun i hi => by obtain ⟨b, off, ai, ci, h1, h2, h3⟩ := h.2.2.2 i hi; exact ⟨b, off, ai, ci, h1, h2.below k, h3.below k⟩⟩
theorem Es.le {w : World} {a : Option Addr} {n c : Nat} {l : List Ent} (h : Es w a n c l) : n ≤ 9223372036854775807 ∧ c ≤ 9223372036854775807 := by
  have := h.2.1; have := h.2.2.1; simp only [maxLen] at *; omega
theorem Es.nil (w : World) : Es w none 0 0 [] := ⟨rfl, Nat.le_refl _, by simp [maxLen], fun i hi => by omega⟩

def Ent.tot (l : List Ent) : Nat := (l.map fun e => e.key.length + e.val.length).sum
theorem Ent.tot_snoc (l : List Ent) {i : Nat} (hi : i < l.length) : Ent.tot (l.take (i + 1)) = Ent.tot (l.take i) + ((nth l i).key.length + (nth l i).val.length) := by
  unfold Ent.tot; rw [take_snoc l hi]; simp
theorem Ent.tot_le (l : List Ent) (i : Nat) : Ent.tot (l.take i) ≤ Ent.tot l := by
  unfold Ent.tot
  conv => rhs; rw [← List.take_append_drop i l]
  simp only [List.map_append, List.sum_append]
  omega
set_option maxHeartbeats 2000000 in
theorem efew_any (a : Option Addr) (n c : Nat) (l : List Ent) (most : Nat) (w : World) (h : Es w a n c l) (hf : Ent.tot l + n ≤ 1000000000) (hm : most ≤ 1000) :
    Calls Try.prog 7 #[.slice a n c, .int .i64 most] w fun e w' => e = .returned (.bool (decide (n ≤ most ∧ Ent.tot l ≤ 131072))) ∧ ∃ q, w' = w.drewN q := by
  have hle := h.le.1
  have HN := Lib.hid h.1
  have HE := Lib.hid h
  clear h
  go_enter Try.func7, Try.ntmps7
  go_wp2
  go_loopw [5, 6] (fun s i wr => ∃ k q : Nat, k ≤ n ∧ i = .int .i64 k ∧ s = .int .i64 (Ent.tot (l.take k) : Nat) ∧ wr = w.drewN q) (fun _ i _ => n - (intOf i).toNat)
  case atStart => exact ⟨0, 0, by omega, rfl, by simp [Ent.tot], rfl⟩
  case round =>
    obtain ⟨k, q, hk, rfl, rfl, rfl⟩ := hrel
    by_cases hlt : k < n
    · obtain ⟨b, off, ai, ci, rfl, he, hv⟩ := HE.out.2.2.2 k hlt
      have ht := Ent.tot_snoc l (i := k) (by rw [HN.out]; exact hlt)
      have h1 := Ent.tot_le l (k + 1)
      have c1 := he.key
      have c2 := he.val
      generalize nth l k = x at *
      have hsz : (bstr x.key).size = x.key.length := by simp [bstr, ByteArray.size]
      have HT := Lib.hid ht
      have hb : Ent.tot (l.take k) + x.key.length + x.val.length ≤ 1000000000 := by omega
      clear ht h1 he hv hf
      generalize Ent.tot (l.take k) = s at *
      go_wp2_with fail
      go_quiet (fail)
      go_wp2
      go_roundw
      case rel => exact ⟨k + 1, q + nq, by omega, by go_num, by rw [HT.out]; go_num, rfl⟩
      case measure => simp [intOf]; omega
    · obtain rfl : k = n := by omega
      have e1 : l.take k = l := by rw [← HN.out, List.take_length]
      rw [e1]
      by_cases h1 : k ≤ most
      · have t1 : decide (k ≤ most) = true := decide_eq_true h1
        by_cases h2 : Ent.tot l ≤ 131072
        · have t2 : decide (((Ent.tot l : Nat) : Int) ≤ 131072) = true := decide_eq_true (by omega)
          have E := Lib.hid (decide_eq_true (show k ≤ most ∧ Ent.tot l ≤ 131072 from ⟨h1, h2⟩))
          generalize hS : Ent.tot l = s at *
          have HS := Lib.hid hS
          clear h1 h2 hf hS
          go_wp2
          go_ret
          exact ⟨by rw [HS.out, E.out]; rfl, q, rfl⟩
        · have t2 : decide (((Ent.tot l : Nat) : Int) ≤ 131072) = false := decide_eq_false (by omega)
          have E := Lib.hid (decide_eq_false (show ¬ (k ≤ most ∧ Ent.tot l ≤ 131072) from fun h => h2 h.2))
          generalize hS : Ent.tot l = s at *
          have HS := Lib.hid hS
          clear h1 h2 hf hS
          go_wp2
          go_ret
          exact ⟨by rw [HS.out, E.out]; rfl, q, rfl⟩
      · have t1 : decide (k ≤ most) = false := decide_eq_false h1
        have E := Lib.hid (decide_eq_false (show ¬ (k ≤ most ∧ Ent.tot l ≤ 131072) from fun h => h1 h.1))
        clear h1 hf
        go_wp2
        go_ret
        exact ⟨by rw [E.out]; rfl, q, rfl⟩
/-- Two entries compared field by field. -/
def Ent.same (x y : Ent) : Bool := decide (x = y)
set_option maxHeartbeats 2000000 in
theorem esame_any (x y : Ent) (ax ay : Option Addr) (cx cy : Nat) (w : World) (hx : Bs w ax x.val.length cx x.val) (hy : Bs w ay y.val.length cy y.val) :
    Calls Try.prog 25 #[ev x ax cx, ev y ay cy] w fun e w' => e = .returned (.bool (decide (x = y))) ∧ Below w.heap.size w w' := by
  have v1 := conv_bytes (hx.below (two_boxes w (.cells #[.string (bstr x.key), .int .u64 x.seq, .bool x.gone, .slice ax x.val.length cx] 61) (.cells #[.string (bstr y.key), .int .u64 y.seq, .bool y.gone, .slice ay y.val.length cy] 61)))
  have v2 := conv_bytes (hy.below (two_boxes w (.cells #[.string (bstr x.key), .int .u64 x.seq, .bool x.gone, .slice ax x.val.length cx] 61) (.cells #[.string (bstr y.key), .int .u64 y.seq, .bool y.gone, .slice ay y.val.length cy] 61)))
  have hxl := hx.le
  have hyl := hy.le
  clear hx hy
  unfold ev
  by_cases h1 : x.key = y.key
  case neg =>
    have t1 : ((bstr x.key).toList == (bstr y.key).toList) = false := by rw [bstr_beq]; exact decide_eq_false h1
    have t1' : decide (x.key = y.key) = false := decide_eq_false h1
    have E := Lib.hid (decide_eq_false (show ¬ x = y from fun e => h1 (by rw [e])))
    clear h1
    go_enter Try.func25, Try.ntmps25
    go_wp2
    go_ret
    exact ⟨by rw [E.out]; rfl, two_boxes _ _ _⟩
  have t1 : ((bstr x.key).toList == (bstr y.key).toList) = true := by rw [bstr_beq]; exact decide_eq_true h1
  have t1' : decide (x.key = y.key) = true := decide_eq_true h1
  by_cases h2 : x.seq = y.seq
  case neg =>
    have t2 : decide (x.seq = y.seq) = false := decide_eq_false h2
    have t2' : ((x.seq : Int) == (y.seq : Int)) = false := by simp; omega
    have E := Lib.hid (decide_eq_false (show ¬ x = y from fun e => h2 (by rw [e])))
    clear h1 h2
    go_enter Try.func25, Try.ntmps25
    go_wp2
    go_ret
    exact ⟨by rw [E.out]; rfl, two_boxes _ _ _⟩
  have t2' : ((x.seq : Int) == (y.seq : Int)) = true := by simp; omega
  by_cases h3 : x.gone = y.gone
  case neg =>
    have t3 : (x.gone == y.gone) = false := by simpa using h3
    have E := Lib.hid (decide_eq_false (show ¬ x = y from fun e => h3 (by rw [e])))
    clear h1 h2 h3
    go_enter Try.func25, Try.ntmps25
    go_wp2
    go_ret
    exact ⟨by rw [E.out]; rfl, two_boxes _ _ _⟩
  have t3 : (x.gone == y.gone) = true := by simpa using h3
  by_cases h4 : x.val = y.val
  case neg =>
    have t4 : ((bstr x.val).toList == (bstr y.val).toList) = false := by rw [bstr_beq]; exact decide_eq_false h4
    have t4' : decide (x.val = y.val) = false := decide_eq_false h4
    have E := Lib.hid (decide_eq_false (show ¬ x = y from fun e => h4 (by rw [e])))
    clear h1 h2 h3 h4
    go_enter Try.func25, Try.ntmps25
    go_wp2
    go_ret
    exact ⟨by rw [E.out]; rfl, two_boxes _ _ _⟩
  have t4 : ((bstr x.val).toList == (bstr y.val).toList) = true := by rw [bstr_beq]; exact decide_eq_true h4
  have t4' : decide (x.val = y.val) = true := decide_eq_true h4
  have E := Lib.hid (decide_eq_true (Ent.ext' h1 h2 h3 h4))
  clear h1 h2 h3 h4
  go_enter Try.func25, Try.ntmps25
  go_wp2
  go_ret
  exact ⟨by rw [E.out]; rfl, two_boxes _ _ _⟩
theorem Es.vals {w : World} {a : Option Addr} {n c : Nat} {l : List Ent} (h : Es w a n c l) {i : Nat} (hi : i < n) :
    ∃ b off ai ci, a = some ⟨b, off, none⟩ ∧ EntAt w b (off + i * 4) (nth l i) ai ci ∧ Bs w ai (nth l i).val.length ci (nth l i).val := h.2.2.2 i hi
theorem ent_ext_nth {l m : List Ent} (hl : l.length = m.length) (h : ∀ k, k < l.length → nth l k = nth m k) : l = m := by
  apply List.ext_getElem hl
  intro i h1 h2
  have := h i h1
  rwa [nth_eq _ h1, nth_eq _ h2] at this
set_option maxHeartbeats 4000000 in
theorem srows_any (a a' : Option Addr) (n c n' c' : Nat) (l l' : List Ent) (w : World) (h : Es w a n c l) (h' : Es w a' n' c' l') :
    Calls Try.prog 13 #[.slice a n c, .slice a' n' c'] w fun e w' => e = .returned (.bool (decide (l = l'))) ∧ Below w.heap.size w w' := by
  have hle := h.le.1
  have hle' := h'.le.1
  have HN := Lib.hid h.1
  have HN' := Lib.hid h'.1
  have HE := Lib.hid h
  have HE' := Lib.hid h'
  clear h h'
  go_enter Try.func13, Try.ntmps13
  by_cases hn : n = n'
  · subst hn
    have t1 : ((n : Int) != (n : Int)) = false := by simp
    go_wp2
    go_loopw [5] (fun i wr => ∃ k : Nat, k ≤ n ∧ i = .int .i64 k ∧ Below w.heap.size w wr ∧ Hid (∀ j, j < k → nth l j = nth l' j)) (fun i _ => n - (intOf i).toNat)
    case atStart => exact ⟨0, by omega, rfl, Below.refl _ _, Lib.hid (fun j hj => by omega)⟩
    case round =>
      obtain ⟨k, hk, rfl, hb, hall⟩ := hrel
      by_cases hlt : k < n
      · obtain ⟨b1, o1, a1, d1, rfl, he1, hv1⟩ := (HE.out.below hb).vals hlt
        obtain ⟨b2, o2, a2, d2, rfl, he2, hv2⟩ := (HE'.out.below hb).vals hlt
        have p1 := he1.key
        have p2 := he1.seq
        have p3 := he1.gone
        have p4 := he1.val
        have q1 := he2.key
        have q2 := he2.seq
        have q3 := he2.gone
        have q4 := he2.val
        have HV1 := Lib.hid hv1
        have HV2 := Lib.hid hv2
        have HB := Lib.hid hb
        clear he1 he2 hv1 hv2 hb
        go_wp2_with fail
        refine wp_region_class (w0 := wr) (by kernel_rfl) (by kernel_rfl) (Below.refl _ _) ?_
        have m1 := BW.cell p1
        have m2 := BW.cell p2
        have m3 := BW.cell p3
        have m4 := BW.cell p4
        have n1 := BW.cell q1
        have n2 := BW.cell q2
        have n3 := BW.cell q3
        have n4 := BW.cell q4
        by_cases hxy : nth l k = nth l' k
        · have hsm : ∀ W : BW wr, Calls Try.prog 25 #[ev (nth l k) a1 d1, ev (nth l' k) a2 d2] W.w fun e w' => e = .returned (.bool true) ∧ Below W.w.heap.size W.w w' := fun W => by
            have := esame_any (nth l k) (nth l' k) a1 a2 d1 d2 W.w (HV1.out.below W.b) (HV2.out.below W.b)
            rwa [decide_eq_true hxy] at this
          have HX := Lib.hid hxy
          have HSM := Lib.hid hsm
          clear hxy hsm
          repeat (first | go_big_quiet_step ((go_at_call 25; exact calls_class (HSM.out _))))
          refine wpQuiet_nil ?_
          intro w1 hb1; replace hb1 := BW.of hb1
          have HB1 := Lib.hid (HB.out.trans (hb1.mono HB.out.size))
          clear hb1 m1 m2 m3 m4 n1 n2 n3 n4
          go_wp2
          go_roundw
          case rel => exact ⟨k + 1, by omega, by go_num, HB1.out, Lib.hid (fun j hj => by
            by_cases e : j = k
            · rw [e]; exact HX.out
            · exact hall.out j (by omega))⟩
          case measure => simp [intOf]; omega
        · have hsm : ∀ W : BW wr, Calls Try.prog 25 #[ev (nth l k) a1 d1, ev (nth l' k) a2 d2] W.w fun e w' => e = .returned (.bool false) ∧ Below W.w.heap.size W.w w' := fun W => by
            have := esame_any (nth l k) (nth l' k) a1 a2 d1 d2 W.w (HV1.out.below W.b) (HV2.out.below W.b)
            rwa [decide_eq_false hxy] at this
          have E := Lib.hid (decide_eq_false (show ¬ l = l' from fun e => hxy (by rw [e])))
          have HSM := Lib.hid hsm
          clear hxy hsm
          repeat (first | go_big_quiet_step ((go_at_call 25; exact calls_class (HSM.out _))))
          refine wpQuiet_nil ?_
          intro w1 hb1; replace hb1 := BW.of hb1
          have HB1 := Lib.hid (HB.out.trans (hb1.mono HB.out.size))
          clear hb1 m1 m2 m3 m4 n1 n2 n3 n4
          go_wp2
          go_ret
          exact ⟨by rw [E.out]; rfl, HB1.out⟩
      · obtain rfl : k = n := by omega
        have E := Lib.hid (decide_eq_true (ent_ext_nth (by rw [HN.out, HN'.out]) (fun j hj => hall.out j (by rw [HN.out] at hj; exact hj))))
        have HB := Lib.hid hb
        clear hb
        go_wp2
        go_ret
        exact ⟨by rw [E.out]; rfl, HB.out⟩
  · have t1 : ((n : Int) != (n' : Int)) = true := by simp; omega
    have E := Lib.hid (decide_eq_false (show ¬ l = l' from fun e => hn (by rw [← HN.out, ← HN'.out, e])))
    clear hn
    go_wp2
    go_ret
    exact ⟨by rw [E.out]; rfl, Below.refl _ _⟩
end Go.Proofs.Ytchdmjnhjonddaa
