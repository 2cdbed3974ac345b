/- Rows of members; functions of them that are asked. -/
import Derived.Test.YtincllchoflpmaaMsSpec
import Derived.Test.YtincllchoflpmaaQuiet
import Derived.Shelf.Abstract
namespace Go.Proofs.Ytincllchoflpmaa
set_option linter.unusedSimpArgs false
open Go.RowKit
set_option linter.unusedVariables false

theorem below_alloc1 (w : World) (o : Obj) : Below w.heap.size w (w.alloc o) := (Below.refl _ _).alloc (Nat.le_refl _) o
theorem int_beq (a b : Int) : (a == b) = decide (a = b) := by rw [Bool.eq_iff_iff]; simp
def mcells (m : Mb) : List Value := [.int .i64 m.node, .int .i64 m.birth, .bool m.whole]
def mval (m : Mb) : Value := .agg #[.int .i64 m.node, .int .i64 m.birth, .bool m.whole]
def mv (l : List Mb) : List Value := l.flatMap mcells
theorem mv_len : ∀ l : List Mb, (mv l).length = l.length * 3
  | [] => rfl
  | m :: l => by
    have h := mv_len l
    unfold mv at *
    rw [List.flatMap_cons, List.length_append, h, List.length_cons]
    simp [mcells]
    omega
theorem mv_get : ∀ (l : List Mb) (i j : Nat), i < l.length → j < 3 → (mv l)[i * 3 + j]? = (mcells (nth l i))[j]?
  | [], i, j, hi, _ => by simp at hi
  | m :: l, 0, j, _, hj => by
    unfold mv
    rw [List.flatMap_cons, List.getElem?_append_left (by simp [mcells]; omega), Nat.zero_mul, Nat.zero_add]
    rfl
  | m :: l, i + 1, j, hi, hj => by
    have h := mv_get l i j (by simpa using hi) hj
    unfold mv at *
    rw [List.flatMap_cons, List.getElem?_append_right (by simp [mcells]; omega), show (i + 1) * 3 + j - (mcells m).length = i * 3 + j by simp [mcells]; omega, h]
    simp [nth]
theorem mv_one (l : List Mb) : ∀ u ∈ mv l, u.oneCell' = true := fun u hu => by
  obtain ⟨m, _, h⟩ := List.mem_flatMap.1 hu
  simp [mcells] at h
  rcases h with rfl | rfl | rfl <;> rfl
theorem mv_app (a b : List Mb) : mv (a ++ b) = mv a ++ mv b := by simp [mv]
/-- A member in cells. -/
structure MbAt (w : World) (b o : Nat) (m : Mb) : Prop where
  node : w.cell? ⟨b, o, none⟩ = some (.int .i64 m.node)
  birth : w.cell? ⟨b, o + 1, none⟩ = some (.int .i64 m.birth)
  whole : w.cell? ⟨b, o + 2, none⟩ = some (.bool m.whole)
theorem MbAt.below {w w' : World} {b o : Nat} {m : Mb} (h : MbAt w b o m) (hb : Below w.heap.size w w') : MbAt w' b o m := ⟨cell_later hb h.node, cell_later hb h.birth, cell_later hb h.whole⟩
theorem mb_box (w : World) (m : Mb) : MbAt (w.alloc (.cells #[.int .i64 m.node, .int .i64 m.birth, .bool m.whole] 48)) w.heap.size 0 m := by
  have h := heap_alloc_new w (.cells #[.int .i64 m.node, .int .i64 m.birth, .bool m.whole] 48)
  exact ⟨(cell_of_row _ _ 0 _ _ _ h).trans rfl, (cell_of_row _ _ 1 _ _ _ h).trans rfl, (cell_of_row _ _ 2 _ _ _ h).trans rfl⟩
/-- A slice of members that is read. -/
def Ms (w : World) (a : Option Addr) (n c : Nat) (l : List Mb) : Prop := l.length = n ∧ n ≤ c ∧ c ≤ maxLen ∧ Row w a (mv l)
theorem Ms.below {w w' : World} {a : Option Addr} {n c : Nat} {l : List Mb} (h : Ms w a n c l) (hb : Below w.heap.size w w') : Ms w' a n c l := ⟨h.1, h.2.1, h.2.2.1, h.2.2.2.below hb⟩
theorem Ms.le {w : World} {a : Option Addr} {n c : Nat} {l : List Mb} (h : Ms w a n c l) : n ≤ 9223372036854775807 ∧ c ≤ 9223372036854775807 := by
  have := h.2.1; have := h.2.2.1; simp only [maxLen] at *; omega
theorem Ms.nil (w : World) : Ms w none 0 0 [] := ⟨rfl, Nat.le_refl _, by simp [maxLen], Row.nil _ _⟩
theorem Ms.get {w : World} {a : Option Addr} {n c : Nat} {l : List Mb} (h : Ms w a n c l) {i : Nat} (hi : i < n) : ∃ b off, a = some ⟨b, off, none⟩ ∧ MbAt w b (off + i * 3) (nth l i) := by
  have hl := h.1
  have g : ∀ j, j < 3 → (mv l)[i * 3 + j]? = (mcells (nth l i))[j]? := fun j hj => mv_get l i j (by omega) hj
  obtain ⟨b, off, rfl, h0⟩ := h.2.2.2 (i * 3 + 0) _ ((g 0 (by omega)).trans rfl)
  obtain ⟨b1, o1, e1, h1⟩ := h.2.2.2 (i * 3 + 1) _ ((g 1 (by omega)).trans rfl)
  obtain ⟨b2, o2, e2, h2⟩ := h.2.2.2 (i * 3 + 2) _ ((g 2 (by omega)).trans rfl)
  cases e1
  cases e2
  exact ⟨b, off, rfl, h0, h1, h2⟩
theorem Ms.front {w : World} {a : Option Addr} {n c : Nat} {l : List Mb} (h : Ms w a n c l) {k : Nat} (hk : k ≤ n) : Ms w a k c (l.take k) := by
  refine ⟨by rw [List.length_take, h.1]; omega, by have := h.2.1; omega, h.2.2.1, fun j v hj => h.2.2.2 j v ?_⟩
  rw [← List.take_append_drop k l, mv_app, List.getElem?_append_left (List.getElem?_eq_some_iff.1 hj).1]
  exact hj
/-- A row of members of the call's own. -/
def AccM (w : World) (B : Nat) (a : Option Addr) (n c : Nat) (l : List Mb) : Prop := l.length = n ∧ w.ownsRow B 48 3 (.slice a n c) n (mv l)
theorem AccM.ms {w : World} {B n c : Nat} {a : Option Addr} {l : List Mb} (h : AccM w B a n c l) : Ms w a n c l := by
  obtain ⟨h1, h2⟩ := h
  have h3 := own_cap h2
  exact ⟨h1, h3.2.1, h3.2.2, Row.of_own h2⟩
theorem AccM.below {w w' : World} {B n c : Nat} {a : Option Addr} {l : List Mb} (h : AccM w B a n c l) (hb : Below w.heap.size w w') : AccM w' B a n c l := ⟨h.1, own_below h.2 hb⟩
theorem AccM.mono {w : World} {B B' n c : Nat} {a : Option Addr} {l : List Mb} (h : AccM w B a n c l) (hB : B' ≤ B) : AccM w B' a n c l := ⟨h.1, own_mono h.2 hB⟩
theorem AccM.nil (w : World) (B : Nat) : AccM w B none 0 0 [] := ⟨rfl, World.ownsRow_nil w B _ _⟩
/-- A row of ints of the call's own. -/
def AccI (w : World) (B : Nat) (a : Option Addr) (n c : Nat) (l : List Int) : Prop := l.length = n ∧ w.ownsRow B 3 1 (.slice a n c) n (zv l) ∧ ∀ z ∈ l, I64 z
theorem AccI.is {w : World} {B n c : Nat} {a : Option Addr} {l : List Int} (h : AccI w B a n c l) : Is w a n c l := by
  obtain ⟨h1, h2, h4⟩ := h
  have h3 := own_cap h2
  exact ⟨h1, h3.2.1, h3.2.2, Row.of_own h2, h4⟩
theorem AccI.below {w w' : World} {B n c : Nat} {a : Option Addr} {l : List Int} (h : AccI w B a n c l) (hb : Below w.heap.size w w') : AccI w' B a n c l := ⟨h.1, own_below h.2.1 hb, h.2.2⟩
theorem AccI.mono {w : World} {B B' n c : Nat} {a : Option Addr} {l : List Int} (h : AccI w B a n c l) (hB : B' ≤ B) : AccI w B' a n c l := ⟨h.1, own_mono h.2.1 hB, h.2.2⟩
theorem AccI.nil (w : World) (B : Nat) : AccI w B none 0 0 [] := ⟨rfl, World.ownsRow_nil w B _ _, fun z hz => (by cases hz)⟩
/-! Numbers that may be. -/
theorem node_any (x : Int) (w : World) : Calls Try.prog 55 #[.int .i64 x] w fun e w' => e = .returned (.bool (Ms.node x)) ∧ w' = w := by
  go_enter Try.func55, Try.ntmps55
  unfold Ms.node
  by_cases h : 0 ≤ x
  · have t : decide ((0 : Int) ≤ x) = true := decide_eq_true h
    go_wp2
    go_ret
    exact ⟨by simp [h], rfl⟩
  · have t : decide ((0 : Int) ≤ x) = false := decide_eq_false h
    go_wp2
    go_ret
    exact ⟨by simp [h], rfl⟩
theorem born_any (x : Int) (w : World) : Calls Try.prog 56 #[.int .i64 x] w fun e w' => e = .returned (.bool (Ms.born x)) ∧ w' = w := by
  go_enter Try.func56, Try.ntmps56
  unfold Ms.born
  by_cases h : 0 ≤ x
  · have t : decide ((0 : Int) ≤ x) = true := decide_eq_true h
    go_wp2
    go_ret
    exact ⟨by simp [h], rfl⟩
  · have t : decide ((0 : Int) ≤ x) = false := decide_eq_false h
    go_wp2
    go_ret
    exact ⟨by simp [h], rfl⟩
def EntersM (f : Nat) : Prop := ∀ (args : Array Value) (w : World), (callFunc f args).run Try.prog w = .ok (.enter f args) w
/-- A function that is asked of members. -/
def PredM (w : World) (f : Nat) (cap : Array Value) (p : Mb → Bool) : Prop :=
  ∀ (V : BW w) (m : Mb), Calls Try.prog f (#[mval m] ++ cap) V.w fun e w' => e = .returned (.bool (p m)) ∧ Below V.w.heap.size V.w w'
/-- Where the first one stands, or -1. -/
def idxM (p : Mb → Bool) (l : List Mb) : Int := if l.findIdx p < l.length then (l.findIdx p : Nat) else -1
theorem idxM_at {p : Mb → Bool} {l : List Mb} {k : Nat} (hk : k < l.length) (hp : p (nth l k) = true) (hlo : ∀ j, j < k → p (nth l j) = false) : idxM p l = (k : Nat) := by
  have h : l.findIdx p = k := by
    rw [List.findIdx_eq hk]
    exact ⟨by rw [← nth_eq _ hk]; exact hp, fun j hj => by rw [← nth_eq _ (by omega)]; exact hlo j hj⟩
  unfold idxM
  rw [h, if_pos hk]
theorem idxM_no {p : Mb → Bool} {l : List Mb} (hlo : ∀ j, j < l.length → p (nth l j) = false) : idxM p l = -1 := by
  have h : l.findIdx p = l.length := by
    rw [List.findIdx_eq_length]
    intro x hx
    obtain ⟨i, hi, rfl⟩ := List.mem_iff_getElem.1 hx
    rw [← nth_eq _ hi]
    exact hlo i hi
  unfold idxM
  rw [h, if_neg (by omega)]
theorem idxM_any (p : Mb → Bool) (l : List Mb) : decide (0 ≤ idxM p l) = l.any p := by
  unfold idxM
  by_cases h : l.findIdx p < l.length
  · rw [if_pos h, decide_eq_true (by omega)]
    exact (List.any_eq_true.2 (List.findIdx_lt_length.1 h)).symm
  · rw [if_neg h]
    have h2 : l.any p = false := by
      rw [List.any_eq_false]
      intro x hx hp
      exact h (List.findIdx_lt_length.2 ⟨x, hx, hp⟩)
    rw [h2]
    rfl
set_option maxHeartbeats 1000000 in
theorem idx_any (f : Nat) (cap : Array Value) (a : Option Addr) (n c : Nat) (l : List Mb) (p : Mb → Bool) (w : World) (eg : EntersM f) (h : Ms w a n c l) (hp : PredM w f cap p) :
    Calls Try.prog 65 #[.slice a n c, .func (.func f) #[] cap] w fun e w' => e = .returned (.int .i64 (idxM p l)) ∧ Below w.heap.size w w' := by
  have eg' : ∀ (args : Array Value) (w : World), (callFunc f args).run Try.prog w = .ok (.enter f args) w := eg
  have hle := h.le.1
  have HN := Lib.hid h.1
  have HP := Lib.hid hp
  have HR := Lib.hid h
  clear hp h
  go_enter Try.func65, Try.ntmps65
  go_wp2
  go_loopw [8] (fun i wr => ∃ k : Nat, k ≤ n ∧ i = .int .i64 k ∧ Hid (Below w.heap.size w wr) ∧ Hid (∀ j, j < k → p (nth l j) = false)) (fun i _ => n - (intOf i).toNat)
  case atStart => exact ⟨0, by omega, rfl, Lib.hid (Below.refl _ _), Lib.hid (fun j hj => by omega)⟩
  case round =>
    obtain ⟨k, hk, rfl, hb, hall⟩ := hrel
    by_cases hlt : k < n
    · obtain ⟨b, off, rfl, hc⟩ := (HR.out.below hb.out).get hlt
      have HAT : Hid (p (nth l k) = true → idxM p l = (k : Nat)) := Lib.hid fun h => idxM_at (by rw [HN.out]; exact hlt) h hall.out
      have HNO : Hid (p (nth l k) = false → ∀ j, j < k + 1 → p (nth l j) = false) := Lib.hid fun h j hj => by
        by_cases e : j = k
        · rw [e]; exact h
        · exact hall.out j (by omega)
      have HC := Lib.hid (HP.out ⟨wr, hb.out⟩ (nth l k))
      have c1 := hc.node
      have c2 := hc.birth
      have c3 := hc.whole
      clear hc
      generalize nth l k = m at *
      obtain ⟨t, ht⟩ : ∃ t, t = p m := ⟨_, rfl⟩
      rw [← ht] at HAT HNO HC
      have HC2 := HC.out
      unfold mval at HC2
      clear ht HC
      have HC := Lib.hid HC2
      clear HC2
      cases t with
      | true =>
        have HV := Lib.hid (HAT.out rfl)
        clear HAT HNO
        go_wp2_with fail
        refine HC.out.mono ?_
        rintro e w' ⟨rfl, hb'⟩
        have HB := Lib.hid (hb.out.trans (hb'.mono hb.out.size))
        clear hb'
        go_wp2
        go_ret
        exact ⟨by rw [HV.out]; rfl, HB.out⟩
      | false =>
        have HV := Lib.hid (HNO.out rfl)
        clear HAT HNO
        go_wp2_with fail
        refine HC.out.mono ?_
        rintro e w' ⟨rfl, hb'⟩
        have HB := Lib.hid (hb.out.trans (hb'.mono hb.out.size))
        clear hb'
        go_wp2
        go_roundw
        case rel => exact ⟨k + 1, by omega, by go_num, HB, HV⟩
        case measure => simp [intOf]; omega
    · obtain rfl : k = n := by omega
      have HV : Hid (idxM p l = -1) := Lib.hid (idxM_no (by rw [HN.out]; exact hall.out))
      go_wp2
      go_ret
      exact ⟨by rw [HV.out]; rfl, hb.out⟩
theorem con_any (f : Nat) (cap : Array Value) (a : Option Addr) (n c : Nat) (l : List Mb) (p : Mb → Bool) (w : World) (eg : EntersM f) (h : Ms w a n c l) (hp : PredM w f cap p) :
    Calls Try.prog 63 #[.slice a n c, .func (.func f) #[] cap] w fun e w' => e = .returned (.bool (l.any p)) ∧ Below w.heap.size w w' := by
  have HI := Lib.hid (idx_any f cap a n c l p w eg h hp)
  have HA := Lib.hid (idxM_any p l)
  clear h hp
  go_enter Try.func63, Try.ntmps63
  go_wp2_with fail
  refine HI.out.mono ?_
  rintro e w' ⟨rfl, hb⟩
  obtain ⟨z, hz⟩ : ∃ z, z = idxM p l := ⟨_, rfl⟩
  rw [← hz] at HA ⊢
  have HB := Lib.hid hb
  clear hz hb HI
  go_wp2
  go_ret
  exact ⟨by rw [← HA.out]; rfl, HB.out⟩
/-! The functions that are handed in. -/
theorem whole1_any (m : Mb) (w : World) : Calls Try.prog 89 #[mval m] w fun e w' => e = .returned (.bool m.whole) ∧ Below w.heap.size w w' := by
  have h := mb_box w m
  have hb := below_alloc1 w (.cells #[.int .i64 m.node, .int .i64 m.birth, .bool m.whole] 48)
  have c3 := h.whole
  simp only [Nat.zero_add] at c3
  unfold mval
  go_enter Try.func89, Try.ntmps89
  go_wp2
  go_ret
  exact ⟨rfl, hb⟩
theorem place1_any (m : Mb) (b : Nat) (x : Int) (w : World) (hx : w.cell? ⟨b, 0, none⟩ = some (.int .i64 x)) : Calls Try.prog 66 #[mval m, .pointer (some ⟨b, 0, none⟩)] w fun e w' => e = .returned (.bool (decide (m.node = x))) ∧ Below w.heap.size w w' := by
  have h := mb_box w m
  have hb := below_alloc1 w (.cells #[.int .i64 m.node, .int .i64 m.birth, .bool m.whole] 48)
  have c1 := h.node
  have hx2 := cell_later hb hx
  clear hx
  unfold mval
  go_enter Try.func66, Try.ntmps66
  go_wp2
  go_ret
  exact ⟨by simp [int_beq], hb⟩
theorem check1_any (m o : Mb) (b : Nat) (w : World) (ho : MbAt w b 0 o) : Calls Try.prog 64 #[mval m, .pointer (some ⟨b, 0, none⟩)] w fun e w' => e = .returned (.bool (decide (m.node = o.node))) ∧ Below w.heap.size w w' := by
  have h := mb_box w m
  have hb := below_alloc1 w (.cells #[.int .i64 m.node, .int .i64 m.birth, .bool m.whole] 48)
  have c1 := h.node
  have hx2 := cell_later hb ho.node
  clear ho
  unfold mval
  go_enter Try.func64, Try.ntmps64
  go_wp2
  go_ret
  exact ⟨by simp [int_beq], hb⟩
theorem whole_any (a : Option Addr) (n c : Nat) (l : List Mb) (w : World) (h : Ms w a n c l) :
    Calls Try.prog 60 #[.slice a n c] w fun e w' => e = .returned (.bool (Ms.whole l)) ∧ Below w.heap.size w w' := by
  have eg := enters_of Try.func89 (by kernel_rfl) rfl
  have HC := Lib.hid (con_any 89 #[] a n c l (fun m => m.whole) w eg h (fun V m => whole1_any m V.w))
  clear h
  go_enter Try.func60, Try.ntmps60
  go_wp2_with fail
  refine HC.out.mono ?_
  rintro e w' ⟨rfl, hb⟩
  have HB := Lib.hid hb
  clear hb HC
  go_wp2
  go_ret
  exact ⟨rfl, HB.out⟩
end Go.Proofs.Ytincllchoflpmaa
