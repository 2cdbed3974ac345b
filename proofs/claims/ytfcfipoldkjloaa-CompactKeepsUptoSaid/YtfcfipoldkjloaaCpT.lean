/- Rows of tables; functions of them that are asked. -/
import Derived.Test.YtfcfipoldkjloaaCpB
import Derived.Shelf.Abstract
set_option maxRecDepth 100000
set_option linter.unusedVariables false
set_option linter.unusedSimpArgs false
namespace Go.Proofs.Ytfcfipoldkjloaa
open Go.RowKit

structure Tab where
  file : Int
  level : Int
  first : List UInt8
  last : List UInt8
  size : Int
instance : Inhabited Tab := ⟨⟨0, 0, [], [], 0⟩⟩
theorem infoT : (Try.prog.info? 49).map (fun i => (i.zero, i.size, i.bytes)) = some (some (.agg #[.int .i64 0, .int .i64 0, .string ByteArray.empty, .string ByteArray.empty, .int .i64 0]), 5, 56) := by kernel_rfl
def tcells (t : Tab) : List Value := [.int .i64 t.file, .int .i64 t.level, .string (bstr t.first), .string (bstr t.last), .int .i64 t.size]
def tval (t : Tab) : Value := .agg #[.int .i64 t.file, .int .i64 t.level, .string (bstr t.first), .string (bstr t.last), .int .i64 t.size]
def tv (l : List Tab) : List Value := l.flatMap tcells
theorem tv_len : ∀ l : List Tab, (tv l).length = l.length * 5
  | [] => rfl
  | m :: l => by
    have h := tv_len l
    unfold tv at *
    rw [List.flatMap_cons, List.length_append, h, List.length_cons]
    simp [tcells]
    omega
theorem tv_get : ∀ (l : List Tab) (i j : Nat), i < l.length → j < 5 → (tv l)[i * 5 + j]? = (tcells (nth l i))[j]?
  | [], i, j, hi, _ => by simp at hi
  | m :: l, 0, j, _, hj => by
    unfold tv
    rw [List.flatMap_cons, List.getElem?_append_left (by simp [tcells]; omega), Nat.zero_mul, Nat.zero_add]
    rfl
  | m :: l, i + 1, j, hi, hj => by
    have h := tv_get l i j (by simpa using hi) hj
    unfold tv at *
    rw [List.flatMap_cons, List.getElem?_append_right (by simp [tcells]; omega), show (i + 1) * 5 + j - (tcells m).length = i * 5 + j by simp [tcells]; omega, h]
    simp [nth]
theorem tv_one (l : List Tab) : ∀ u ∈ tv l, u.oneCell' = true := fun u hu => by
  obtain ⟨m, _, h⟩ := List.mem_flatMap.1 hu
  simp only [tcells, List.mem_cons, List.not_mem_nil, or_false] at h
  rcases h with rfl | rfl | rfl | rfl | rfl <;> rfl
theorem tv_app (a b : List Tab) : tv (a ++ b) = tv a ++ tv b := by simp [tv]
/-- A table in cells. -/
structure TabAt (w : World) (b o : Nat) (t : Tab) : Prop where
  file : w.cell? ⟨b, o, none⟩ = some (.int .i64 t.file)
  level : w.cell? ⟨b, o + 1, none⟩ = some (.int .i64 t.level)
  first : w.cell? ⟨b, o + 2, none⟩ = some (.string (bstr t.first))
  last : w.cell? ⟨b, o + 3, none⟩ = some (.string (bstr t.last))
  size : w.cell? ⟨b, o + 4, none⟩ = some (.int .i64 t.size)
theorem TabAt.below {w w' : World} {b o : Nat} {t : Tab} (h : TabAt w b o t) (hb : Below w.heap.size w w') : TabAt w' b o t := ⟨cell_later hb h.file, cell_later hb h.level, cell_later hb h.first, cell_later hb h.last, cell_later hb h.size⟩
theorem tab_box (w : World) (t : Tab) : TabAt (w.alloc (.cells #[.int .i64 t.file, .int .i64 t.level, .string (bstr t.first), .string (bstr t.last), .int .i64 t.size] 49)) w.heap.size 0 t := by
  have h := heap_alloc_new w (.cells #[.int .i64 t.file, .int .i64 t.level, .string (bstr t.first), .string (bstr t.last), .int .i64 t.size] 49)
  exact ⟨(cell_of_row _ _ 0 _ _ _ h).trans rfl, (cell_of_row _ _ 1 _ _ _ h).trans rfl, (cell_of_row _ _ 2 _ _ _ h).trans rfl, (cell_of_row _ _ 3 _ _ _ h).trans rfl, (cell_of_row _ _ 4 _ _ _ h).trans rfl⟩
theorem tab_boxAt {w : World} {k : Nat} (hk : k = w.heap.size) (t : Tab) : TabAt (w.alloc (.cells #[.int .i64 t.file, .int .i64 t.level, .string (bstr t.first), .string (bstr t.last), .int .i64 t.size] 49)) k 0 t := by
  subst hk; exact tab_box w t
theorem TabAt.cells {w : World} {b o : Nat} {t : Tab} (h : TabAt w b o t) : ∀ j v, (tcells t)[j]? = some v → w.cell? ⟨b, o + j, none⟩ = some v := by
  intro j v hj
  match j, hj with
  | 0, hj => cases hj; exact h.file
  | 1, hj => cases hj; exact h.level
  | 2, hj => cases hj; exact h.first
  | 3, hj => cases hj; exact h.last
  | 4, hj => cases hj; exact h.size
  | j + 5, hj => simp [tcells] at hj
/-- A slice of tables that is read. -/
def Ts (w : World) (a : Option Addr) (n c : Nat) (l : List Tab) : Prop := l.length = n ∧ n ≤ c ∧ c ≤ maxLen ∧ Row w a (tv l)
theorem Ts.below {w w' : World} {a : Option Addr} {n c : Nat} {l : List Tab} (h : Ts w a n c l) (hb : Below w.heap.size w w') : Ts w' a n c l := ⟨h.1, h.2.1, h.2.2.1, h.2.2.2.below hb⟩
theorem Ts.le {w : World} {a : Option Addr} {n c : Nat} {l : List Tab} (h : Ts w a n c l) : n ≤ 9223372036854775807 ∧ c ≤ 9223372036854775807 := by
  have := h.2.1; have := h.2.2.1; simp only [maxLen] at *; omega
theorem Ts.nil (w : World) : Ts w none 0 0 [] := ⟨rfl, Nat.le_refl _, by simp [maxLen], Row.nil _ _⟩
theorem Ts.get {w : World} {a : Option Addr} {n c : Nat} {l : List Tab} (h : Ts w a n c l) {i : Nat} (hi : i < n) : ∃ b off, a = some ⟨b, off, none⟩ ∧ TabAt w b (off + i * 5) (nth l i) := by
  have hl := h.1
  have g : ∀ j, j < 5 → (tv l)[i * 5 + j]? = (tcells (nth l i))[j]? := fun j hj => tv_get l i j (by omega) hj
  obtain ⟨b, off, rfl, h0⟩ := h.2.2.2 (i * 5 + 0) _ ((g 0 (by omega)).trans rfl)
  obtain ⟨b1, o1, e1, h1⟩ := h.2.2.2 (i * 5 + 1) _ ((g 1 (by omega)).trans rfl)
  obtain ⟨b2, o2, e2, h2⟩ := h.2.2.2 (i * 5 + 2) _ ((g 2 (by omega)).trans rfl)
  obtain ⟨b3, o3, e3, h3⟩ := h.2.2.2 (i * 5 + 3) _ ((g 3 (by omega)).trans rfl)
  obtain ⟨b4, o4, e4, h4⟩ := h.2.2.2 (i * 5 + 4) _ ((g 4 (by omega)).trans rfl)
  cases e1
  cases e2
  cases e3
  cases e4
  exact ⟨b, off, rfl, h0, h1, h2, h3, h4⟩
theorem Ts.front {w : World} {a : Option Addr} {n c : Nat} {l : List Tab} (h : Ts w a n c l) {k : Nat} (hk : k ≤ n) : Ts w a k c (l.take k) := by
  refine ⟨by rw [List.length_take, h.1]; omega, by have := h.2.1; omega, h.2.2.1, fun j v hj => h.2.2.2 j v ?_⟩
  rw [← List.take_append_drop k l, tv_app, List.getElem?_append_left (List.getElem?_eq_some_iff.1 hj).1]
  exact hj
/-- A row of tables of the call's own. -/
def AccT (w : World) (B : Nat) (a : Option Addr) (n c : Nat) (l : List Tab) : Prop := l.length = n ∧ w.ownsRow B 49 5 (.slice a n c) n (tv l)
theorem AccT.ts {w : World} {B n c : Nat} {a : Option Addr} {l : List Tab} (h : AccT w B a n c l) : Ts w a n c l := by
  obtain ⟨h1, h2⟩ := h
  have h3 := own_cap h2
  exact ⟨h1, h3.2.1, h3.2.2, Row.of_own h2⟩
theorem AccT.below {w w' : World} {B n c : Nat} {a : Option Addr} {l : List Tab} (h : AccT w B a n c l) (hb : Below w.heap.size w w') : AccT w' B a n c l := ⟨h.1, own_below h.2 hb⟩
theorem AccT.mono {w : World} {B B' n c : Nat} {a : Option Addr} {l : List Tab} (h : AccT w B a n c l) (hB : B' ≤ B) : AccT w B' a n c l := ⟨h.1, own_mono h.2 hB⟩
theorem AccT.nil (w : World) (B : Nat) : AccT w B none 0 0 [] := ⟨rfl, World.ownsRow_nil w B _ _⟩
section
variable {w : World} {ops : Array Oper} {rest : List Oper} {o : Oper} {a : Act} {Q : Exit → Act → World → Prop}
/-- append of tables. -/
theorem app_tabs (hgd : Region.wanted o (yielded ops a.tmps) = true) (s x : Operand) (ho : o.op = .call { callee := .builtin .append, args := #[s, x], argTypes := #[42, 42] })
    (B : Nat) {aq : Option Addr} {n c : Nat} {l : List Tab} (hs : a.eval s = .slice aq n c) (hacc : AccT w B aq n c l)
    {ax : Option Addr} {m cx : Nat} {l2 : List Tab} (hx : a.eval x = .slice ax m cx) (hr : Ts w ax m cx l2) (hb : n + m ≤ 1000000000) (hB : B ≤ w.heap.size)
    (h : ∀ a' c' w', AccT w' B a' (n + m) c' (l ++ l2) → Below B w w' → Evol w aq w' a' → wpList Try.prog ops Q rest (a.put o.dst (.slice a' (n + m) c')) w') : wpList Try.prog ops Q (o :: rest) a w := by
  obtain ⟨i, hi, hz, h1, h2⟩ := info_parts infoT
  refine wpList_app_own hgd s x 42 ho B 49 i (.agg #[.int .i64 0, .int .i64 0, .string ByteArray.empty, .string ByteArray.empty, .int .i64 0]) 5 56 Try.underlying42 hi hz h1 h2 rfl (by decide) aq n c (tv l) hs hacc.2 ax m cx (tv l2) hx hr.2.2.2 (by rw [tv_len, hr.1]) (tv_one l2) (by omega) (by simp only [maxLen]; omega) hB ?_
  intro a' c' w' g1 g2
  rw [← tv_app] at g1
  exact h a' c' w' ⟨by rw [List.length_append, hacc.1, hr.1], g1⟩ (g2.below hB (fun x hx => by subst hx; exact (World.ownsRow.lt hacc.2 x.block rfl).1)) g2
end
theorem ts_one {w : World} {k : Nat} {t : Tab} (h : TabAt w k 0 t) : Ts w (some ⟨k, 0, none⟩) 1 1 [t] := by
  refine ⟨rfl, Nat.le_refl _, by simp [maxLen], fun j v hj => ⟨k, 0, rfl, h.cells j v ?_⟩⟩
  simpa [tv] using hj
def EntersT (f : Nat) : Prop := ∀ (args : Array Value) (w : World), (callFunc f args).run Try.prog w = .ok (.enter f args) w
/-- A function that is asked of tables. -/
def PredT (w : World) (f : Nat) (cap : Array Value) (p : Tab → Bool) : Prop :=
  ∀ (V : BW w) (m : Tab), Calls Try.prog f (#[tval m] ++ cap) V.w fun e w' => e = .returned (.bool (p m)) ∧ Below V.w.heap.size V.w w'
/-- Where the first one stands, or -1. -/
def idxT (p : Tab → Bool) (l : List Tab) : Int := if l.findIdx p < l.length then (l.findIdx p : Nat) else -1
theorem idxT_at {p : Tab → Bool} {l : List Tab} {k : Nat} (hk : k < l.length) (hp : p (nth l k) = true) (hlo : ∀ j, j < k → p (nth l j) = false) : idxT p l = (k : Nat) := by
  have h : l.findIdx p = k := by
    rw [List.findIdx_eq hk]
    exact ⟨by rw [← nth_eq _ hk]; exact hp, fun j hj => by rw [← nth_eq _ (by omega)]; exact hlo j hj⟩
  unfold idxT
  rw [h, if_pos hk]
theorem idxT_no {p : Tab → Bool} {l : List Tab} (hlo : ∀ j, j < l.length → p (nth l j) = false) : idxT p l = -1 := by
  have h : l.findIdx p = l.length := by
    rw [List.findIdx_eq_length]
    intro x hx
    obtain ⟨i, hi, rfl⟩ := List.mem_iff_getElem.1 hx
    rw [← nth_eq _ hi]
    exact hlo i hi
  unfold idxT
  rw [h, if_neg (by omega)]
theorem idxT_any (p : Tab → Bool) (l : List Tab) : decide (0 ≤ idxT p l) = l.any p := by
  unfold idxT
  by_cases h : l.findIdx p < l.length
  · rw [if_pos h, decide_eq_true (by omega)]
    exact (List.any_eq_true.2 (List.findIdx_lt_length.1 h)).symm
  · rw [if_neg h]
    have h2 : l.any p = false := by
      rw [List.any_eq_false]
      intro x hx hp
      exact h (List.findIdx_lt_length.2 ⟨x, hx, hp⟩)
    rw [h2]
    rfl
set_option maxHeartbeats 1000000 in
theorem idxt_any (f : Nat) (cap : Array Value) (a : Option Addr) (n c : Nat) (l : List Tab) (p : Tab → Bool) (w : World) (eg : EntersT f) (h : Ts w a n c l) (hp : PredT w f cap p) :
    Calls Try.prog 95 #[.slice a n c, .func (.func f) #[] cap] w fun e w' => e = .returned (.int .i64 (idxT p l)) ∧ Below w.heap.size w w' := by
  have eg' : ∀ (args : Array Value) (w : World), (callFunc f args).run Try.prog w = .ok (.enter f args) w := eg
  have hle := h.le.1
  have HN := Lib.hid h.1
  have HP := Lib.hid hp
  have HR := Lib.hid h
  clear hp h
  go_enter Try.func95, Try.ntmps95
  go_wp2
  go_loopw [8] (fun i wr => ∃ k : Nat, k ≤ n ∧ i = .int .i64 k ∧ Hid (Below w.heap.size w wr) ∧ Hid (∀ j, j < k → p (nth l j) = false)) (fun i _ => n - (intOf i).toNat)
  case atStart => exact ⟨0, by omega, rfl, Lib.hid (Below.refl _ _), Lib.hid (fun j hj => by omega)⟩
  case round =>
    obtain ⟨k, hk, rfl, hb, hall⟩ := hrel
    by_cases hlt : k < n
    · obtain ⟨b, off, rfl, hc⟩ := (HR.out.below hb.out).get hlt
      have HAT : Hid (p (nth l k) = true → idxT p l = (k : Nat)) := Lib.hid fun h => idxT_at (by rw [HN.out]; exact hlt) h hall.out
      have HNO : Hid (p (nth l k) = false → ∀ j, j < k + 1 → p (nth l j) = false) := Lib.hid fun h j hj => by
        by_cases e : j = k
        · rw [e]; exact h
        · exact hall.out j (by omega)
      have HC := Lib.hid (HP.out ⟨wr, hb.out⟩ (nth l k))
      have c1 := hc.file
      have c2 := hc.level
      have c3 := hc.first
      have c4 := hc.last
      have c5 := hc.size
      clear hc
      generalize nth l k = m at *
      obtain ⟨t, ht⟩ : ∃ t, t = p m := ⟨_, rfl⟩
      rw [← ht] at HAT HNO HC
      have HC2 := HC.out
      unfold tval at HC2
      clear ht HC
      have HC := Lib.hid HC2
      clear HC2
      cases t with
      | true =>
        have HV := Lib.hid (HAT.out rfl)
        clear HAT HNO
        go_wp2_with fail
        refine HC.out.mono ?_
        rintro e w' ⟨rfl, hb'⟩
        have HB := Lib.hid (hb.out.trans (hb'.mono hb.out.size))
        clear hb'
        go_wp2
        go_ret
        exact ⟨by rw [HV.out]; rfl, HB.out⟩
      | false =>
        have HV := Lib.hid (HNO.out rfl)
        clear HAT HNO
        go_wp2_with fail
        refine HC.out.mono ?_
        rintro e w' ⟨rfl, hb'⟩
        have HB := Lib.hid (hb.out.trans (hb'.mono hb.out.size))
        clear hb'
        go_wp2
        go_roundw
        case rel => exact ⟨k + 1, by omega, by go_num, HB, HV⟩
        case measure => simp [intOf]; omega
    · obtain rfl : k = n := by omega
      have HV : Hid (idxT p l = -1) := Lib.hid (idxT_no (by rw [HN.out]; exact hall.out))
      go_wp2
      go_ret
      exact ⟨by rw [HV.out]; rfl, hb.out⟩
end Go.Proofs.Ytfcfipoldkjloaa
