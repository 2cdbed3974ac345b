/- Keys and values in a list behind a pointer: Get, Do. -/
import Derived.Test.YtkbfefooaajhkaaDoorExW
import Derived.Test.YtkbfefooaajhkaaDoorExF
set_option maxRecDepth 100000
set_option linter.unusedVariables false
set_option linter.unusedSimpArgs false
namespace Go.Proofs.YtkbfefooaajhkaaDoor
open Go.RowKit

/-- Only the row at a may be another one. -/
structure Oth (a : Option Addr) (w w' : World) : Prop where
  os : w'.os = w.os
  tape : w'.tape = w.tape
  output : w'.output = w.output
  size : w.heap.size ≤ w'.heap.size
  block : ∀ b, b < w.heap.size → (∀ x, a = some x → x.block ≠ b) → w'.heap[b]? = w.heap[b]?
theorem Oth.refl (a : Option Addr) (w : World) : Oth a w w := ⟨rfl, rfl, rfl, Nat.le_refl _, fun _ _ _ => rfl⟩
theorem Oth.of_below {a : Option Addr} {w w' : World} (h : Below w.heap.size w w') : Oth a w w' := ⟨h.os, h.tape, h.output, h.size, fun b hb _ => h.block b hb⟩
theorem Oth.trans {a : Option Addr} {w w1 w2 : World} (h : Oth a w w1) (k : Oth a w1 w2) : Oth a w w2 :=
  ⟨k.os.trans h.os, k.tape.trans h.tape, k.output.trans h.output, Nat.le_trans h.size k.size, fun b hb hn => (k.block b (Nat.lt_of_lt_of_le hb h.size) hn).trans (h.block b hb hn)⟩
theorem Oth.set {a : Option Addr} {w w1 : World} (h : Oth a w w1) {p x : Addr} (ha : a = some x) (hp : p.block = x.block) (v : Value) : Oth a w (w1.setCell p v) :=
  ⟨h.os, h.tape, h.output, by rw [World.size_setCell]; exact h.size, fun b hb hn => (Below.heap_setCell _ _ _ _ (by rw [hp]; exact fun e => hn x ha e.symm)).trans (h.block b hb hn)⟩
theorem Oth.below {a : Option Addr} {w w' : World} {n : Nat} (h : Oth a w w') (hn : n ≤ w.heap.size) (ha : ∀ x, a = some x → n ≤ x.block) : Below n w w' :=
  ⟨h.os, h.tape, h.output, h.size, fun b hb => h.block b (by omega) (fun x hx e => by have := ha x hx; omega)⟩
theorem Oth.evol {w w' : World} {a a' : Option Addr} (h : Evol w a w' a') : Oth a w w' :=
  ⟨h.1.os, h.1.tape, h.1.output, h.1.size, fun b hb hn => h.1.block b hb (fun e => by
    cases a with
    | none => cases e
    | some x => exact hn x rfl (by cases e; rfl))⟩
theorem Oth.grown {w w' : World} {g : Nat} (h : w.grownBy w' (some g)) : Oth (some ⟨g, 0, none⟩) w w' :=
  ⟨h.os, h.tape, h.output, h.size, fun b hb hn => h.block b hb (fun e => by cases e; exact hn _ rfl rfl)⟩
theorem keeps_below {W W' : World} (h : Below W.heap.size W W') : KeepsOthers W W' :=
  ⟨h.size, fun k o hk _ => (h.block k (Array.getElem?_eq_some_iff.1 hk).1).trans hk⟩
theorem Boxed.below {W W' : World} {B : Nat} {t : TypeId} {v : Value} (h : Boxed W B t v) (hb : Below W.heap.size W W') : Boxed W' B t v := (hb.block B h.lt).trans h
theorem Row.setBox {w : World} {a : Option Addr} {cs : List Value} {Bx : Nat} {t : TypeId} {u v : Value} (h : Row w a cs) (hb : Boxed w Bx t u) (hu : ∀ x ∈ cs, x ≠ u) : Row (w.setCell ⟨Bx, 0, none⟩ v) a cs := by
  intro j x hx
  obtain ⟨b, off, rfl, hc⟩ := h j x hx
  refine ⟨b, off, rfl, ?_⟩
  by_cases e : b = Bx
  · subst e
    exfalso
    have h1 : w.heap[b]? = some (.cells #[u] t (0, 0)) := hb
    simp only [World.cell?, h1] at hc
    have : off + j = 0 := by
      rcases Nat.eq_zero_or_pos (off + j) with h | h
      · exact h
      · simp [Array.getElem?_eq_none (show (#[u] : Array Value).size ≤ off + j by simp; omega)] at hc
    rw [this] at hc
    simp at hc
    exact hu x (List.mem_of_getElem? hx) hc.symm
  · rw [← hc]
    exact World.cell?_of_block (Below.heap_setCell _ _ _ _ e)
theorem Bs.setBox {w : World} {a : Option Addr} {n c : Nat} {l : List UInt8} {Bx : Nat} {t : TypeId} {p : Option Addr} {m k : Nat} {v : Value} (h : Bs w a n c l) (hb : Boxed w Bx t (.slice p m k)) : Bs (w.setCell ⟨Bx, 0, none⟩ v) a n c l :=
  ⟨h.1, h.2.1, h.2.2.1, h.2.2.2.setBox hb (fun x hx e => by
    unfold vs at hx
    obtain ⟨b, _, rfl⟩ := List.mem_map.1 hx
    cases e)⟩
/-- A block of one cell that is no byte and no string. -/
theorem not_box {w : World} {bk b o p : Nat} {t : TypeId} {q : Option Addr} {m k : Nat} {v : Value} (hb : Boxed w bk t (.slice q m k)) (hc : w.cell? ⟨b, o, none⟩ = some v) (hv : ∀ q m k, v ≠ .slice q m k) : b ≠ bk := fun e => by
  subst e
  have h1 : w.heap[b]? = some (.cells #[.slice q m k] t (0, 0)) := hb
  simp only [World.cell?, h1] at hc
  rcases Nat.eq_zero_or_pos o with h | h
  · subst h; simp at hc; exact hv _ _ _ hc.symm
  · simp [Array.getElem?_eq_none (show (#[Value.slice q m k] : Array Value).size ≤ o by simp; omega)] at hc
theorem cell_oth {w w' : World} {bk b o : Nat} {v : Value} (k : Oth (some ⟨bk, 0, none⟩) w w') (hc : w.cell? ⟨b, o, none⟩ = some v) (hne : b ≠ bk) : w'.cell? ⟨b, o, none⟩ = some v :=
  (World.cell?_of_block (k.block b (World.block_lt_of_cell? _ _ hc) (fun x hx => by cases hx; exact Ne.symm hne))).trans hc
theorem Bs.oth {w w' : World} {a : Option Addr} {n c bk : Nat} {l : List UInt8} {t : TypeId} {q : Option Addr} {m k : Nat} (h : Bs w a n c l) (ko : Oth (some ⟨bk, 0, none⟩) w w') (hb : Boxed w bk t (.slice q m k)) : Bs w' a n c l := by
  refine ⟨h.1, h.2.1, h.2.2.1, fun j v hj => ?_⟩
  obtain ⟨b, off, rfl, hc⟩ := h.2.2.2 j v hj
  refine ⟨b, off, rfl, cell_oth ko hc (not_box (p := 0) hb hc fun q m k e => ?_)⟩
  have := List.mem_of_getElem? hj
  unfold vs at this
  obtain ⟨x, _, hx⟩ := List.mem_map.1 this
  rw [← hx] at e; cases e
theorem Ws.oth {w w' : World} {a : Option Addr} {n c bk : Nat} {l : List Wr} {t : TypeId} {q : Option Addr} {m k : Nat} (h : Ws w a n c l) (ko : Oth (some ⟨bk, 0, none⟩) w w') (hb : Boxed w bk t (.slice q m k)) : Ws w' a n c l := by
  refine ⟨h.1, h.2.1, h.2.2.1, fun i hi => ?_⟩
  obtain ⟨b, off, ai, ci, rfl, h2, h3⟩ := h.2.2.2 i hi
  have hne : b ≠ bk := not_box (p := 0) hb h2.key (fun _ _ _ e => by cases e)
  exact ⟨b, off, ai, ci, rfl, ⟨cell_oth ko h2.key hne, cell_oth ko h2.gone hne, cell_oth ko h2.val hne⟩, h3.oth ko hb⟩
theorem oth_set (w : World) (bk : Nat) (v : Value) : Oth (some ⟨bk, 0, none⟩) w (w.setCell ⟨bk, 0, none⟩ v) := (Oth.refl _ w).set rfl rfl v
/-- Keys and values behind a pointer. -/
def KeysAt (w : World) (bk : Nat) (L : List Wr) : Prop := ∃ a n c, Boxed w bk 27 (.slice a n c) ∧ Ws w a n c L
theorem KeysAt.below {w w' : World} {bk : Nat} {L : List Wr} (h : KeysAt w bk L) (hb : Below w.heap.size w w') : KeysAt w' bk L := by
  obtain ⟨a, n, c, h1, h2⟩ := h
  exact ⟨a, n, c, Boxed.below h1 hb, h2.below hb⟩
/-! Plain. -/
def Kv.get (L : List Wr) (key : List UInt8) : Option (List UInt8) := (L.find? fun e => decide (e.key = key)).map Wr.val
def Kv.do1 (L : List Wr) (x : Wr) : List Wr := (L.filter fun e => decide (e.key ≠ x.key)) ++ if x.gone = true then [] else [x]
def Kv.does (L ws : List Wr) : List Wr := ws.foldl Kv.do1 L
/-- What Get tells. -/
def GetV (w : World) (L : List Wr) (key : List UInt8) (v : Value) : Prop :=
  (Kv.get L key = none ∧ v = .tuple #[.slice none 0 0, .bool false]) ∨ ∃ a c x, Kv.get L key = some x ∧ v = .tuple #[.slice a x.length c, .bool true] ∧ Bs w a x.length c x
theorem kv_none {L : List Wr} {key : List UInt8} (h : ∀ j, j < L.length → (nth L j).key ≠ key) : Kv.get L key = none := by
  unfold Kv.get
  rw [List.find?_eq_none.2 (fun x hx => by
    obtain ⟨j, hj, rfl⟩ := List.getElem_of_mem hx
    rw [← nth_eq _ hj]; simpa using h j hj)]
  rfl
theorem kv_some {L : List Wr} {key : List UInt8} {k : Nat} (hk : k < L.length) (h : ∀ j, j < k → (nth L j).key ≠ key) (he : (nth L k).key = key) : Kv.get L key = some (nth L k).val := by
  unfold Kv.get
  have : L.find? (fun e => decide (e.key = key)) = some (nth L k) := by
    rw [nth_eq _ hk] at he ⊢
    rw [List.find?_eq_some_iff_getElem]
    refine ⟨by simpa using he, k, hk, rfl, fun j hj => ?_⟩
    have := h j hj
    rw [nth_eq _ (by omega)] at this
    simpa using this
  rw [this]; rfl
theorem first_key (L : List Wr) (key : List UInt8) : (∀ j, j < L.length → (nth L j).key ≠ key) ∨ ∃ k, k < L.length ∧ (∀ j, j < k → (nth L j).key ≠ key) ∧ (nth L k).key = key := by
  by_cases h : ∃ k, k < L.length ∧ (nth L k).key = key
  · right
    obtain ⟨k, hk, he⟩ := h
    induction k using Nat.strongRecOn with
    | _ k ih =>
      by_cases h2 : ∃ j, j < k ∧ (nth L j).key = key
      · obtain ⟨j, hj, hje⟩ := h2
        exact ih j hj (by omega) hje
      · exact ⟨k, hk, fun j hj e => h2 ⟨j, hj, e⟩, he⟩
  · left
    exact fun j hj e => h ⟨j, hj, e⟩
set_option maxHeartbeats 2000000 in
theorem get_any (bk : Nat) (L : List Wr) (key : List UInt8) (w : World) (h : KeysAt w bk L) :
    ∃ v, GetV w L key v ∧ ∀ W, Below w.heap.size w W → Calls Tryd.prog 32 #[.pointer (some ⟨bk, 0, none⟩), .string (bstr key)] W fun e w' => e = .returned v ∧ W = w' := by
  obtain ⟨a, n, c, hbx, hws⟩ := h
  rcases first_key L key with hno | ⟨p, hp, hlo, hpe⟩
  · refine ⟨_, .inl ⟨kv_none hno, rfl⟩, fun W hW => ?_⟩
    have HNO := Lib.hid hno
    have HWS := Lib.hid (hws.below hW)
    have HN := Lib.hid hws.1
    have hle := hws.le.1
    have hbW := Boxed.below hbx hW
    have k0 := hbW.cell
    clear hbx hws hno hbW
    go_enter Tryd.func32, Tryd.ntmps32
    go_wp2_with fail
    go_loop [6] (fun iv => ∃ i : Nat, i ≤ n ∧ iv = .int .i64 i) (fun iv => n - (intOf iv).toNat)
    case atStart => exact ⟨0, Nat.zero_le _, rfl⟩
    case round =>
      obtain ⟨i, hi, rfl⟩ := hrel
      by_cases hin : i < n
      · obtain ⟨b, off, ai, ci, rfl, he, hv⟩ := HWS.out.vals hin
        have c1 := he.key
        have t1 : ((bstr (nth L i).key).toList == (bstr key).toList) = false := by rw [bstr_beq]; exact decide_eq_false (HNO.out i (by rw [HN.out]; exact hin))
        have t2 : decide ((nth L i).key = key) = false := decide_eq_false (HNO.out i (by rw [HN.out]; exact hin))
        clear he hv
        go_wp2
        go_round
        case rel => exact ⟨i + 1, by omega, by go_num⟩
        case measure => simp [intOf]; omega
      · obtain rfl : n = i := by omega
        go_wp2
        go_ret2
        exact ⟨rfl, rfl⟩
  · have hpn : p < n := by rw [← hws.1]; exact hp
    obtain ⟨b, off, ai, ci, rfl, he, hv⟩ := hws.vals hpn
    refine ⟨_, .inr ⟨ai, ci, _, kv_some hp hlo hpe, rfl, hv⟩, fun W hW => ?_⟩
    have HNO := Lib.hid hlo
    have HWS := Lib.hid (hws.below hW)
    have HN := Lib.hid hws.1
    have hle := hws.le.1
    have hbW := Boxed.below hbx hW
    have k0 := hbW.cell
    have HE := Lib.hid (he.below hW)
    have HPE := Lib.hid hpe
    clear hbx hws hlo hbW he hv hp hpe
    go_enter Tryd.func32, Tryd.ntmps32
    go_wp2_with fail
    go_loop [6] (fun iv => ∃ i : Nat, i ≤ p ∧ iv = .int .i64 i) (fun iv => n - (intOf iv).toNat)
    case atStart => exact ⟨0, Nat.zero_le _, rfl⟩
    case round =>
      obtain ⟨i, hi, rfl⟩ := hrel
      have hin : i < n := by omega
      by_cases hip : i < p
      · obtain ⟨b', off', ai', ci', ea, he, hv⟩ := HWS.out.vals hin
        cases ea
        have c1 := he.key
        have t1 : ((bstr (nth L i).key).toList == (bstr key).toList) = false := by rw [bstr_beq]; exact decide_eq_false (HNO.out i hip)
        have t2 : decide ((nth L i).key = key) = false := decide_eq_false (HNO.out i hip)
        clear he hv
        go_wp2
        go_round
        case rel => exact ⟨i + 1, by omega, by go_num⟩
        case measure => simp [intOf]; omega
      · obtain rfl : p = i := by omega
        have c1 := HE.out.key
        have c2 := HE.out.val
        have t1 : ((bstr (nth L p).key).toList == (bstr key).toList) = true := by rw [bstr_beq]; exact decide_eq_true HPE.out
        have t2 : decide ((nth L p).key = key) = true := decide_eq_true HPE.out
        go_wp2
        go_ret2
        exact ⟨rfl, rfl⟩
end Go.Proofs.YtkbfefooaajhkaaDoor
