/- Readers of numbers behind a pointer; heads as they are read, plain. -/
import Derived.Test.YtkbfefooaajhkaaDoorExMw
set_option maxRecDepth 100000
set_option linter.unusedVariables false
set_option linter.unusedSimpArgs false
namespace Go.Proofs.YtkbfefooaajhkaaDoor
open Go.RowKit

/-! Plain. -/
/-- What is left of bytes behind k numbers; the number there, its error. -/
def Ex.rest (b : List UInt8) : Nat → List UInt8
  | 0 => b
  | k + 1 => (Ex.rest b k).drop (Codec.dec (Ex.rest b k)).2.1
def Ex.num (b : List UInt8) (k : Nat) : Nat := (Codec.dec (Ex.rest b k)).1
def Ex.bad (b : List UInt8) (k : Nat) : Nat := (Codec.dec (Ex.rest b k)).2.2
def Ex.hd (b : List UInt8) : Hd := ⟨Ex.num b 0, Ex.num b 1, Ex.num b 2, Codec.rf4 (nth (Ex.rest b 3) 0) (nth (Ex.rest b 3) 1) (nth (Ex.rest b 3) 2) (nth (Ex.rest b 3) 3)⟩
def Ex.okB (b : List UInt8) : Bool := decide (Ex.bad b 0 = 0 ∧ Ex.bad b 1 = 0 ∧ Ex.bad b 2 = 0 ∧ (Ex.rest b 3).length = 4 ∧ Ex.num b 0 ≤ 1073741824 ∧ 1 ≤ Ex.num b 1 ∧ Ex.num b 1 ≤ 16777216 ∧ Ex.num b 2 ≤ 1073741824)
def Ex.read (b : Option (List UInt8)) : Hd × Nat := match b with
  | none => (⟨0, 0, 0, 0⟩, 4)
  | some b => if Ex.okB b = true then (Ex.hd b, 0) else (⟨0, 0, 0, 0⟩, 14)
def Ex.look (L : List Wr) (id : Nat) : Hd × Nat := Ex.read (Kv.get L (Ex.key id))
def LookV (x : Hd × Nat) : Value := .tuple #[hval x.1, .int .i64 x.2]
theorem read_yes {x : List UInt8} (h : Ex.okB x = true) : Ex.read (some x) = (Ex.hd x, 0) := by
  show (if Ex.okB x = true then _ else _) = _
  rw [if_pos h]
theorem read_no {x : List UInt8} (h : Ex.okB x = false) : Ex.read (some x) = (⟨0, 0, 0, 0⟩, 14) := by
  show (if Ex.okB x = true then _ else _) = _
  rw [if_neg (by simp [h])]
theorem hd_ok {x : List UInt8} (h : Ex.okB x = true) : (Ex.hd x).Ok := by
  have hk' := of_decide_eq_true h
  exact ⟨hk'.2.2.2.2.1, hk'.2.2.2.2.2.2.1, hk'.2.2.2.2.2.1, hk'.2.2.2.2.2.2.2⟩
theorem read_ok {b : Option (List UInt8)} (h : (Ex.read b).2 = 0) : (Ex.read b).1.Ok ∧ ∃ x, b = some x ∧ Ex.okB x = true ∧ (Ex.read b).1 = Ex.hd x := by
  cases b with
  | none => cases h
  | some x =>
    cases hk : Ex.okB x with
    | false => rw [read_no hk] at h; cases h
    | true => rw [read_yes hk]; exact ⟨hd_ok hk, x, rfl, hk, rfl⟩
theorem dec_le (b : List UInt8) : (Codec.dec b).1 < 18446744073709551616 ∧ (Codec.dec b).2.1 ≤ b.length ∧ (Codec.dec b).2.2 ≤ 12 := by
  rcases Codec.dec_err b with h | h | h
  · have := Codec.dec_back (b := b) (w := (Codec.dec b).1) (n := (Codec.dec b).2.1) (by rw [← h])
    omega
  · rw [h]; simp
  · rw [h]; simp
/-- The document's reader. -/
def Ex.long (s : List UInt8 × Nat) : Nat × List UInt8 × Nat :=
  if s.2 ≠ 0 then (0, s.1, s.2) else if (Codec.dec s.1).2.2 ≠ 0 then (0, s.1, (Codec.dec s.1).2.2) else ((Codec.dec s.1).1, s.1.drop (Codec.dec s.1).2.1, 0)
def Ex.rint (m : Nat) (s : List UInt8 × Nat) : Nat × List UInt8 × Nat := if (Ex.long s).2.2 = 0 ∧ m < (Ex.long s).1 then (0, (Ex.long s).2.1, 14) else Ex.long s
theorem long_bad {s : List UInt8 × Nat} (h : s.2 ≠ 0) : Ex.long s = (0, s.1, s.2) := by unfold Ex.long; rw [if_pos h]
theorem long_err {l : List UInt8} (h : (Codec.dec l).2.2 ≠ 0) : Ex.long (l, 0) = (0, l, (Codec.dec l).2.2) := by unfold Ex.long; rw [if_neg (by simp), if_pos h]
theorem long_ok {l : List UInt8} (h : (Codec.dec l).2.2 = 0) : Ex.long (l, 0) = ((Codec.dec l).1, l.drop (Codec.dec l).2.1, 0) := by unfold Ex.long; rw [if_neg (by simp), if_neg (by simpa using h)]
theorem long_lt (s : List UInt8 × Nat) : (Ex.long s).1 < 18446744073709551616 ∧ ((Ex.long s).2.2 ≠ 0 → (Ex.long s).1 = 0) := by
  unfold Ex.long
  split
  · exact ⟨by simp, fun _ => rfl⟩
  · split
    · exact ⟨by simp, fun _ => rfl⟩
    · exact ⟨(dec_le _).1, fun h => absurd rfl h⟩
theorem rint_le (m : Nat) (s : List UInt8 × Nat) : (Ex.rint m s).1 ≤ m := by
  unfold Ex.rint
  split
  · simp
  · rename_i h
    by_cases e : (Ex.long s).2.2 = 0
    · omega
    · rw [(long_lt s).2 e]; omega
theorem rint_bad {m : Nat} {s : List UInt8 × Nat} (h : s.2 ≠ 0) : (Ex.rint m s).2.2 ≠ 0 := by
  unfold Ex.rint
  rw [long_bad h]
  split
  · simp
  · exact h
theorem rint_ok {m : Nat} {l : List UInt8} : (Ex.rint m (l, 0)).2.2 = 0 ↔ (Codec.dec l).2.2 = 0 ∧ (Codec.dec l).1 ≤ m := by
  unfold Ex.rint
  by_cases h : (Codec.dec l).2.2 = 0
  · rw [long_ok h]
    by_cases h2 : m < (Codec.dec l).1
    · rw [if_pos ⟨rfl, h2⟩]; simp; omega
    · rw [if_neg (by simp; omega)]; simp; exact ⟨h, by omega⟩
  · rw [long_err h, if_neg (by simp [h])]
    simp [h]
theorem rint_val {m : Nat} {l : List UInt8} (h : (Ex.rint m (l, 0)).2.2 = 0) : Ex.rint m (l, 0) = ((Codec.dec l).1, l.drop (Codec.dec l).2.1, 0) := by
  obtain ⟨h1, h2⟩ := rint_ok.1 h
  unfold Ex.rint
  rw [long_ok h1, if_neg (by simp; omega)]
def Ex.r1 (b : List UInt8) := Ex.rint 1073741824 (b, 0)
def Ex.r2 (b : List UInt8) := Ex.rint 16777216 ((Ex.r1 b).2.1, (Ex.r1 b).2.2)
def Ex.r3 (b : List UInt8) := Ex.rint 1073741824 ((Ex.r2 b).2.1, (Ex.r2 b).2.2)
theorem r3_ok (b : List UInt8) : Ex.okB b = true ↔ (Ex.r3 b).2.2 = 0 ∧ 1 ≤ (Ex.r2 b).1 ∧ (Ex.r3 b).2.1.length = 4 := by
  have key : (Ex.r3 b).2.2 = 0 → Ex.r1 b = (Ex.num b 0, Ex.rest b 1, 0) ∧ Ex.r2 b = (Ex.num b 1, Ex.rest b 2, 0) ∧ Ex.r3 b = (Ex.num b 2, Ex.rest b 3, 0) ∧ Ex.bad b 0 = 0 ∧ Ex.bad b 1 = 0 ∧ Ex.bad b 2 = 0 ∧ Ex.num b 0 ≤ 1073741824 ∧ Ex.num b 1 ≤ 16777216 ∧ Ex.num b 2 ≤ 1073741824 := by
    intro h
    have h2 : (Ex.r2 b).2.2 = 0 := Classical.byContradiction fun e => rint_bad (m := 1073741824) (s := ((Ex.r2 b).2.1, (Ex.r2 b).2.2)) e h
    have h1 : (Ex.r1 b).2.2 = 0 := Classical.byContradiction fun e => rint_bad (m := 16777216) (s := ((Ex.r1 b).2.1, (Ex.r1 b).2.2)) e h2
    have e1 : Ex.r1 b = (Ex.num b 0, Ex.rest b 1, 0) := rint_val h1
    have k1 := rint_ok.1 h1
    unfold Ex.r2 at h2
    rw [e1] at h2
    have e2 : Ex.r2 b = (Ex.num b 1, Ex.rest b 2, 0) := by unfold Ex.r2; rw [e1]; exact rint_val h2
    have k2 := rint_ok.1 h2
    unfold Ex.r3 at h
    rw [e2] at h
    have e3 : Ex.r3 b = (Ex.num b 2, Ex.rest b 3, 0) := by unfold Ex.r3; rw [e2]; exact rint_val h
    have k3 := rint_ok.1 h
    exact ⟨e1, e2, e3, k1.1, k2.1, k3.1, k1.2, k2.2, k3.2⟩
  constructor
  · intro h
    obtain ⟨a0, a1, a2, a3, a4, a5, a6, a7⟩ := of_decide_eq_true h
    have e1 : Ex.r1 b = (Ex.num b 0, Ex.rest b 1, 0) := rint_val (rint_ok.2 ⟨a0, a4⟩)
    have e2 : Ex.r2 b = (Ex.num b 1, Ex.rest b 2, 0) := by unfold Ex.r2; rw [e1]; exact rint_val (rint_ok.2 ⟨a1, a6⟩)
    have e3 : Ex.r3 b = (Ex.num b 2, Ex.rest b 3, 0) := by unfold Ex.r3; rw [e2]; exact rint_val (rint_ok.2 ⟨a2, a7⟩)
    rw [e2, e3]
    exact ⟨rfl, a5, a3⟩
  · rintro ⟨h, h1, h2⟩
    obtain ⟨e1, e2, e3, k0, k1, k2, m0, m1, m2⟩ := key h
    rw [e2] at h1
    rw [e3] at h2
    exact decide_eq_true ⟨k0, k1, k2, h2, m0, h1, m1, m2⟩
theorem r3_val {b : List UInt8} (h : Ex.okB b = true) : Ex.r1 b = (Ex.num b 0, Ex.rest b 1, 0) ∧ Ex.r2 b = (Ex.num b 1, Ex.rest b 2, 0) ∧ Ex.r3 b = (Ex.num b 2, Ex.rest b 3, 0) := by
  obtain ⟨a0, a1, a2, a3, a4, a5, a6, a7⟩ := of_decide_eq_true h
  have e1 : Ex.r1 b = (Ex.num b 0, Ex.rest b 1, 0) := rint_val (rint_ok.2 ⟨a0, a4⟩)
  have e2 : Ex.r2 b = (Ex.num b 1, Ex.rest b 2, 0) := by unfold Ex.r2; rw [e1]; exact rint_val (rint_ok.2 ⟨a1, a6⟩)
  have e3 : Ex.r3 b = (Ex.num b 2, Ex.rest b 3, 0) := by unfold Ex.r3; rw [e2]; exact rint_val (rint_ok.2 ⟨a2, a7⟩)
  exact ⟨e1, e2, e3⟩
/-! The reader in memory. -/
structure RdAt (w : World) (bk : Nat) (l : List UInt8) (er : Nat) : Prop where
  row : ∃ a n c, w.heap[bk]? = some (.cells #[.slice a n c, .int .i64 er] 86 (0, 0)) ∧ Bs w a n c l
theorem not_rd {w : World} {bk b o : Nat} {t : TypeId} {q : Option Addr} {m k er : Nat} {x : UInt8} (hb : w.heap[bk]? = some (.cells #[.slice q m k, .int .i64 er] t (0, 0))) (hc : w.cell? ⟨b, o, none⟩ = some (.int .u8 (n8 x))) : b ≠ bk := fun e => by
  subst e
  simp only [World.cell?, hb] at hc
  rcases o with _ | _ | o
  · simp at hc
  · simp at hc
  · simp at hc
theorem Bs.rd {w w' : World} {a : Option Addr} {n c bk : Nat} {l : List UInt8} {t : TypeId} {q : Option Addr} {m k er : Nat} (h : Bs w a n c l) (ko : Oth (some ⟨bk, 0, none⟩) w w') (hb : w.heap[bk]? = some (.cells #[.slice q m k, .int .i64 er] t (0, 0))) : Bs w' a n c l := by
  refine ⟨h.1, h.2.1, h.2.2.1, fun j v hj => ?_⟩
  obtain ⟨b, off, rfl, hc⟩ := h.2.2.2 j v hj
  have := List.mem_of_getElem? hj
  unfold vs at this
  obtain ⟨x, _, hx⟩ := List.mem_map.1 this
  subst hx
  exact ⟨b, off, rfl, cell_oth ko hc (not_rd hb hc)⟩
theorem RdAt.below {w w' : World} {bk : Nat} {l : List UInt8} {er : Nat} (h : RdAt w bk l er) (k : Below w.heap.size w w') : RdAt w' bk l er := by
  obtain ⟨a, n, c, h1, h2⟩ := h.row
  exact ⟨a, n, c, (k.block bk (Array.getElem?_eq_some_iff.1 h1).1).trans h1, h2.below k⟩
theorem heap_set {w : World} {bk j : Nat} {cs : Array Value} {t : TypeId} {v : Value} (h : w.heap[bk]? = some (.cells cs t (0, 0))) : (w.setCell ⟨bk, j, none⟩ v).heap[bk]? = some (.cells (cs.setIfInBounds j v) t (0, 0)) := by
  show (w.heap.modify bk _)[bk]? = _
  obtain ⟨hlt, hk⟩ := Array.getElem?_eq_some_iff.1 h
  rw [Array.getElem?_eq_getElem (by rw [Array.size_modify]; exact hlt), Array.getElem_modify_self, hk]
  rfl
theorem oth_setAt (w : World) (bk j : Nat) (v : Value) : Oth (some ⟨bk, 0, none⟩) w (w.setCell ⟨bk, j, none⟩ v) := (Oth.refl _ w).set (p := ⟨bk, j, none⟩) (x := ⟨bk, 0, none⟩) rfl rfl v
set_option maxHeartbeats 1000000 in
theorem rlong_any (bk : Nat) (l : List UInt8) (er : Nat) (w : World) (h : RdAt w bk l er) (he : er ≤ 20) :
    Calls Tryd.prog 56 #[.pointer (some ⟨bk, 0, none⟩)] w fun e w' => e = .returned (.int .u64 ((Ex.long (l, er)).1 : Nat)) ∧ RdAt w' bk (Ex.long (l, er)).2.1 (Ex.long (l, er)).2.2 ∧ Oth (some ⟨bk, 0, none⟩) w w' ∧ (Ex.long (l, er)).2.2 ≤ 20 := by
  obtain ⟨a, n, c, hrow, hbs⟩ := h.row
  have HROW := Lib.hid hrow
  have HBS := Lib.hid hbs
  have HR := Lib.hid h
  have hn := hbs.1
  have hnc := hbs.2.1
  have hle := hbs.le.1
  have k0 : w.cell? ⟨bk, 0, none⟩ = some (.slice a n c) := (cell_of_row _ _ 0 _ _ _ hrow).trans rfl
  have k1 : w.cell? ⟨bk, 1, none⟩ = some (.int .i64 er) := (cell_of_row _ _ 1 _ _ _ hrow).trans rfl
  have f0 : w.frozen? ⟨bk, 0, none⟩ = false := by simp [World.frozen?, hrow]
  have f1 : w.frozen? ⟨bk, 1, none⟩ = false := by simp [World.frozen?, hrow]
  by_cases h0 : er = 0
  · subst h0
    have hd := dec_le l
    by_cases hD : (Codec.dec l).2.2 = 0
    · have HL : Hid (Ex.long (l, 0) = ((Codec.dec l).1, l.drop (Codec.dec l).2.1, 0)) := Lib.hid (long_ok hD)
      rw [HL.out]
      have HQ : Hid (∀ W, Bs W a n c l → Calls Tryd.prog 65 #[.slice a n c] W fun e w' => e = .returned (.tuple #[.int .u64 ((Codec.dec l).1 : Nat), .int .i64 ((Codec.dec l).2.1 : Nat), .int .i64 0]) ∧ W = w') := Lib.hid (fun W hW => by have := refreadnum_any a n c l W hW; rw [hD] at this; exact this)
      generalize hk : (Codec.dec l).2.1 = k at *
      generalize (Codec.dec l).1 = v at *
      have hkn : k ≤ n := by omega
      have hsl : ∀ W, (Instr.slice 22 (.slice a n c) (some (.int .i64 (k : Int))) none none).run Tryd.prog W = .ok (.slice (subA a c k) (n - k) (c - k)) W := fun W => slice_l a n c rfl hkn W
      have HD := Lib.hid (HBS.out.drop hkn)
      generalize subA a c k = ab at *
      generalize hnk : n - k = nk at *
      generalize hck : c - k = ck at *
      clear hrow hbs h hD hd hk hnk hck HL
      go_enter Tryd.func56, Tryd.ntmps56
      go_wp2_with fail
      refine (HQ.out _ HBS.out).mono ?_
      rintro e w' ⟨rfl, rfl⟩
      go_wp2
      go_ret
      exact ⟨rfl, ⟨_, _, _, by rw [heap_set HROW.out]; rfl, HD.out.rd (oth_set w bk _) HROW.out⟩, oth_set w bk _, by omega⟩
    · have HL : Hid (Ex.long (l, 0) = (0, l, (Codec.dec l).2.2)) := Lib.hid (long_err hD)
      rw [HL.out]
      obtain ⟨k, v, hq⟩ : ∃ k v : Nat, ∀ W, Bs W a n c l → Calls Tryd.prog 65 #[.slice a n c] W fun e w' => e = .returned (.tuple #[.int .u64 v, .int .i64 k, .int .i64 (Codec.dec l).2.2]) ∧ W = w' := ⟨_, _, fun W hW => refreadnum_any a n c l W hW⟩
      have HQ := Lib.hid hq
      have hE : (Codec.dec l).2.2 ≤ 12 := hd.2.2
      generalize (Codec.dec l).2.2 = er at *
      have t1 : ((er : Int) != 0) = true := by simp; omega
      clear hrow hbs h hD hd HL hq
      go_enter Tryd.func56, Tryd.ntmps56
      go_wp2_with fail
      refine (HQ.out _ HBS.out).mono ?_
      rintro e w' ⟨rfl, rfl⟩
      go_wp2
      go_ret
      exact ⟨rfl, ⟨a, n, c, by rw [heap_set HROW.out]; rfl, HBS.out.rd (oth_setAt w bk 1 _) HROW.out⟩, oth_setAt w bk 1 _, by omega⟩
  · have HL : Hid (Ex.long (l, er) = (0, l, er)) := Lib.hid (long_bad (s := (l, er)) h0)
    rw [HL.out]
    have t1 : ((er : Int) != 0) = true := by simp; omega
    clear hrow hbs h h0 HL
    go_enter Tryd.func56, Tryd.ntmps56
    go_wp2
    go_ret
    exact ⟨rfl, HR.out, Oth.refl _ _, he⟩
set_option maxHeartbeats 1000000 in
theorem rint_any (m bk : Nat) (l : List UInt8) (er : Nat) (w : World) (h : RdAt w bk l er) (he : er ≤ 20) (hm : m ≤ 1073741824) :
    Calls Tryd.prog 46 #[.pointer (some ⟨bk, 0, none⟩), .int .u64 m] w fun e w' => e = .returned (.int .i64 ((Ex.rint m (l, er)).1 : Nat)) ∧ RdAt w' bk (Ex.rint m (l, er)).2.1 (Ex.rint m (l, er)).2.2 ∧ Oth (some ⟨bk, 0, none⟩) w w' ∧ (Ex.rint m (l, er)).2.2 ≤ 20 := by
  have HC := Lib.hid (rlong_any bk l er w h he)
  have HLT := Lib.hid (long_lt (l, er))
  have HRI : Hid (Ex.rint m (l, er) = if (Ex.long (l, er)).2.2 = 0 ∧ m < (Ex.long (l, er)).1 then (0, (Ex.long (l, er)).2.1, 14) else Ex.long (l, er)) := Lib.hid rfl
  generalize Ex.rint m (l, er) = R at *
  generalize hL : Ex.long (l, er) = T at *
  obtain ⟨v, l2, e2⟩ := T
  dsimp only at *
  clear h hL
  by_cases h0 : e2 = 0
  · subst h0
    by_cases hv : m < v
    · have HR : Hid (R = (0, l2, 14)) := Lib.hid (by rw [HRI.out, if_pos ⟨rfl, hv⟩])
      rw [HR.out]
      have t1 : decide (m < v) = true := decide_eq_true hv
      clear HRI HR
      go_enter Tryd.func46, Tryd.ntmps46
      go_wp2_with fail
      refine HC.out.mono ?_
      rintro e w1 ⟨rfl, hrd, ho, hle⟩
      obtain ⟨a, n, c, hrow, hbs⟩ := hrd.row
      have HROW := Lib.hid hrow
      have HBS := Lib.hid hbs
      have HO := Lib.hid ho
      have k0 : w1.cell? ⟨bk, 0, none⟩ = some (.slice a n c) := (cell_of_row _ _ 0 _ _ _ hrow).trans rfl
      have k1 : w1.cell? ⟨bk, 1, none⟩ = some (.int .i64 0) := (cell_of_row _ _ 1 _ _ _ hrow).trans rfl
      have f1 : w1.frozen? ⟨bk, 1, none⟩ = false := by simp [World.frozen?, hrow]
      clear hrd hrow hbs ho
      go_wp2
      go_ret
      exact ⟨rfl, ⟨a, n, c, by rw [heap_set HROW.out]; rfl, HBS.out.rd (oth_setAt w1 bk 1 _) HROW.out⟩, HO.out.trans (oth_setAt w1 bk 1 _), by omega⟩
    · have HR : Hid (R = (v, l2, 0)) := Lib.hid (by rw [HRI.out, if_neg (by omega)])
      rw [HR.out]
      have t1 : decide (m < v) = false := decide_eq_false hv
      have e6 : IntKind.i64.wrap (v : Int) = (v : Int) := by rw [IntKind.wrap_i64]; omega
      clear HRI HR
      go_enter Tryd.func46, Tryd.ntmps46
      go_wp2_with fail
      refine HC.out.mono ?_
      rintro e w1 ⟨rfl, hrd, ho, hle⟩
      obtain ⟨a, n, c, hrow, hbs⟩ := hrd.row
      have HRD := Lib.hid hrd
      have HO := Lib.hid ho
      have k1 : w1.cell? ⟨bk, 1, none⟩ = some (.int .i64 0) := (cell_of_row _ _ 1 _ _ _ hrow).trans rfl
      clear hrd hrow hbs ho
      go_wp2
      go_ret
      exact ⟨rfl, HRD.out, HO.out, hle⟩
  · have HR : Hid (R = (v, l2, e2)) := Lib.hid (by rw [HRI.out, if_neg (by simp [h0])])
    rw [HR.out]
    obtain rfl : v = 0 := HLT.out.2 h0
    have t2 : ((e2 : Int) == 0) = false := by simp; omega
    clear HRI HR
    go_enter Tryd.func46, Tryd.ntmps46
    go_wp2_with fail
    refine HC.out.mono ?_
    rintro e w1 ⟨rfl, hrd, ho, hle⟩
    obtain ⟨a, n, c, hrow, hbs⟩ := hrd.row
    have HRD := Lib.hid hrd
    have HO := Lib.hid ho
    have k1 : w1.cell? ⟨bk, 1, none⟩ = some (.int .i64 e2) := (cell_of_row _ _ 1 _ _ _ hrow).trans rfl
    clear hrd hrow hbs ho
    go_wp2
    go_ret
    exact ⟨rfl, HRD.out, HO.out, hle⟩
end Go.Proofs.YtkbfefooaajhkaaDoor
