/- Words for memory that is read, and for rows that a call owns; the law for append over both. No program in sight. -/
import Derived.WalkKit
import Derived.WalkSpells
import Derived.WalkLawsBesides
import Derived.Handy
import Derived.Deep.AppendSrc
import Derived.Deep.Upon
import Derived.Test.YtlipgaefflecaaaProg
import Derived.Laws.BytesArg
import Derived.Lib.Hide
import Derived.BigQuiet
import Derived.Deep.QuietTactic
import Derived.StillTailTactics
import Derived.RangeFuncNested
import Derived.RangeFuncBound
import Derived.RangeFuncBox
import Derived.RangeFuncCalls
import Derived.RangeFuncLeaves
import Derived.Shelf.Abstract
import Derived.OwnWalkIn
import Derived.TacticsInMore
import Derived.LoopNIn
import Derived.LoopIn
set_option linter.unusedVariables false
set_option linter.unusedSimpArgs false
section
set_option linter.unusedVariables false
namespace Go.Proofs.Ytlipgaefflecaaa
set_option linter.unusedSimpArgs false
open Go.RowKit

/-- From 'a' on the cells 'cs' are read. -/
def Row (w : World) (a : Option Addr) (cs : List Value) : Prop :=
  ∀ j v, cs[j]? = some v → ∃ b off, a = some ⟨b, off, none⟩ ∧ w.cell? ⟨b, off + j, none⟩ = some v

theorem le_alloc {w : World} {B : Nat} {o : Obj} (h : B ≤ w.heap.size) : B ≤ (w.alloc o).heap.size := by simp; omega

theorem Row.nil (w : World) (a : Option Addr) : Row w a [] := by intro j v h; simp at h

theorem Row.below {w w' : World} {a : Option Addr} {cs : List Value} (h : Row w a cs) (hb : Below w.heap.size w w') : Row w' a cs := by
  intro j v hv
  obtain ⟨b, off, rfl, hc⟩ := h j v hv
  exact ⟨b, off, rfl, cell_later hb hc⟩

theorem Row.alloc {w : World} {a : Option Addr} {cs : List Value} (h : Row w a cs) (o : Obj) : Row (w.alloc o) a cs :=
  h.below ((Below.refl _ _).alloc (Nat.le_refl _) o)

theorem Row.grown {w w' : World} {a : Option Addr} {cs : List Value} {row : Option Nat} (h : Row w a cs) (hg : w.grownBy w' row) (hne : ∀ x, a = some x → some x.block ≠ row) : Row w' a cs := by
  intro j v hv
  obtain ⟨b, off, rfl, hc⟩ := h j v hv
  exact ⟨b, off, rfl, hg.cell hc (hne ⟨b, off, none⟩ rfl)⟩

theorem Row.new (w : World) (cs : Array Value) (t : TypeId) : Row (w.alloc (.cells cs t)) (some ⟨w.heap.size, 0, none⟩) cs.toList := by
  intro j v hv
  refine ⟨w.heap.size, 0, rfl, ?_⟩
  rw [cell_of_row _ _ _ cs t (0, 0) (heap_alloc_new w _)]
  simpa using hv

theorem Row.of_own {w : World} {B e s n : Nat} {a : Option Addr} {k c : Nat} {cs : List Value} (h : w.ownsRow B e s (.slice a k c) n cs) : Row w a cs := by
  intro j v hv
  rcases h.2 with ⟨h1, h2⟩ | ⟨g, cap, cur, h1, _⟩
  · have := h.1
    subst h2
    simp at this
    subst this
    simp at hv
  · cases h1
    have := h.cells (g := g) rfl j v hv
    rw [Addr.add_lit] at this
    exact ⟨g, 0, rfl, this⟩

theorem own_shape {w : World} {B e s n : Nat} {v : Value} {cs : List Value} (h : w.ownsRow B e s v n cs) : ∃ a c, v = .slice a n c ∧ n ≤ c ∧ c ≤ maxLen := by
  rcases h.2 with ⟨rfl, rfl⟩ | ⟨g, cap, cur, rfl, _, _, h1, h2, _⟩
  · exact ⟨none, 0, rfl, Nat.le_refl _, by simp [maxLen]⟩
  · exact ⟨_, cap, rfl, h1, h2⟩

theorem own_cap {w : World} {B e s n k c : Nat} {a : Option Addr} {cs : List Value} (h : w.ownsRow B e s (.slice a k c) n cs) : k = n ∧ n ≤ c ∧ c ≤ maxLen := by
  obtain ⟨a', c', h1, h2⟩ := own_shape h
  cases h1
  exact ⟨rfl, h2⟩

theorem own_mono {w : World} {B B' e s n : Nat} {v : Value} {cs : List Value} (h : w.ownsRow B e s v n cs) (hB : B' ≤ B) : w.ownsRow B' e s v n cs := by
  refine ⟨h.1, ?_⟩
  rcases h.2 with h | ⟨g, cap, cur, h1, h2, h3⟩
  · exact .inl h
  · exact .inr ⟨g, cap, cur, h1, by omega, h3⟩

/-- An owned row stays where the world changes below its base alone, or elsewhere. -/
theorem own_below {w w' : World} {B e s n : Nat} {v : Value} {cs : List Value} (h : w.ownsRow B e s v n cs) (hb : Below w.heap.size w w') : w'.ownsRow B e s v n cs := by
  refine ⟨h.1, ?_⟩
  rcases h.2 with h | ⟨g, cap, cur, h1, h2, h3, h4⟩
  · exact .inl h
  · exact .inr ⟨g, cap, cur, h1, h2, by rw [hb.block g (Array.getElem?_eq_some_iff.1 h3).1]; exact h3, h4⟩

/-- The row of a subslice. -/
theorem Row.drop {w : World} {a : Option Addr} {cs : List Value} (h : Row w a cs) (k : Nat) : Row w (a.map fun x => x.add k) (cs.drop k) := by
  intro j v hv
  rw [List.getElem?_drop] at hv
  obtain ⟨b, off, rfl, hc⟩ := h _ v hv
  exact ⟨b, off + k, by simp [Addr.add_lit], by rw [Nat.add_assoc]; exact hc⟩

theorem Row.take {w : World} {a : Option Addr} {cs : List Value} (h : Row w a cs) (k : Nat) : Row w a (cs.take k) := by
  intro j v hv
  rw [List.getElem?_take] at hv
  split at hv
  · exact h j v hv
  · cases hv

theorem Row.dropIf {w : World} {a : Option Addr} {cs : List Value} (h : Row w a cs) (k c : Nat) (hc : cs.length ≤ c) : Row w (if c = k then a else a.map fun x => x.add k) (cs.drop k) := by
  split
  · rw [List.drop_eq_nil_of_le (by omega)]; exact Row.nil _ _
  · exact h.drop k

/-- The address of 's[k:]': at k = cap(s) it stays. A plain definition: the walk does not part on it. -/
def subA (a : Option Addr) (c k : Nat) : Option Addr := if c = k then a else a.map fun x => x.add k
def subAn (a : Option Addr) (c k s : Nat) : Option Addr := if c = k then a else a.map fun x => x.add (k * s)
theorem subAn_one (a : Option Addr) (c k : Nat) : subAn a c k 1 = subA a c k := by simp [subAn, subA]
theorem Row.subA {w : World} {a : Option Addr} {cs : List Value} (h : Row w a cs) (k c : Nat) (hc : cs.length ≤ c) : Row w (subA a c k) (cs.drop k) := h.dropIf k c hc

section
variable {P : Program}
theorem run_sliceBound (k : Nat) (c : Nat) (code : BoundsCode) (h : k ≤ c) (w : World) : (Instr.sliceBound (.int .i64 (k : Int)) c code).run P w = .ok k w := by
  have g : (0 : Int) ≤ (k : Int) ∧ (k : Int) ≤ (c : Int) := by omega
  simp [Instr.sliceBound, asIntOf, h]
/-- 's[lo:hi]' of a slice. -/
theorem run_slice_lh {t e : TypeId} {i : TypeInfo} {s : Nat} (ht : P.underlying t = some (.slice e)) (hi : P.info? e = some i) (hs : i.size = s) (a : Option Addr) (n c : Nat) {lo hi : Int} {lo' hi' : Nat} (hlo : lo = lo') (hhi : hi = hi') (h1 : lo' ≤ hi') (h2 : hi' ≤ c) (w : World) :
    (Instr.slice t (.slice a n c) (some (.int .i64 lo)) (some (.int .i64 hi)) none).run P w = .ok (.slice (subAn a c lo' s) (hi' - lo') (c - lo')) w := by
  subst hlo hhi hs
  simp [Instr.slice, run_underlying ht, sizeOf, typeInfo, hi, Instr.sliceBounds, run_sliceBound, subAn, h1, h2]
/-- 's[lo:]'. -/
theorem run_slice_l {t e : TypeId} {i : TypeInfo} {s : Nat} (ht : P.underlying t = some (.slice e)) (hi : P.info? e = some i) (hs : i.size = s) (a : Option Addr) (n c : Nat) {lo : Int} {lo' : Nat} (hlo : lo = lo') (h1 : lo' ≤ n) (w : World) :
    (Instr.slice t (.slice a n c) (some (.int .i64 lo)) none none).run P w = .ok (.slice (subAn a c lo' s) (n - lo') (c - lo')) w := by
  subst hlo hs
  simp [Instr.slice, run_underlying ht, sizeOf, typeInfo, hi, Instr.sliceBounds, run_sliceBound, subAn, h1]
/-- 's[:hi]'. -/
theorem run_slice_h {t e : TypeId} {i : TypeInfo} {s : Nat} (ht : P.underlying t = some (.slice e)) (hi : P.info? e = some i) (hs : i.size = s) (a : Option Addr) (n c : Nat) {hi : Int} {hi' : Nat} (hhi : hi = hi') (h2 : hi' ≤ c) (w : World) :
    (Instr.slice t (.slice a n c) none (some (.int .i64 hi)) none).run P w = .ok (.slice a hi' c) w := by
  subst hhi hs
  simp [Instr.slice, run_underlying ht, sizeOf, typeInfo, hi, Instr.sliceBounds, run_sliceBound, h2]
  intro _; cases a <;> simp [Addr.add_zero']
/-- 's[lo:hi:max]'. -/
theorem run_slice_lhm {t e : TypeId} {i : TypeInfo} {s : Nat} (ht : P.underlying t = some (.slice e)) (hi : P.info? e = some i) (hs : i.size = s) (a : Option Addr) (n c : Nat) {lo hi mx : Int} {lo' hi' mx' : Nat} (hlo : lo = lo') (hhi : hi = hi') (hmx : mx = mx') (h1 : lo' ≤ hi') (h2 : hi' ≤ mx') (h3 : mx' ≤ c) (w : World) :
    (Instr.slice t (.slice a n c) (some (.int .i64 lo)) (some (.int .i64 hi)) (some (.int .i64 mx))).run P w = .ok (.slice (subAn a mx' lo' s) (hi' - lo') (mx' - lo')) w := by
  subst hlo hhi hmx hs
  simp [Instr.slice, run_underlying ht, sizeOf, typeInfo, hi, Instr.sliceBounds, run_sliceBound, subAn, h1, h2, h3]
end

section
variable {P : Program}

/-- There is no room: whatever slice is read, the result lies in a new block. -/
theorem run_append_new (w : World) (t ty e : Nat) (i : TypeInfo) (z : Value) (ht : P.underlying t = some (.slice e)) (hi : P.info? e = some i) (hz : i.zero = some z)
    (hzs : z.cells.size = i.size) (hsz : 0 < i.size) (a : Option Addr) (n cap : Nat) (xs : List Value) (hrow : Row w a xs) (hxl : xs.length = n * i.size) (hcap : a = none → cap = 0)
    (ax : Option Addr) (m c : Nat) (news : List Value) (hl : news.length = m * i.size) (hr : Row w ax news) (hm : 0 < m) (hroom : cap < n + m) (hnc : n ≤ cap)
    (hbytes : (n + m) * i.bytes ≤ 140737488355328) (h63 : n + m ≤ maxLen) :
    ∃ c' w', (Builtin.append_ #[t, t] ty #[.slice a n cap, .slice ax m c]).run P w = .ok (.slice (some ⟨w.heap.size, 0, none⟩) (n + m) c') w' ∧
      (∀ B, B ≤ w.heap.size → w'.ownsRow B e i.size (.slice (some ⟨w.heap.size, 0, none⟩) (n + m) c') (n + m) (xs ++ news)) ∧ ∀ row, w.grownBy w' row := by
  obtain ⟨u, hu⟩ : ∃ u, news[0]? = some u := by
    cases news with
    | nil =>
      rcases Nat.mul_eq_zero.1 hl.symm with h | h <;> omega
    | cons u _ => exact ⟨u, rfl⟩
  obtain ⟨b, off, rfl, _⟩ := hr 0 u hu
  have hnews : ∀ j x, news[j]? = some x → w.cell? ((⟨b, off, none⟩ : Addr).add j) = some x :=
    fun j x hx => by obtain ⟨b', off', h, h'⟩ := hr j x hx; cases h; rw [Addr.add_lit]; exact h'
  have hsmall : n + m ≤ 9223372036854775807 := by simp only [maxLen] at h63; omega
  have hlen : (xs ++ news).length = (n + m) * i.size := by rw [List.length_append, hxl, hl, Nat.add_mul]
  have hge := grownCap_ge w (n + m) cap e
  have hcm : grownCap w (n + m) cap e ≤ maxLen := grownCap_le_maxLen w (n + m) cap e h63
  have hrun : (Builtin.append_ #[t, t] ty #[.slice a n cap, .slice (some ⟨b, off, none⟩) m c]).run P w =
      .ok (.slice (some ⟨w.heap.size, 0, none⟩) (n + m) (grownCap w (n + m) cap e)) (w.drew.alloc (.cells (xs.toArray ++ news.toArray ++ Builtin.zeroCells z.cells (grownCap w (n + m) cap e - (n + m))) e)) := by
    cases a with
    | none =>
      obtain rfl := hcap rfl
      obtain rfl : n = 0 := by omega
      obtain rfl : xs = [] := List.eq_nil_of_length_eq_zero (by simpa using hxl)
      have := run_append_nil (P := P) w t ty e i z ht hi hz ⟨b, off, none⟩ m c news hl hnews (by omega) (by omega) (by have := hbytes; simp only [Nat.zero_add] at this; omega)
      simpa using this
    | some ad =>
      refine run_append_grow (P := P) w t ty e i z ht hi hz ad n cap xs hxl ?_ ⟨b, off, none⟩ m c news hl hnews hroom (by omega) (growslice_fits (by omega) hbytes)
      intro j y hy
      obtain ⟨b', off', h, h'⟩ := hrow j y hy
      cases h
      rw [Addr.add_lit]
      exact h'
  refine ⟨_, _, hrun, fun B hB => ⟨hlen, .inr ⟨w.heap.size, _, _, rfl, hB, heap_alloc_new w.drew _, hge, hcm, ?_, ?_⟩⟩, fun row => ⟨rfl, rfl, rfl, by simp, fun k hk _ => Below.heap_alloc w.drew _ k hk⟩⟩
  · simp only [Array.size_append, List.size_toArray, size_zeroCells, hzs, hxl, hl, ← Nat.add_mul]
    congr 1
    omega
  · simp only [Array.toList_append, List.append_assoc]
    rw [← List.append_assoc, ← hlen]
    exact List.take_left

/-- How a slice that is appended to comes along: only its own block may be written; it lies there still, or in a new block. -/
def Evol (w : World) (a : Option Addr) (w' : World) (a' : Option Addr) : Prop :=
  w.grownBy w' (a.map (·.block)) ∧ ∀ x, a' = some x → a.map (·.block) = some x.block ∨ w.heap.size ≤ x.block
theorem Evol.refl (w : World) (a : Option Addr) : Evol w a w a := ⟨⟨rfl, rfl, rfl, Nat.le_refl _, fun _ _ _ => rfl⟩, fun x hx => .inl (by rw [hx]; rfl)⟩
theorem Evol.alloc (w : World) (a : Option Addr) (o : Obj) : Evol w a (w.alloc o) a := ⟨World.grownBy_alloc w o _, fun x hx => .inl (by rw [hx]; rfl)⟩
theorem Evol.of_below {w w' : World} {a : Option Addr} (h : Below w.heap.size w w') : Evol w a w' a :=
  ⟨⟨h.os, h.tape, h.output, h.size, fun k hk _ => h.block k hk⟩, fun x hx => .inl (by rw [hx]; rfl)⟩
theorem Evol.trans {w w1 w2 : World} {a a1 a2 : Option Addr} (h : Evol w a w1 a1) (k : Evol w1 a1 w2 a2) : Evol w a w2 a2 := by
  refine ⟨⟨k.1.os.trans h.1.os, k.1.tape.trans h.1.tape, k.1.output.trans h.1.output, Nat.le_trans h.1.size k.1.size, fun j hj hne => ?_⟩, fun x hx => ?_⟩
  · rw [k.1.block j (Nat.lt_of_lt_of_le hj h.1.size) ?_]
    · exact h.1.block j hj hne
    · intro e
      cases a1 with
      | none => cases e
      | some y =>
        have e' : j = y.block := by simpa using e
        rcases h.2 y rfl with h' | h'
        · exact hne (by rw [h', e'])
        · omega
  · rcases k.2 x hx with h' | h'
    · cases a1 with
      | none => cases h'
      | some y =>
        have e' : y.block = x.block := by simpa using h'
        rcases h.2 y rfl with h2 | h2
        · exact .inl (by rw [h2, e'])
        · exact .inr (by omega)
    · exact .inr (Nat.le_trans h.1.size h')
theorem Row.evol {w w' : World} {a a' ax : Option Addr} {cs : List Value} (h : Row w ax cs) (k : Evol w a w' a') (hne : 0 < cs.length → ∀ y x, ax = some y → a = some x → y.block ≠ x.block) : Row w' ax cs := by
  cases cs with
  | nil => exact Row.nil _ _
  | cons c cs =>
    refine h.grown k.1 ?_
    intro x hx e
    cases a with
    | none => cases e
    | some y => exact hne (by simp) x y hx rfl (by simpa using e)
theorem Evol.below {w w' : World} {a a' : Option Addr} {B : Nat} (k : Evol w a w' a') (hB : B ≤ w.heap.size) (ha : ∀ x, a = some x → B ≤ x.block) : Below B w w' :=
  (Below.refl _ _).grown k.1 hB (fun j hj => by
    cases a with
    | none => cases hj
    | some y => have := ha y rfl; have e : y.block = j := by simpa using hj
                omega)

/-- append onto a row of the call's own, out of whatever slice. -/
theorem run_append_own' (w : World) (B t ty e : Nat) (i : TypeInfo) (z : Value) (size bytes : Nat) (ht : P.underlying t = some (.slice e)) (hi : P.info? e = some i) (hz : i.zero = some z)
    (hsize : i.size = size) (hby : i.bytes = bytes) (hzs : z.cells.size = size) (hsz : 0 < size)
    (a : Option Addr) (n cap : Nat) (xs : List Value) (hown : w.ownsRow B e size (.slice a n cap) n xs)
    (ax : Option Addr) (m c : Nat) (news : List Value) (hl : news.length = m * size) (hr : Row w ax news) (h1 : ∀ u ∈ news, u.oneCell' = true)
    (hbytes : (n + m) * bytes ≤ 140737488355328) (h63 : n + m ≤ maxLen) (hbase : B ≤ w.heap.size) :
    ∃ a' c' w', (Builtin.append_ #[t, t] ty #[.slice a n cap, .slice ax m c]).run P w = .ok (.slice a' (n + m) c') w' ∧ w'.ownsRow B e size (.slice a' (n + m) c') (n + m) (xs ++ news) ∧ Evol w a w' a' := by
  by_cases hm : m = 0
  · subst hm
    have hn : news = [] := List.eq_nil_of_length_eq_zero (by simpa using hl)
    subst hn
    obtain ⟨_, hle, _⟩ := own_cap hown
    have hs : Src P i.size t (.slice ax 0 c) 0 [] w := by
      cases ax with
      | none => exact Src.ofNil w ht c
      | some ad => exact Src.ofSlice w ht ad 0 c [] (by simp) (by intro j u h; simp at h) (by intro u h; cases h)
    exact ⟨a, cap, w, run_append_nothing w t t ty e i ht hi a n cap hle _ hs, by simpa using hown, Evol.refl _ _⟩
  · subst hsize
    subst hby
    have hcap := own_cap hown
    by_cases hroom : n + m ≤ cap
    · rcases hown.2 with ⟨h0, h0'⟩ | ⟨g, cap', cur, h0, hbg, hg, hnc, hcm, hcs, htake⟩
      · cases h0; omega
      · cases h0
        obtain ⟨u, hu⟩ : ∃ u, news[0]? = some u := by
          cases news with
          | nil =>
            rcases Nat.mul_eq_zero.1 hl.symm with h | h <;> omega
          | cons u _ => exact ⟨u, rfl⟩
        obtain ⟨b, off, rfl, _⟩ := hr 0 u hu
        have hnews : ∀ j x, news[j]? = some x → w.cell? ((⟨b, off, none⟩ : Addr).add j) = some x :=
          fun j x hx => by obtain ⟨b', off', h, h'⟩ := hr j x hx; cases h; rw [Addr.add_lit]; exact h'
        have hlen : (xs ++ news).length = (n + m) * i.size := by rw [List.length_append, hown.1, hl, Nat.add_mul]
        have hfit : n * i.size + news.length ≤ cur.size := by rw [hl, hcs, ← Nat.add_mul]; exact Nat.mul_le_mul_right _ hroom
        have hrun := run_append_room (P := P) w t ty e i ht hi g n cap cur hg ⟨b, off, none⟩ m c news hl hnews h1 hroom hfit
        refine ⟨_, _, _, hrun, ⟨hlen, .inr ⟨g, cap, _, rfl, hbg, setRow_heap w g cur _ e _ hg, hroom, hcm, ?_, ?_⟩⟩, ⟨rfl, rfl, rfl, by simp, fun k _ hk => setRow_other w g k _ (fun e => hk (by simp [e]))⟩, fun x hx => .inl (by cases hx; rfl)⟩
        · simp only [List.size_toArray, List.length_append, List.length_take, List.length_drop, Array.length_toList]
          omega
        · rw [htake, ← hlen]
          exact List.take_left
    · obtain ⟨c', w', h2, h3, h4⟩ := run_append_new w t ty e i z ht hi hz hzs hsz a n cap xs (Row.of_own hown) hown.1 (by
        intro ha
        rcases hown.2 with ⟨h0, _⟩ | ⟨g, cap', cur, h0, _⟩
        · cases h0; rfl
        · cases h0; cases ha) ax m c news hl hr (by omega) (by omega) hcap.2.1 hbytes h63
      exact ⟨_, c', w', h2, h3 B hbase, h4 _, fun x hx => by cases hx; exact .inr (Nat.le_refl _)⟩

/-- What may be appended to without a store into what was there: a row of the call's own, or a slice that is full. -/
def App (w : World) (B e size : Nat) (v : Value) (n : Nat) (cs : List Value) : Prop :=
  w.ownsRow B e size v n cs ∨ (∃ a, v = .slice a n n ∧ Row w a cs ∧ cs.length = n * size ∧ n ≤ maxLen)

theorem App.shape {w : World} {B e s n : Nat} {v : Value} {cs : List Value} (h : App w B e s v n cs) : ∃ a c, v = .slice a n c ∧ n ≤ c ∧ c ≤ maxLen := by
  rcases h with h | ⟨a, rfl, _, _, h⟩
  · exact own_shape h
  · exact ⟨a, n, rfl, Nat.le_refl _, h⟩

theorem App.below {w w' : World} {B e s n : Nat} {v : Value} {cs : List Value} (h : App w B e s v n cs) (hb : Below w.heap.size w w') : App w' B e s v n cs := by
  rcases h with h | ⟨a, rfl, h, h'⟩
  · exact .inl (own_below h hb)
  · exact .inr ⟨a, rfl, h.below hb, h'⟩

theorem App.row {w : World} {B e s n k c : Nat} {a : Option Addr} {cs : List Value} (h : App w B e s (.slice a k c) n cs) : Row w a cs := by
  rcases h with h | ⟨a', h1, h2, _⟩
  · exact Row.of_own h
  · cases h1; exact h2

theorem App.cap {w : World} {B e s n k c : Nat} {a : Option Addr} {cs : List Value} (h : App w B e s (.slice a k c) n cs) : k = n ∧ n ≤ c ∧ c ≤ maxLen := by
  obtain ⟨a', c', h1, h2⟩ := h.shape
  cases h1
  exact ⟨rfl, h2⟩

theorem run_append_app (w : World) (B t ty e : Nat) (i : TypeInfo) (z : Value) (size bytes : Nat) (ht : P.underlying t = some (.slice e)) (hi : P.info? e = some i) (hz : i.zero = some z)
    (hsize : i.size = size) (hby : i.bytes = bytes) (hzs : z.cells.size = size) (hsz : 0 < size)
    (a : Option Addr) (n cap : Nat) (xs : List Value) (happ : App w B e size (.slice a n cap) n xs)
    (ax : Option Addr) (m c : Nat) (news : List Value) (hl : news.length = m * size) (hr : Row w ax news) (h1 : ∀ u ∈ news, u.oneCell' = true)
    (hbytes : (n + m) * bytes ≤ 140737488355328) (h63 : n + m ≤ maxLen) (hbase : B ≤ w.heap.size) :
    ∃ a' c' w', (Builtin.append_ #[t, t] ty #[.slice a n cap, .slice ax m c]).run P w = .ok (.slice a' (n + m) c') w' ∧ App w' B e size (.slice a' (n + m) c') (n + m) (xs ++ news) ∧
      (0 < m → w'.ownsRow B e size (.slice a' (n + m) c') (n + m) (xs ++ news)) ∧ Below B w w' ∧ Evol w a w' a' := by
  rcases happ with hown | ⟨a0, h0, hrow, hxl, hnm⟩
  · obtain ⟨a', c', w', h2, h3, h4⟩ := run_append_own' w B t ty e i z size bytes ht hi hz hsize hby hzs hsz a n cap xs hown ax m c news hl hr h1 hbytes h63 hbase
    exact ⟨a', c', w', h2, .inl h3, fun _ => h3, h4.below hbase (fun x hx => by
      subst hx; exact (hown.lt x.block rfl).1), h4⟩
  · cases h0
    by_cases hm : m = 0
    · subst hm
      have hn : news = [] := List.eq_nil_of_length_eq_zero (by simpa using hl)
      subst hn
      have hs : Src P i.size t (.slice ax 0 c) 0 [] w := by
        cases ax with
        | none => exact Src.ofNil w ht c
        | some ad => exact Src.ofSlice w ht ad 0 c [] (by simp) (by intro j u h; simp at h) (by intro u h; cases h)
      refine ⟨a, n, w, run_append_nothing w t t ty e i ht hi a n n (Nat.le_refl _) _ hs, .inr ⟨a, rfl, by simpa using hrow, by simpa using hxl, hnm⟩, fun h => absurd h (by omega), Below.refl _ _, Evol.refl _ _⟩
    · subst hsize
      subst hby
      obtain ⟨c', w', h2, h3, h4⟩ := run_append_new w t ty e i z ht hi hz hzs hsz a n n xs hrow hxl (by
        intro ha
        subst ha
        cases xs with
        | nil => rcases Nat.mul_eq_zero.1 hxl.symm with h | h <;> omega
        | cons x xs => obtain ⟨_, _, h, _⟩ := hrow 0 x rfl; cases h) ax m c news hl hr (by omega) (by omega) (Nat.le_refl _) hbytes h63
      exact ⟨_, c', w', h2, .inl (h3 B hbase), fun _ => h3 B hbase, (Below.refl _ _).grown (h4 none) hbase (fun k hk => by cases hk), h4 _, fun x hx => by cases hx; exact .inr (Nat.le_refl _)⟩

/-- append to a row of the call's own, as a step of the walk. -/
theorem wpList_app_own {w : World} {ops : Array Oper} {rest : List Oper} {o : Oper} {a : Act} {Q : Exit → Act → World → Prop} (hgd : Region.wanted o (yielded ops a.tmps) = true) (s x : Operand) (t : TypeId)
    (ho : o.op = .call { callee := .builtin .append, args := #[s, x], argTypes := #[t, t] })
    (B e : Nat) (i : TypeInfo) (z : Value) (size bytes : Nat) (ht : P.underlying t = some (.slice e)) (hi : P.info? e = some i) (hz : i.zero = some z)
    (hsize : i.size = size) (hby : i.bytes = bytes) (hzs : z.cells.size = size) (hsz : 0 < size)
    (aq : Option Addr) (n cq : Nat) (xs : List Value) (hs : a.eval s = .slice aq n cq) (hown : w.ownsRow B e size (.slice aq n cq) n xs)
    (ax : Option Addr) (m c : Nat) (news : List Value) (hx : a.eval x = .slice ax m c) (hr : Row w ax news) (hl : news.length = m * size) (h1 : ∀ u ∈ news, u.oneCell' = true)
    (hbytes : (n + m) * bytes ≤ 140737488355328) (h63 : n + m ≤ maxLen) (hbase : B ≤ w.heap.size)
    (h : ∀ a' c' w', w'.ownsRow B e size (.slice a' (n + m) c') (n + m) (xs ++ news) → Evol w aq w' a' → wpList P ops Q rest (a.put o.dst (.slice a' (n + m) c')) w') : wpList P ops Q (o :: rest) a w :=
  BigFrame.wpList_want hgd fun K hK => by
    obtain ⟨a', c', w', hr, h2, h3⟩ := run_append_own' (P := P) w B t o.type e i z size bytes ht hi hz hsize hby hzs hsz aq n cq xs hown ax m c news hl hr h1 hbytes h63 hbase
    unfold Oper.wp execOp
    simp only [ho, resolve, invoke, builtin, Sem.run_bind, Sem.run_pure, Result.andThen_ok, List.map_toArray, List.map_cons, List.map_nil, hs, hx, hr]
    exact hK _ _ (h a' c' w' h2 h3)

/-- append to a row of the call's own or to a slice that is full. -/
theorem wpList_app {w : World} {ops : Array Oper} {rest : List Oper} {o : Oper} {a : Act} {Q : Exit → Act → World → Prop} (hgd : Region.wanted o (yielded ops a.tmps) = true) (s x : Operand) (t : TypeId)
    (ho : o.op = .call { callee := .builtin .append, args := #[s, x], argTypes := #[t, t] })
    (B e : Nat) (i : TypeInfo) (z : Value) (size bytes : Nat) (ht : P.underlying t = some (.slice e)) (hi : P.info? e = some i) (hz : i.zero = some z)
    (hsize : i.size = size) (hby : i.bytes = bytes) (hzs : z.cells.size = size) (hsz : 0 < size)
    (aq : Option Addr) (n cq : Nat) (xs : List Value) (hs : a.eval s = .slice aq n cq) (hown : App w B e size (.slice aq n cq) n xs)
    (ax : Option Addr) (m c : Nat) (news : List Value) (hx : a.eval x = .slice ax m c) (hr : Row w ax news) (hl : news.length = m * size) (h1 : ∀ u ∈ news, u.oneCell' = true)
    (hbytes : (n + m) * bytes ≤ 140737488355328) (h63 : n + m ≤ maxLen) (hbase : B ≤ w.heap.size)
    (h : ∀ a' c' w', App w' B e size (.slice a' (n + m) c') (n + m) (xs ++ news) → (0 < m → w'.ownsRow B e size (.slice a' (n + m) c') (n + m) (xs ++ news)) → Below B w w' → Evol w aq w' a' →
      wpList P ops Q rest (a.put o.dst (.slice a' (n + m) c')) w') : wpList P ops Q (o :: rest) a w :=
  BigFrame.wpList_want hgd fun K hK => by
    obtain ⟨a', c', w', hr, h2, h3, h4, h5⟩ := run_append_app (P := P) w B t o.type e i z size bytes ht hi hz hsize hby hzs hsz aq n cq xs hown ax m c news hl hr h1 hbytes h63 hbase
    unfold Oper.wp execOp
    simp only [ho, resolve, invoke, builtin, Sem.run_bind, Sem.run_pure, Result.andThen_ok, List.map_toArray, List.map_cons, List.map_nil, hs, hx, hr]
    exact hK _ _ (h a' c' w' h2 h3 h4 h5)
end
end Go.Proofs.Ytlipgaefflecaaa
end

section
set_option linter.unusedVariables false
set_option linter.unusedSimpArgs false
namespace Go.Proofs.Ytlipgaefflecaaa
open Go.RowKit

def n8 (b : UInt8) : Int := (b.toNat : Int)
def n32 (c : UInt32) : Int := (c.toNat : Int)
theorem n8_bd (b : UInt8) : 0 ≤ n8 b ∧ n8 b < 256 := by have := b.toNat_lt; unfold n8; omega
theorem n32_bd (b : UInt32) : 0 ≤ n32 b ∧ n32 b < 4294967296 := by have := b.toNat_lt; unfold n32; omega
@[go_sem] theorem n8_nn (b : UInt8) : 0 ≤ n8 b := (n8_bd b).1
@[go_sem] theorem n32_nn (b : UInt32) : 0 ≤ n32 b := (n32_bd b).1
theorem n8_inj {a b : UInt8} (h : n8 a = n8 b) : a = b := by
  unfold n8 at h; exact UInt8.toNat_inj.1 (by omega)
theorem n32_inj {a b : UInt32} (h : n32 a = n32 b) : a = b := by
  unfold n32 at h; exact UInt32.toNat_inj.1 (by omega)
@[go_sem] theorem n8_beq (a b : UInt8) : (n8 a == n8 b) = (a == b) := by
  rw [Bool.eq_iff_iff]; simp only [beq_iff_eq]; exact ⟨n8_inj, fun h => by rw [h]⟩
@[go_sem] theorem n32_beq (a b : UInt32) : (n32 a == n32 b) = (a == b) := by
  rw [Bool.eq_iff_iff]; simp only [beq_iff_eq]; exact ⟨n32_inj, fun h => by rw [h]⟩
@[go_sem] theorem n8_bne (a b : UInt8) : (n8 a != n8 b) = !(a == b) := by
  show (!(n8 a == n8 b)) = _
  rw [n8_beq]
@[go_sem] theorem n32_bne (a b : UInt32) : (n32 a != n32 b) = !(a == b) := by
  show (!(n32 a == n32 b)) = _
  rw [n32_beq]
theorem n8_cast (a : UInt8) : n8 a = (a.toNat : Int) := rfl
theorem n8_lt_lit {a : UInt8} {k : Nat} (h : a.toNat < k) : decide (n8 a < (k : Int)) = true := by unfold n8; simp; omega
theorem n8_nlt_lit {a : UInt8} {k : Nat} (h : k ≤ a.toNat) : decide (n8 a < (k : Int)) = false := by unfold n8; simp; omega
theorem n8_gt_lit {a : UInt8} {k : Nat} (h : k < a.toNat) : decide ((k : Int) < n8 a) = true := by unfold n8; simp; omega
theorem n8_ngt_lit {a : UInt8} {k : Nat} (h : a.toNat ≤ k) : decide ((k : Int) < n8 a) = false := by unfold n8; simp; omega
theorem n8_lit {n : Nat} (h : n < 256) : (OfNat.ofNat n : Int) = n8 (OfNat.ofNat n) := by
  show (n : Int) = ((UInt8.ofNat n).toNat : Int)
  rw [UInt8.toNat_ofNat']; omega
theorem n32_lit {n : Nat} (h : n < 4294967296) : (OfNat.ofNat n : Int) = n32 (OfNat.ofNat n) := by
  show (n : Int) = ((UInt32.ofNat n).toNat : Int)
  rw [UInt32.toNat_ofNat']; omega
theorem n8_beq_lit (a : UInt8) (n : Nat) (h : n < 256) : (n8 a == (OfNat.ofNat n : Int)) = (a == OfNat.ofNat n) := by rw [n8_lit h, n8_beq]
theorem n32_beq_lit (a : UInt32) (n : Nat) (h : n < 4294967296) : (n32 a == (OfNat.ofNat n : Int)) = (a == OfNat.ofNat n) := by rw [n32_lit h, n32_beq]

@[go_sem] theorem xor32 (a b : UInt32) : bits .xor .u32 (n32 a) (n32 b) = n32 (a ^^^ b) := by
  unfold n32; rw [u32_xor_nat _ _ a.toNat_lt b.toNat_lt, UInt32.toNat_xor]
@[go_sem] theorem and32 (a b : UInt32) : bits .and .u32 (n32 a) (n32 b) = n32 (a &&& b) := by
  unfold n32; rw [u32_and_nat _ _ a.toNat_lt b.toNat_lt, UInt32.toNat_and]
@[go_sem] theorem or32 (a b : UInt32) : bits .or .u32 (n32 a) (n32 b) = n32 (a ||| b) := by
  unfold n32; rw [u32_or_nat _ _ a.toNat_lt b.toNat_lt, UInt32.toNat_or]
theorem xor32_lit (a : UInt32) (n : Nat) (h : n < 4294967296) : bits .xor .u32 (n32 a) (OfNat.ofNat n : Int) = n32 (a ^^^ OfNat.ofNat n) := by rw [n32_lit h, xor32]
theorem and32_lit (a : UInt32) (n : Nat) (h : n < 4294967296) : bits .and .u32 (n32 a) (OfNat.ofNat n : Int) = n32 (a &&& OfNat.ofNat n) := by rw [n32_lit h, and32]
@[go_sem] theorem wrap64_n32 (c : UInt32) : IntKind.u64.wrap (n32 c) = ((c.toNat : Nat) : Int) := by
  have := c.toNat_lt; unfold n32; rw [IntKind.wrap_u64]; omega
@[go_sem] theorem wrap64_n8 (c : UInt8) : IntKind.u64.wrap (n8 c) = ((c.toNat : Nat) : Int) := by
  have := c.toNat_lt; unfold n8; rw [IntKind.wrap_u64]; omega
@[go_sem] theorem not32 (a : UInt32) : bits .xor .u32 IntKind.u32.max (n32 a) = n32 (a ^^^ 4294967295) := by
  have e : IntKind.u32.max = n32 4294967295 := by decide
  rw [e, xor32, UInt32.xor_comm]
@[go_sem] theorem shr32_1 (a : UInt32) : n32 a / (2 : Int) = n32 (a >>> 1) := by unfold n32; simp [Nat.shiftRight_eq_div_pow]
@[go_sem] theorem shr32_4 (a : UInt32) : n32 a / (16 : Int) = n32 (a >>> 4) := by unfold n32; simp [Nat.shiftRight_eq_div_pow]
@[go_sem] theorem shr32_8 (a : UInt32) : n32 a / (256 : Int) = n32 (a >>> 8) := by unfold n32; simp [Nat.shiftRight_eq_div_pow]
@[go_sem] theorem shr32_16 (a : UInt32) : n32 a / (65536 : Int) = n32 (a >>> 16) := by unfold n32; simp [Nat.shiftRight_eq_div_pow]
@[go_sem] theorem shr32_24 (a : UInt32) : n32 a / (16777216 : Int) = n32 (a >>> 24) := by unfold n32; simp [Nat.shiftRight_eq_div_pow]
@[go_sem] theorem n8_to32 (b : UInt8) : n8 b % (4294967296 : Int) = n32 b.toUInt32 := by
  have := b.toNat_lt; unfold n8 n32; rw [UInt8.toNat_toUInt32]; omega
@[go_sem] theorem n32_to8 (b : UInt32) : n32 b % (256 : Int) = n8 b.toUInt8 := by
  unfold n8 n32; rw [UInt32.toNat_toUInt8]; omega

@[go_sem] theorem xor8 (a b : UInt8) : bits .xor .u8 (n8 a) (n8 b) = n8 (a ^^^ b) := by
  unfold n8; rw [u8_xor_nat _ _ a.toNat_lt b.toNat_lt, UInt8.toNat_xor]
@[go_sem] theorem and8 (a b : UInt8) : bits .and .u8 (n8 a) (n8 b) = n8 (a &&& b) := by
  unfold n8; rw [u8_and_nat _ _ a.toNat_lt b.toNat_lt, UInt8.toNat_and]
@[go_sem] theorem or8 (a b : UInt8) : bits .or .u8 (n8 a) (n8 b) = n8 (a ||| b) := by
  unfold n8; rw [u8_or_nat _ _ a.toNat_lt b.toNat_lt, UInt8.toNat_or]
theorem xor8_lit (a : UInt8) (n : Nat) (h : n < 256) : bits .xor .u8 (n8 a) (OfNat.ofNat n : Int) = n8 (a ^^^ OfNat.ofNat n) := by rw [n8_lit h, xor8]
theorem and8_lit (a : UInt8) (n : Nat) (h : n < 256) : bits .and .u8 (n8 a) (OfNat.ofNat n : Int) = n8 (a &&& OfNat.ofNat n) := by rw [n8_lit h, and8]
theorem or8_lit (a : UInt8) (n : Nat) (h : n < 256) : bits .or .u8 (n8 a) (OfNat.ofNat n : Int) = n8 (a ||| OfNat.ofNat n) := by rw [n8_lit h, or8]
@[go_sem] theorem shl32_8 (a : UInt32) : IntKind.u32.wrap (n32 a * (256 : Int)) = n32 (a <<< 8) := by
  unfold n32; rw [IntKind.wrap_u32]; simp [Nat.shiftLeft_eq]
@[go_sem] theorem shl32_16 (a : UInt32) : IntKind.u32.wrap (n32 a * (65536 : Int)) = n32 (a <<< 16) := by
  unfold n32; rw [IntKind.wrap_u32]; simp [Nat.shiftLeft_eq]
@[go_sem] theorem shl32_24 (a : UInt32) : IntKind.u32.wrap (n32 a * (16777216 : Int)) = n32 (a <<< 24) := by
  unfold n32; rw [IntKind.wrap_u32]; simp [Nat.shiftLeft_eq]
@[go_sem] theorem shr8_1 (a : UInt8) : n8 a / (2 : Int) = n8 (a >>> 1) := by unfold n8; simp [Nat.shiftRight_eq_div_pow]
@[go_sem] theorem shr8_7 (a : UInt8) : n8 a / (128 : Int) = n8 (a >>> 7) := by unfold n8; simp [Nat.shiftRight_eq_div_pow]

@[go_sem] theorem n8_beq_0 (a : UInt8) : (n8 a == (0 : Int)) = (a == 0) := n8_beq_lit a 0 (by decide)
@[go_sem] theorem n8_beq_1 (a : UInt8) : (n8 a == (1 : Int)) = (a == 1) := n8_beq_lit a 1 (by decide)
@[go_sem] theorem n8_beq_2 (a : UInt8) : (n8 a == (2 : Int)) = (a == 2) := n8_beq_lit a 2 (by decide)
@[go_sem] theorem n8_beq_255 (a : UInt8) : (n8 a == (255 : Int)) = (a == 255) := n8_beq_lit a 255 (by decide)
@[go_sem] theorem n8_beq_128 (a : UInt8) : (n8 a == (128 : Int)) = (a == 128) := n8_beq_lit a 128 (by decide)
@[go_sem] theorem n32_beq_0 (a : UInt32) : (n32 a == (0 : Int)) = (a == 0) := n32_beq_lit a 0 (by decide)
@[go_sem] theorem n32_beq_1 (a : UInt32) : (n32 a == (1 : Int)) = (a == 1) := n32_beq_lit a 1 (by decide)
@[go_sem] theorem xor32_2197175160 (a : UInt32) : bits .xor .u32 (n32 a) (2197175160 : Int) = n32 (a ^^^ 2197175160) := xor32_lit a 2197175160 (by decide)
@[go_sem] theorem xor32_4294967295 (a : UInt32) : bits .xor .u32 (n32 a) (4294967295 : Int) = n32 (a ^^^ 4294967295) := xor32_lit a 4294967295 (by decide)
@[go_sem] theorem and32_1 (a : UInt32) : bits .and .u32 (n32 a) (1 : Int) = n32 (a &&& 1) := and32_lit a 1 (by decide)
@[go_sem] theorem and32_15 (a : UInt32) : bits .and .u32 (n32 a) (15 : Int) = n32 (a &&& 15) := and32_lit a 15 (by decide)
@[go_sem] theorem and8_1 (a : UInt8) : bits .and .u8 (n8 a) (1 : Int) = n8 (a &&& 1) := and8_lit a 1 (by decide)
@[go_sem] theorem and8_127 (a : UInt8) : bits .and .u8 (n8 a) (127 : Int) = n8 (a &&& 127) := and8_lit a 127 (by decide)
@[go_sem] theorem or8_128 (a : UInt8) : bits .or .u8 (n8 a) (128 : Int) = n8 (a ||| 128) := or8_lit a 128 (by decide)
@[go_sem] theorem xor8_29 (a : UInt8) : bits .xor .u8 (n8 a) (29 : Int) = n8 (a ^^^ 29) := xor8_lit a 29 (by decide)

/-- Numbers that fit 64 bits; lengths that an append bears. Structures: the walk does not see the numerals. -/
structure U64 (v : Nat) : Prop where
  lt : v < 18446744073709551616
structure Fits (n : Nat) : Prop where
  le : n ≤ 140737488355300
/-- 'byte(v)' of whatever number. -/
@[go_sem] theorem to8 (v : Nat) : Value.int .u8 ((v : Int) % 256) = .int .u8 (n8 (UInt8.ofNat v)) := by
  unfold n8; rw [UInt8.toNat_ofNat']; rfl

/-- Bytes as a row of cells. -/
def vs (l : List UInt8) : List Value := l.map fun b => .int .u8 (n8 b)
theorem vs_len (l : List UInt8) : (vs l).length = l.length := by simp [vs]
theorem vs_append (a b : List UInt8) : vs (a ++ b) = vs a ++ vs b := by simp [vs]
theorem vs_take (a : List UInt8) (k : Nat) : vs (a.take k) = (vs a).take k := by simp [vs, List.map_take]
theorem vs_drop (a : List UInt8) (k : Nat) : vs (a.drop k) = (vs a).drop k := by simp [vs, List.map_drop]
theorem vs_one (l : List UInt8) : ∀ u ∈ vs l, u.oneCell' = true := by
  intro u hu; obtain ⟨b, _, rfl⟩ := List.mem_map.1 hu; rfl
/-- The element at a place; the walk's simp leaves it as it stands. -/
def nth {α : Type} [Inhabited α] (l : List α) (k : Nat) : α := l.getD k default
theorem nth_eq {α : Type} [Inhabited α] (l : List α) {k : Nat} (h : k < l.length) : nth l k = l[k] := by simp [nth, List.getD_eq_getElem?_getD, h]
/-- A byte of a row. -/
theorem Row.byte {w : World} {a : Option Addr} {l : List UInt8} (h : Row w a (vs l)) {i : Nat} (hi : i < l.length) :
    ∃ b off, a = some ⟨b, off, none⟩ ∧ w.cell? ⟨b, off + i, none⟩ = some (.int .u8 (n8 (nth l i))) := by
  refine h i _ ?_
  simp [vs, nth_eq l hi, hi]
theorem take_snoc {α : Type} [Inhabited α] (l : List α) {i : Nat} (hi : i < l.length) : l.take (i + 1) = l.take i ++ [nth l i] := by
  rw [List.take_succ_eq_append_getElem hi, nth_eq l hi]

theorem nth_append_left {α : Type} [Inhabited α] (l r : List α) {i : Nat} (h : i < l.length) : nth (l ++ r) i = nth l i := by
  rw [nth_eq _ h, nth_eq _ (by simp; omega), List.getElem_append_left h]
theorem nth_take {α : Type} [Inhabited α] (l : List α) {i k : Nat} (h : i < k) (hl : i < l.length) : nth (l.take k) i = nth l i := by
  rw [nth_eq _ hl, nth_eq _ (by simp; omega), List.getElem_take]
theorem nth_drop {α : Type} [Inhabited α] (l : List α) {i k : Nat} (h : k + i < l.length) : nth (l.drop k) i = nth l (k + i) := by
  rw [nth_eq _ h, nth_eq _ (by simp; omega), List.getElem_drop]

/-- A slice of bytes that is read. -/
def Bs (w : World) (a : Option Addr) (n c : Nat) (l : List UInt8) : Prop := l.length = n ∧ n ≤ c ∧ c ≤ maxLen ∧ Row w a (vs l)
theorem Bs.below {w w' : World} {a : Option Addr} {n c : Nat} {l : List UInt8} (h : Bs w a n c l) (hb : Below w.heap.size w w') : Bs w' a n c l := ⟨h.1, h.2.1, h.2.2.1, h.2.2.2.below hb⟩
theorem Bs.nil (w : World) : Bs w none 0 0 [] := ⟨rfl, Nat.le_refl _, by simp [maxLen], Row.nil _ _⟩
theorem Bs.le {w : World} {a : Option Addr} {n c : Nat} {l : List UInt8} (h : Bs w a n c l) : n ≤ 9223372036854775807 ∧ c ≤ 9223372036854775807 := by
  have := h.2.1; have := h.2.2.1; simp only [maxLen] at *; omega
theorem Bs.byte {w : World} {a : Option Addr} {n c : Nat} {l : List UInt8} (h : Bs w a n c l) {i : Nat} (hi : i < n) :
    ∃ b off, a = some ⟨b, off, none⟩ ∧ w.cell? ⟨b, off + i, none⟩ = some (.int .u8 (n8 (nth l i))) := h.2.2.2.byte (by have := h.1; omega)
theorem Bs.drop {w : World} {a : Option Addr} {n c : Nat} {l : List UInt8} (h : Bs w a n c l) {k : Nat} (hk : k ≤ n) :
    Bs w (subA a c k) (n - k) (c - k) (l.drop k) := by
  refine ⟨by rw [List.length_drop, h.1], by have := h.2.1; omega, by have := h.2.2.1; omega, ?_⟩
  rw [vs_drop]
  exact h.2.2.2.dropIf k c (by rw [vs_len, h.1]; exact h.2.1)
theorem Bs.take {w : World} {a : Option Addr} {n c : Nat} {l : List UInt8} (h : Bs w a n c l) {k : Nat} (hk : k ≤ n) : Bs w a k c (l.take k) := by
  refine ⟨by rw [List.length_take, h.1]; omega, by have := h.2.1; omega, h.2.2.1, ?_⟩
  rw [vs_take]
  exact h.2.2.2.take k

theorem Bs.sub {w : World} {a : Option Addr} {n c : Nat} {l : List UInt8} (h : Bs w a n c l) {lo hi : Nat} (h1 : lo ≤ hi) (h2 : hi ≤ n) : Bs w (subA a c lo) (hi - lo) (c - lo) ((l.drop lo).take (hi - lo)) :=
  (h.drop (Nat.le_trans h1 h2)).take (by omega)

/-- A list of byte slices that is read. -/
def Bss (w : World) (a : Option Addr) (n c : Nat) (ls : List (List UInt8)) : Prop :=
  ls.length = n ∧ n ≤ c ∧ c ≤ maxLen ∧ ∀ i, i < n → ∃ b off ai ni ci, a = some ⟨b, off, none⟩ ∧ w.cell? ⟨b, off + i, none⟩ = some (.slice ai ni ci) ∧ Bs w ai ni ci (nth ls i)
theorem Bss.below {w w' : World} {a : Option Addr} {n c : Nat} {ls : List (List UInt8)} (h : Bss w a n c ls) (hb : Below w.heap.size w w') : Bss w' a n c ls :=
  ⟨h.1, h.2.1, h.2.2.1, fun i hi => by
    obtain ⟨b, off, ai, ni, ci, h1, h2, h3⟩ := h.2.2.2 i hi
    exact ⟨b, off, ai, ni, ci, h1, cell_later hb h2, h3.below hb⟩⟩
theorem Bss.le {w : World} {a : Option Addr} {n c : Nat} {ls : List (List UInt8)} (h : Bss w a n c ls) : n ≤ 9223372036854775807 ∧ c ≤ 9223372036854775807 := by
  have := h.2.1; have := h.2.2.1; simp only [maxLen] at *; omega
theorem Bss.get {w : World} {a : Option Addr} {n c : Nat} {ls : List (List UInt8)} (h : Bss w a n c ls) {i : Nat} (hi : i < n) :
    ∃ b off ai ni ci, a = some ⟨b, off, none⟩ ∧ w.cell? ⟨b, off + i, none⟩ = some (.slice ai ni ci) ∧ Bs w ai ni ci (nth ls i) := h.2.2.2 i hi
theorem Bss.nil (w : World) : Bss w none 0 0 [] := ⟨rfl, Nat.le_refl _, by simp [maxLen], fun i hi => by omega⟩
def tot (ls : List (List UInt8)) : Nat := ls.flatten.length
theorem tot_snoc (ls : List (List UInt8)) {i : Nat} (hi : i < ls.length) : tot (ls.take (i + 1)) = tot (ls.take i) + (nth ls i).length := by
  unfold tot; rw [take_snoc ls hi]; simp
theorem tot_le (ls : List (List UInt8)) (i : Nat) : tot (ls.take i) ≤ tot ls := by
  unfold tot
  conv => rhs; rw [← List.take_append_drop i ls]
  simp only [List.flatten_append, List.length_append]; omega
end Go.Proofs.Ytlipgaefflecaaa
end

section
namespace Go.Proofs.Ytlipgaefflecaaa
open Go.RowKit

/-- An entry: the key's bytes, the number, whether it is gone, the value's bytes. -/
structure Ent where
  key : List UInt8
  seq : Nat
  gone : Bool
  val : List UInt8
instance : Inhabited Ent := ⟨⟨[], 0, false, []⟩⟩
theorem Ent.ext' {a b : Ent} (h1 : a.key = b.key) (h2 : a.seq = b.seq) (h3 : a.gone = b.gone) (h4 : a.val = b.val) : a = b := by cases a; cases b; simp_all
instance : DecidableEq Ent := fun a b => decidable_of_iff (a.key = b.key ∧ a.seq = b.seq ∧ a.gone = b.gone ∧ a.val = b.val) ⟨fun h => Ent.ext' h.1 h.2.1 h.2.2.1 h.2.2.2, fun h => by subst h; exact ⟨rfl, rfl, rfl, rfl⟩⟩
namespace Ent
/-- Keys in order. -/
abbrev klt (a b : List UInt8) : Bool := Op.bytesLess a b
theorem klt_irrefl : ∀ a : List UInt8, klt a a = false
  | [] => rfl
  | a :: l => by simp [Op.bytesLess, klt_irrefl l]
theorem klt_cons (a b : UInt8) (x y : List UInt8) : klt (a :: x) (b :: y) = (decide (a < b) || (a == b && klt x y)) := rfl
theorem klt_trans : ∀ {a b c : List UInt8}, klt a b = true → klt b c = true → klt a c = true
  | [], b, [], _, h2 => by cases b <;> cases h2
  | [], _, _ :: _, _, _ => rfl
  | _ :: _, [], _, h1, _ => by cases h1
  | _ :: _, _ :: _, [], _, h2 => by cases h2
  | a :: x, b :: y, c :: z, h1, h2 => by
    rw [klt_cons] at h1 h2 ⊢
    simp only [Bool.or_eq_true, Bool.and_eq_true, decide_eq_true_eq, beq_iff_eq] at h1 h2 ⊢
    rcases h1 with h1 | ⟨e1, h1⟩ <;> rcases h2 with h2 | ⟨e2, h2⟩
    · exact .inl (UInt8.lt_trans h1 h2)
    · exact .inl (e2 ▸ h1)
    · exact .inl (e1 ▸ h2)
    · exact .inr ⟨e1.trans e2, klt_trans h1 h2⟩
theorem klt_total : ∀ (a b : List UInt8), klt a b = true ∨ a = b ∨ klt b a = true
  | [], [] => .inr (.inl rfl)
  | [], _ :: _ => .inl rfl
  | _ :: _, [] => .inr (.inr rfl)
  | a :: x, b :: y => by
    rw [klt_cons, klt_cons]
    simp only [Bool.or_eq_true, Bool.and_eq_true, decide_eq_true_eq, beq_iff_eq]
    by_cases h : a = b
    · subst h
      rcases klt_total x y with h | h | h
      · exact .inl (.inr ⟨rfl, h⟩)
      · exact .inr (.inl (by rw [h]))
      · exact .inr (.inr (.inr ⟨rfl, h⟩))
    · rcases UInt8.lt_or_lt_of_ne h with h | h
      · exact .inl (.inl h)
      · exact .inr (.inr (.inl h))
theorem klt_asymm {a b : List UInt8} (h : klt a b = true) : klt b a = false := by
  cases e : klt b a with
  | false => rfl
  | true => have := klt_trans h e; rw [klt_irrefl] at this; cases this
theorem klt_ne {a b : List UInt8} (h : klt a b = true) : a ≠ b := fun e => by rw [e, klt_irrefl] at h; cases h

/-- The order: by key, then the newest first. -/
def cmp (a b : Ent) : Int := if klt a.key b.key = true then -1 else if klt b.key a.key = true then 1 else if b.seq < a.seq then -1 else if a.seq < b.seq then 1 else 0
def lt (a b : Ent) : Prop := klt a.key b.key = true ∨ a.key = b.key ∧ b.seq < a.seq
def eqv (a b : Ent) : Prop := a.key = b.key ∧ a.seq = b.seq
theorem cmp_lt {a b : Ent} : cmp a b = -1 ↔ lt a b := by
  unfold cmp lt
  rcases klt_total a.key b.key with h | h | h
  · simp [h]
  · rw [h, klt_irrefl]
    simp only [Bool.false_eq_true, if_false, true_and, false_or]
    by_cases h1 : b.seq < a.seq
    · simp [h1]
    · by_cases h2 : a.seq < b.seq <;> simp [h1, h2]
  · have h1 := klt_asymm h
    have h2 := klt_ne h
    rw [h1, h]
    simp [Ne.symm h2]
theorem cmp_gt {a b : Ent} : cmp a b = 1 ↔ lt b a := by
  unfold cmp lt
  rcases klt_total a.key b.key with h | h | h
  · have h1 := klt_asymm h
    have h2 := klt_ne h
    rw [h, h1]
    simp [Ne.symm h2]
  · rw [h, klt_irrefl]
    simp only [Bool.false_eq_true, if_false, true_and, false_or]
    by_cases h1 : b.seq < a.seq
    · simp [h1]; omega
    · by_cases h2 : a.seq < b.seq <;> simp [h1, h2]
  · have h1 := klt_asymm h
    rw [h1, h]
    simp
theorem cmp_cases (a b : Ent) : cmp a b = -1 ∨ cmp a b = 0 ∨ cmp a b = 1 := by
  unfold cmp
  split
  · exact .inl rfl
  · split
    · exact .inr (.inr rfl)
    · split
      · exact .inl rfl
      · split
        · exact .inr (.inr rfl)
        · exact .inr (.inl rfl)
theorem cmp_eq {a b : Ent} : cmp a b = 0 ↔ eqv a b := by
  unfold cmp eqv
  rcases klt_total a.key b.key with h | h | h
  · simp [h, klt_ne h]
  · rw [h, klt_irrefl]
    simp only [Bool.false_eq_true, if_false, true_and]
    by_cases h1 : b.seq < a.seq
    · simp [h1]; omega
    · by_cases h2 : a.seq < b.seq
      · simp [h1, h2]; omega
      · simp [h1, h2]; omega
  · have h1 := klt_asymm h
    rw [h1, h]
    simp [Ne.symm (klt_ne h)]
theorem lt_trans {a b c : Ent} (h : lt a b) (k : lt b c) : lt a c := by
  rcases h with h | ⟨h1, h2⟩ <;> rcases k with k | ⟨k1, k2⟩
  · exact .inl (klt_trans h k)
  · exact .inl (k1 ▸ h)
  · exact .inl (h1 ▸ k)
  · exact .inr ⟨h1.trans k1, by omega⟩
theorem lt_irrefl (a : Ent) : ¬ lt a a := by
  rintro (h | ⟨_, h⟩)
  · rw [klt_irrefl] at h; cases h
  · omega
theorem eqv_lt {a b c : Ent} (h : eqv a b) (k : lt b c) : lt a c := by
  unfold lt eqv at *
  rw [h.1, h.2]; exact k
theorem lt_eqv {a b c : Ent} (h : lt a b) (k : eqv b c) : lt a c := by
  unfold lt eqv at *
  rw [← k.1, ← k.2]; exact h
theorem tri (a b : Ent) : lt a b ∨ eqv a b ∨ lt b a := by
  rcases cmp_cases a b with h | h | h
  · exact .inl (cmp_lt.1 h)
  · exact .inr (.inl (cmp_eq.1 h))
  · exact .inr (.inr (cmp_gt.1 h))
/-- An entry may be. -/
def fine (e : Ent) : Prop := ¬ (e.gone = true ∧ 0 < e.val.length)
/-- Lists that are right. -/
def Right (l : List Ent) : Prop := (∀ e ∈ l, fine e) ∧ l.Pairwise lt
end Ent
end Go.Proofs.Ytlipgaefflecaaa
end

section
namespace Go.Proofs.Ytlipgaefflecaaa
open Go.RowKit
namespace Ent

/-- The newest version of its key up to a number. -/
def newest (l : List Ent) (up : Nat) (e : Ent) : Prop := e.seq ≤ up ∧ ∀ x ∈ l, x.key = e.key → x.seq ≤ up → x.seq ≤ e.seq
instance (l : List Ent) (up : Nat) (e : Ent) : Decidable (newest l up e) := inferInstanceAs (Decidable (_ ∧ _))
def seenB (l : List Ent) (up : Nat) (e : Ent) : Bool := decide (newest l up e) && !e.gone
def seen (l : List Ent) (up : Nat) : List Ent := l.filter (seenB l up)
def pruneB (l : List Ent) (keep : Nat) (bottom : Bool) (e : Ent) : Bool := decide (keep < e.seq) || (decide (newest l keep e) && !(e.gone && bottom))
def prune (l : List Ent) (keep : Nat) (bottom : Bool) : List Ent := l.filter (pruneB l keep bottom)

/-- As the document goes: the key before, whether this key is done. -/
def seenGo (up : Nat) : List Ent → Option (List UInt8) → Bool → List Ent
  | [], _, _ => []
  | e :: l, p, d => if (d && decide (p = some e.key)) = true then seenGo up l (some e.key) true else if up < e.seq then seenGo up l (some e.key) false else (if e.gone = true then [] else [e]) ++ seenGo up l (some e.key) true
def pruneGo (keep : Nat) (bottom : Bool) : List Ent → Option (List UInt8) → Bool → List Ent
  | [], _, _ => []
  | e :: l, p, d => if keep < e.seq then e :: pruneGo keep bottom l (some e.key) (d && decide (p = some e.key)) else
      (if (d && decide (p = some e.key)) = false ∧ (e.gone && bottom) = false then [e] else []) ++ pruneGo keep bottom l (some e.key) true

theorem seenGo_cons (up : Nat) (e : Ent) (l : List Ent) (p : Option (List UInt8)) (d : Bool) : seenGo up (e :: l) p d = if (d && decide (p = some e.key)) = true then seenGo up l (some e.key) true else if up < e.seq then seenGo up l (some e.key) false else (if e.gone = true then [] else [e]) ++ seenGo up l (some e.key) true := rfl
theorem pruneGo_cons (keep : Nat) (bottom : Bool) (e : Ent) (l : List Ent) (p : Option (List UInt8)) (d : Bool) : pruneGo keep bottom (e :: l) p d = if keep < e.seq then e :: pruneGo keep bottom l (some e.key) (d && decide (p = some e.key)) else
      (if (d && decide (p = some e.key)) = false ∧ (e.gone && bottom) = false then [e] else []) ++ pruneGo keep bottom l (some e.key) true := rfl
theorem last_key {pre rest : List Ent} {e x : Ent} (h : (pre ++ e :: rest).Pairwise lt) (hx : x ∈ pre) (hk : x.key = e.key) : pre.getLast?.map key = some e.key := by
  rcases List.eq_nil_or_concat pre with h0 | ⟨q, y, h0⟩
  · rw [h0] at hx; cases hx
  · rw [List.concat_eq_append] at h0
    subst h0
    simp only [List.getLast?_append, List.getLast?_singleton, Option.some_or, Option.map_some, Option.some.injEq]
    rw [List.pairwise_append] at h
    have hye := h.2.2 y (by simp) e (by simp)
    rcases List.mem_append.1 hx with hx' | hx'
    · have hxy := (List.pairwise_append.1 h.1).2.2 x hx' y (by simp)
      rcases hye with hye | hye
      · rcases hxy with hxy | hxy
        · rw [hk] at hxy
          have := klt_asymm hye
          rw [hxy] at this; cases this
        · rw [← hxy.1, hk, klt_irrefl] at hye; cases hye
      · exact hye.1
    · simp at hx'
      rw [← hx', hk]

theorem newest_no {pre rest : List Ent} {e : Ent} {up : Nat} (h : (pre ++ e :: rest).Pairwise lt) (hx : ∃ x ∈ pre, x.key = e.key ∧ x.seq ≤ up) : ¬ newest (pre ++ e :: rest) up e := by
  obtain ⟨x, h1, h2, h3⟩ := hx
  intro hn
  have h4 := hn.2 x (by simp [h1]) h2 h3
  rw [List.pairwise_append] at h
  rcases h.2.2 x h1 e (by simp) with h5 | h5
  · rw [h2, klt_irrefl] at h5; cases h5
  · omega
theorem newest_yes {pre rest : List Ent} {e : Ent} {up : Nat} (h : (pre ++ e :: rest).Pairwise lt) (hx : ¬ ∃ x ∈ pre, x.key = e.key ∧ x.seq ≤ up) (hs : e.seq ≤ up) : newest (pre ++ e :: rest) up e := by
  refine ⟨hs, fun x h1 h2 h3 => ?_⟩
  rcases List.mem_append.1 h1 with h1 | h1
  · exact absurd ⟨x, h1, h2, h3⟩ hx
  · rcases List.mem_cons.1 h1 with h1 | h1
    · rw [h1]; exact Nat.le_refl _
    · rw [List.pairwise_append, List.pairwise_cons] at h
      rcases h.2.1.1 x h1 with h5 | h5
      · rw [h2, klt_irrefl] at h5; cases h5
      · omega
theorem done_iff {pre rest : List Ent} {e : Ent} {up : Nat} {p : Option (List UInt8)} {d : Bool} (h : (pre ++ e :: rest).Pairwise lt) (hp : p = pre.getLast?.map key) (hd : d = true ↔ ∃ x ∈ pre, p = some x.key ∧ x.seq ≤ up) :
    (d && decide (p = some e.key)) = true ↔ ∃ x ∈ pre, x.key = e.key ∧ x.seq ≤ up := by
  rw [Bool.and_eq_true, decide_eq_true_eq, hd]
  constructor
  · rintro ⟨⟨x, h1, h2, h3⟩, h4⟩
    rw [h2] at h4
    exact ⟨x, h1, by simpa using h4, h3⟩
  · rintro ⟨x, h1, h2, h3⟩
    have := last_key h h1 h2
    rw [hp, this]
    exact ⟨⟨x, h1, by rw [h2], h3⟩, rfl⟩
theorem seenGo_eq (up : Nat) : ∀ (rest pre : List Ent) (p : Option (List UInt8)) (d : Bool), (pre ++ rest).Pairwise lt → p = pre.getLast?.map key → (d = true ↔ ∃ x ∈ pre, p = some x.key ∧ x.seq ≤ up) →
    seenGo up rest p d = rest.filter (seenB (pre ++ rest) up)
  | [], _, _, _, _, _, _ => rfl
  | e :: rest, pre, p, d, h, hp, hd => by
    have ha : pre ++ e :: rest = (pre ++ [e]) ++ rest := by simp
    have hdn := done_iff h hp hd
    have hl : some e.key = (pre ++ [e]).getLast?.map key := by simp
    rw [seenGo_cons]
    by_cases h1 : (d && decide (p = some e.key)) = true
    · rw [if_pos h1]
      have hb : seenB (pre ++ e :: rest) up e = false := by
        unfold seenB; rw [decide_eq_false (newest_no h (hdn.1 h1))]; rfl
      rw [List.filter_cons_of_neg (by rw [hb]; simp), ha]
      refine seenGo_eq up rest (pre ++ [e]) _ _ (by rw [← ha]; exact h) hl ⟨fun _ => ?_, fun _ => rfl⟩
      obtain ⟨x, h2, h3, h4⟩ := hdn.1 h1
      exact ⟨x, by simp [h2], by rw [h3], h4⟩
    · rw [if_neg h1]
      by_cases h2 : up < e.seq
      · rw [if_pos h2]
        have hb : seenB (pre ++ e :: rest) up e = false := by
          unfold seenB; rw [decide_eq_false (fun hn => by have := hn.1; omega)]; rfl
        rw [List.filter_cons_of_neg (by rw [hb]; simp), ha]
        refine seenGo_eq up rest (pre ++ [e]) _ _ (by rw [← ha]; exact h) hl ⟨fun h => (by cases h), ?_⟩
        rintro ⟨x, h3, h4, h5⟩
        simp only [List.mem_append, List.mem_singleton] at h3
        rcases h3 with h3 | h3
        · exact absurd (hdn.2 ⟨x, h3, by simpa using h4.symm, h5⟩) h1
        · rw [h3] at h5; omega
      · rw [if_neg h2]
        have hn : newest (pre ++ e :: rest) up e := newest_yes h (fun hx => h1 (hdn.2 hx)) (by omega)
        have hr := seenGo_eq up rest (pre ++ [e]) (some e.key) true (by rw [← ha]; exact h) hl ⟨fun _ => ⟨e, by simp, rfl, by omega⟩, fun _ => rfl⟩
        rw [hr, ← ha]
        cases hg : e.gone with
        | true =>
          have hb : seenB (pre ++ e :: rest) up e = false := by unfold seenB; rw [hg, decide_eq_true hn]; rfl
          rw [List.filter_cons_of_neg (by rw [hb]; simp)]
          rfl
        | false =>
          have hb : seenB (pre ++ e :: rest) up e = true := by unfold seenB; rw [hg, decide_eq_true hn]; rfl
          rw [List.filter_cons_of_pos hb]
          simp
theorem seenGo_all {l : List Ent} (h : l.Pairwise lt) (up : Nat) : seenGo up l none false = seen l up :=
  seenGo_eq up l [] none false h rfl ⟨fun h => (by cases h), fun ⟨x, h, _⟩ => (by cases h)⟩
theorem pruneGo_eq (keep : Nat) (bottom : Bool) : ∀ (rest pre : List Ent) (p : Option (List UInt8)) (d : Bool), (pre ++ rest).Pairwise lt → p = pre.getLast?.map key → (d = true ↔ ∃ x ∈ pre, p = some x.key ∧ x.seq ≤ keep) →
    pruneGo keep bottom rest p d = rest.filter (pruneB (pre ++ rest) keep bottom)
  | [], _, _, _, _, _, _ => rfl
  | e :: rest, pre, p, d, h, hp, hd => by
    have ha : pre ++ e :: rest = (pre ++ [e]) ++ rest := by simp
    have hdn := done_iff h hp hd
    have hl : some e.key = (pre ++ [e]).getLast?.map key := by simp
    rw [pruneGo_cons]
    by_cases h2 : keep < e.seq
    · rw [if_pos h2]
      have hb : pruneB (pre ++ e :: rest) keep bottom e = true := by unfold pruneB; rw [decide_eq_true h2]; rfl
      rw [List.filter_cons_of_pos hb, ha]
      congr 1
      refine pruneGo_eq keep bottom rest (pre ++ [e]) _ _ (by rw [← ha]; exact h) hl ?_
      rw [hdn]
      constructor
      · rintro ⟨x, h3, h4, h5⟩
        exact ⟨x, by simp [h3], by rw [h4], h5⟩
      · rintro ⟨x, h3, h4, h5⟩
        simp only [List.mem_append, List.mem_singleton] at h3
        rcases h3 with h3 | h3
        · exact ⟨x, h3, by simpa using h4.symm, h5⟩
        · rw [h3] at h5; omega
    · rw [if_neg h2]
      have hr := pruneGo_eq keep bottom rest (pre ++ [e]) (some e.key) true (by rw [← ha]; exact h) hl ⟨fun _ => ⟨e, by simp, rfl, by omega⟩, fun _ => rfl⟩
      rw [hr, ← ha]
      by_cases h1 : (d && decide (p = some e.key)) = true
      · have hb : pruneB (pre ++ e :: rest) keep bottom e = false := by
          unfold pruneB; rw [decide_eq_false (newest_no h (hdn.1 h1)), decide_eq_false h2]; rfl
        rw [List.filter_cons_of_neg (by rw [hb]; simp), if_neg (by rw [h1]; simp)]
        rfl
      · have h1' : (d && decide (p = some e.key)) = false := by simpa using h1
        have hn : newest (pre ++ e :: rest) keep e := newest_yes h (fun hx => h1 (hdn.2 hx)) (by omega)
        have hb : pruneB (pre ++ e :: rest) keep bottom e = !(e.gone && bottom) := by
          unfold pruneB; rw [decide_eq_true hn, decide_eq_false h2]; simp
        cases hg : (e.gone && bottom) with
        | true =>
          rw [List.filter_cons_of_neg (by rw [hb, hg]; simp), if_neg (by simp)]
          rfl
        | false =>
          rw [List.filter_cons_of_pos (by rw [hb, hg]; rfl), if_pos ⟨h1', rfl⟩]
          simp
theorem pruneGo_all {l : List Ent} (h : l.Pairwise lt) (keep : Nat) (bottom : Bool) : pruneGo keep bottom l none false = prune l keep bottom :=
  pruneGo_eq keep bottom l [] none false h rfl ⟨fun h => (by cases h), fun ⟨x, h, _⟩ => (by cases h)⟩

/-! By groups. -/
def idx (up : Nat) (g : List Ent) : Nat := g.findIdx (fun e => decide (e.seq ≤ up))
def seenSeg (up : Nat) (g : List Ent) : List Ent := if idx up g < g.length ∧ (nth g (idx up g)).gone = false then [nth g (idx up g)] else []
def pruneSeg (keep : Nat) (bottom : Bool) (g : List Ent) : List Ent := if idx keep g < g.length ∧ ((nth g (idx keep g)).gone && bottom) = false then g.take (idx keep g + 1) else g.take (idx keep g)
theorem idx_cons (up : Nat) (e : Ent) (g : List Ent) : idx up (e :: g) = if e.seq ≤ up then 0 else idx up g + 1 := by
  unfold idx
  rw [List.findIdx_cons]
  by_cases h : e.seq ≤ up <;> simp [h]
theorem nth_zero (e : Ent) (g : List Ent) : nth (e :: g) 0 = e := rfl
theorem nth_cons (e : Ent) (g : List Ent) (i : Nat) : nth (e :: g) (i + 1) = nth g i := by simp [nth]
theorem seenGo_rest {k : List UInt8} {rest : List Ent} (hr : ∀ e r, rest = e :: r → e.key ≠ k) (up : Nat) : seenGo up rest (some k) true = seenGo up rest none false := by
  cases rest with
  | nil => rfl
  | cons e r =>
    have := hr e r rfl
    rw [seenGo_cons, seenGo_cons]
    simp [Ne.symm this]
theorem seenGo_false {rest : List Ent} (up : Nat) (p : Option (List UInt8)) : seenGo up rest p false = seenGo up rest none false := by
  cases rest with
  | nil => rfl
  | cons e r => rw [seenGo_cons, seenGo_cons]; simp
theorem seenGo_done {k : List UInt8} {rest : List Ent} (hr : ∀ e r, rest = e :: r → e.key ≠ k) (up : Nat) : ∀ g : List Ent, (∀ e ∈ g, e.key = k) → seenGo up (g ++ rest) (some k) true = seenGo up rest none false
  | [], _ => seenGo_rest hr up
  | e :: g, h => by
    have hk := h e (by simp)
    rw [List.cons_append, seenGo_cons]
    rw [if_pos (by rw [hk]; simp), hk]
    exact seenGo_done hr up g (fun x hx => h x (by simp [hx]))
theorem seenGo_seg {k : List UInt8} {rest : List Ent} (hr : ∀ e r, rest = e :: r → e.key ≠ k) (up : Nat) : ∀ (g : List Ent) (p : Option (List UInt8)), (∀ e ∈ g, e.key = k) → seenGo up (g ++ rest) p false = seenSeg up g ++ seenGo up rest none false
  | [], p, _ => by simp [seenSeg, seenGo_false]
  | e :: g, p, h => by
    have hk := h e (by simp)
    rw [List.cons_append, seenGo_cons]
    rw [if_neg (by simp)]
    by_cases h1 : e.seq ≤ up
    · rw [if_neg (by omega), hk, seenGo_done hr up g (fun x hx => h x (by simp [hx]))]
      unfold seenSeg
      rw [idx_cons, if_pos h1, nth_zero]
      cases hg : e.gone <;> simp
    · rw [if_pos (by omega), seenGo_seg hr up g _ (fun x hx => h x (by simp [hx]))]
      unfold seenSeg
      rw [idx_cons, if_neg h1, nth_cons]
      simp
theorem pruneGo_false {rest : List Ent} (keep : Nat) (bottom : Bool) (p : Option (List UInt8)) : pruneGo keep bottom rest p false = pruneGo keep bottom rest none false := by
  cases rest with
  | nil => rfl
  | cons e r => rw [pruneGo_cons, pruneGo_cons]; simp
theorem pruneGo_rest {k : List UInt8} {rest : List Ent} (hr : ∀ e r, rest = e :: r → e.key ≠ k) (keep : Nat) (bottom : Bool) : pruneGo keep bottom rest (some k) true = pruneGo keep bottom rest none false := by
  cases rest with
  | nil => rfl
  | cons e r =>
    have := hr e r rfl
    rw [pruneGo_cons, pruneGo_cons]
    simp [Ne.symm this]
theorem pruneGo_done {k : List UInt8} {rest : List Ent} (hr : ∀ e r, rest = e :: r → e.key ≠ k) (keep : Nat) (bottom : Bool) : ∀ g : List Ent, (∀ e ∈ g, e.key = k ∧ e.seq ≤ keep) → pruneGo keep bottom (g ++ rest) (some k) true = pruneGo keep bottom rest none false
  | [], _ => pruneGo_rest hr keep bottom
  | e :: g, h => by
    have hk := h e (by simp)
    rw [List.cons_append, pruneGo_cons]
    rw [if_neg (by omega), if_neg (by rw [hk.1]; simp), hk.1]
    exact pruneGo_done hr keep bottom g (fun x hx => h x (by simp [hx]))
theorem pruneGo_seg {k : List UInt8} {rest : List Ent} (hr : ∀ e r, rest = e :: r → e.key ≠ k) (keep : Nat) (bottom : Bool) : ∀ (g : List Ent) (p : Option (List UInt8)), (∀ e ∈ g, e.key = k) → g.Pairwise lt →
    pruneGo keep bottom (g ++ rest) p false = pruneSeg keep bottom g ++ pruneGo keep bottom rest none false
  | [], p, _, _ => by simp [pruneSeg, idx, pruneGo_false]
  | e :: g, p, h, hp => by
    have hk := h e (by simp)
    rw [List.pairwise_cons] at hp
    rw [List.cons_append, pruneGo_cons]
    by_cases h1 : e.seq ≤ keep
    · rw [if_neg (by omega), hk, pruneGo_done hr keep bottom g (fun x hx => ⟨h x (by simp [hx]), by
        rcases hp.1 x hx with h2 | h2
        · rw [hk, h x (by simp [hx]), klt_irrefl] at h2; cases h2
        · omega⟩)]
      unfold pruneSeg
      rw [idx_cons, if_pos h1, nth_zero]
      cases hg : (e.gone && bottom) <;> simp
    · rw [if_pos (by omega), Bool.false_and, pruneGo_seg hr keep bottom g _ (fun x hx => h x (by simp [hx])) hp.2]
      unfold pruneSeg
      rw [idx_cons, if_neg h1, nth_cons]
      by_cases h2 : idx keep g < g.length ∧ ((nth g (idx keep g)).gone && bottom) = false
      · rw [if_pos h2, if_pos ⟨by simp only [List.length_cons]; omega, h2.2⟩]; rfl
      · rw [if_neg h2, if_neg (fun h3 => h2 ⟨by simp only [List.length_cons] at h3; omega, h3.2⟩)]; rfl
/-- The entries of a stretch. -/
def seg (l : List Ent) (p : Nat × Nat) : List Ent := (l.take p.2).drop p.1
/-- Groups, one behind the other, from a place to a place. -/
def Segs (l : List Ent) : Nat → List (Nat × Nat) → Nat → Prop
  | a, [], b => a = b
  | a, p :: xs, b => p.1 = a ∧ p.1 < p.2 ∧ p.2 ≤ l.length ∧ (∀ i, p.1 ≤ i → i < p.2 → (nth l i).key = (nth l p.1).key) ∧ (p.2 < l.length → (nth l p.2).key ≠ (nth l p.1).key) ∧ Segs l p.2 xs b
theorem Segs.snoc {l : List Ent} {t : Nat} : ∀ {xs : List (Nat × Nat)} {a b : Nat}, Segs l a xs b → b < t → t ≤ l.length → (∀ i, b ≤ i → i < t → (nth l i).key = (nth l b).key) → (t < l.length → (nth l t).key ≠ (nth l b).key) → Segs l a (xs ++ [(b, t)]) t
  | [], a, b, h, h1, h2, h3, h4 => by
    have : a = b := h
    subst this
    exact ⟨rfl, h1, h2, h3, h4, rfl⟩
  | p :: xs, a, b, h, h1, h2, h3, h4 => ⟨h.1, h.2.1, h.2.2.1, h.2.2.2.1, h.2.2.2.2.1, Segs.snoc h.2.2.2.2.2 h1 h2 h3 h4⟩
theorem seg_split {l : List Ent} {f t : Nat} (h : f ≤ t) : l.drop f = seg l (f, t) ++ l.drop t := by
  unfold seg
  conv => lhs; rw [← List.take_append_drop t l]
  by_cases h2 : t ≤ l.length
  · rw [List.drop_append_of_le_length (by rw [List.length_take]; omega)]
  · rw [List.take_of_length_le (by omega), List.drop_eq_nil_of_le (by omega : l.length ≤ t)]; simp
theorem seg_nth {l : List Ent} {f t : Nat} {e : Ent} (he : e ∈ seg l (f, t)) (ht : t ≤ l.length) : ∃ i, f ≤ i ∧ i < t ∧ e = nth l i := by
  unfold seg at he
  obtain ⟨i, hi, rfl⟩ := List.getElem_of_mem he
  simp only [List.length_drop, List.length_take] at hi
  refine ⟨f + i, by omega, by omega, ?_⟩
  rw [nth_eq _ (by omega)]
  simp
theorem segs_rest {l : List Ent} {f t : Nat} (ht : t ≤ l.length) (h : t < l.length → (nth l t).key ≠ (nth l f).key) : ∀ e r, l.drop t = e :: r → e.key ≠ (nth l f).key := by
  intro e r hr
  have hlt : t < l.length := by
    rcases Nat.lt_or_ge t l.length with h' | h'
    · exact h'
    · rw [List.drop_eq_nil_of_le h'] at hr; cases hr
  rw [List.drop_eq_getElem_cons hlt] at hr
  cases hr
  rw [← nth_eq]
  exact h hlt
theorem segs_seen {l : List Ent} (up : Nat) : ∀ {xs : List (Nat × Nat)} {a : Nat}, Segs l a xs l.length → seenGo up (l.drop a) none false = xs.flatMap (fun p => seenSeg up (seg l p))
  | [], a, h => by
    have : a = l.length := h
    rw [List.drop_eq_nil_of_le (by omega)]; rfl
  | p :: xs, a, ⟨h1, h2, h3, h4, h5, h6⟩ => by
    subst h1
    rw [seg_split (Nat.le_of_lt h2), seenGo_seg (segs_rest h3 h5) up (seg l (p.1, p.2)) none (fun e he => by obtain ⟨i, g1, g2, rfl⟩ := seg_nth he h3; exact h4 i g1 g2), segs_seen up h6]
    rfl
theorem segs_prune {l : List Ent} (hl : l.Pairwise lt) (keep : Nat) (bottom : Bool) : ∀ {xs : List (Nat × Nat)} {a : Nat}, Segs l a xs l.length → pruneGo keep bottom (l.drop a) none false = xs.flatMap (fun p => pruneSeg keep bottom (seg l p))
  | [], a, h => by
    have : a = l.length := h
    rw [List.drop_eq_nil_of_le (by omega)]; rfl
  | p :: xs, a, ⟨h1, h2, h3, h4, h5, h6⟩ => by
    subst h1
    rw [seg_split (Nat.le_of_lt h2), pruneGo_seg (segs_rest h3 h5) keep bottom (seg l (p.1, p.2)) none (fun e he => by obtain ⟨i, g1, g2, rfl⟩ := seg_nth he h3; exact h4 i g1 g2) ((hl.sublist (List.take_sublist _ _)).sublist (List.drop_sublist _ _)), segs_prune hl keep bottom h6]
    rfl
end Ent
end Go.Proofs.Ytlipgaefflecaaa
end

section
set_option linter.unusedVariables false
set_option linter.unusedSimpArgs false
namespace Go.Proofs.Ytlipgaefflecaaa
open Go.RowKit

theorem info8 : (Try.prog.info? 5).map (fun i => (i.zero, i.size, i.bytes)) = some (some (.int .u8 0), 1, 1) := by kernel_rfl
/-- A slice of bytes in memory of the call's own (from block B on). -/
def Own (w : World) (B : Nat) (a : Option Addr) (n c : Nat) (l : List UInt8) : Prop := w.ownsRow B 5 1 (.slice a n c) n (vs l)
/-- A slice of bytes to which append writes nothing that was there. -/
def AppB (w : World) (B : Nat) (a : Option Addr) (n c : Nat) (l : List UInt8) : Prop := App w B 5 1 (.slice a n c) n (vs l)

theorem Own.bs {w : World} {B n c : Nat} {a : Option Addr} {l : List UInt8} (h : Own w B a n c l) : Bs w a n c l := by
  have h1 := h.1
  have h2 := own_cap h
  exact ⟨by simpa [vs_len] using h1, h2.2.1, h2.2.2, Row.of_own h⟩
theorem Own.app {w : World} {B n c : Nat} {a : Option Addr} {l : List UInt8} (h : Own w B a n c l) : AppB w B a n c l := .inl h
theorem Own.mono {w : World} {B B' n c : Nat} {a : Option Addr} {l : List UInt8} (h : Own w B a n c l) (hB : B' ≤ B) : Own w B' a n c l := own_mono h hB
theorem Own.below {w w' : World} {B n c : Nat} {a : Option Addr} {l : List UInt8} (h : Own w B a n c l) (hb : Below w.heap.size w w') : Own w' B a n c l := own_below h hb
theorem Own.alloc {w : World} {B n c : Nat} {a : Option Addr} {l : List UInt8} (h : Own w B a n c l) (o : Obj) : Own (w.alloc o) B a n c l := World.ownsRow.alloc h o
theorem Own.nil (w : World) (B : Nat) : Own w B none 0 0 [] := World.ownsRow_nil w B _ _
theorem AppB.bs {w : World} {B n c : Nat} {a : Option Addr} {l : List UInt8} (h : AppB w B a n c l) : Bs w a n c l := by
  rcases h with h | ⟨a', h1, h2, h3, h4⟩
  · exact Own.bs h
  · cases h1; exact ⟨by simpa [vs_len] using h3, Nat.le_refl _, h4, h2⟩
theorem AppB.full {w : World} {B n : Nat} {a : Option Addr} {l : List UInt8} (h : Bs w a n n l) : AppB w B a n n l := .inr ⟨a, rfl, h.2.2.2, by rw [vs_len, h.1]; simp, h.2.2.1⟩
theorem AppB.below {w w' : World} {B n c : Nat} {a : Option Addr} {l : List UInt8} (h : AppB w B a n c l) (hb : Below w.heap.size w w') : AppB w' B a n c l := App.below h hb
theorem AppB.alloc {w : World} {B n c : Nat} {a : Option Addr} {l : List UInt8} (h : AppB w B a n c l) (o : Obj) : AppB (w.alloc o) B a n c l :=
  h.below ((Below.refl _ _).alloc (Nat.le_refl _) o)
/-- A slice that is written out in a statement. -/
theorem Bs.lit (w : World) (l : List UInt8) (hl : l.length ≤ maxLen) : Bs (w.alloc (.cells (vs l).toArray 5)) (some ⟨w.heap.size, 0, none⟩) l.length l.length l :=
  ⟨rfl, Nat.le_refl _, hl, by simpa using Row.new w (vs l).toArray 5⟩
theorem Own.lit (w : World) (B : Nat) (l : List UInt8) (hB : B ≤ w.heap.size) (hl : l.length ≤ maxLen) : Own (w.alloc (.cells (vs l).toArray 5)) B (some ⟨w.heap.size, 0, none⟩) l.length l.length l := by
  refine ⟨by rw [vs_len]; simp, .inr ⟨w.heap.size, l.length, _, rfl, hB, heap_alloc_new w _, Nat.le_refl _, hl, by simp [vs_len], ?_⟩⟩
  simp only [Nat.mul_one]
  rw [List.take_of_length_le (by simp [vs_len])]
theorem Bs.litAt {w : World} {k : Nat} (l : List UInt8) (fr : Nat × Nat) (hk : k = w.heap.size) (hl : l.length ≤ maxLen) : Bs (w.alloc (.cells (vs l).toArray 5 fr)) (some ⟨k, 0, none⟩) l.length l.length l := by
  subst hk
  refine ⟨rfl, Nat.le_refl _, hl, ?_⟩
  intro j v hv
  refine ⟨w.heap.size, 0, rfl, ?_⟩
  rw [cell_of_row _ _ _ (vs l).toArray 5 fr (heap_alloc_new w _)]
  simpa using hv
theorem Bs.one (w : World) (b : UInt8) : Bs (w.alloc (.cells #[.int .u8 (n8 b)] 5)) (some ⟨w.heap.size, 0, none⟩) 1 1 [b] := Bs.lit w [b] (by simp [maxLen])
theorem Bs.oneN (w : World) (v : Nat) (h : v < 256) : Bs (w.alloc (.cells #[.int .u8 (v : Int)] 5)) (some ⟨w.heap.size, 0, none⟩) 1 1 [UInt8.ofNat v] := by
  have e : (v : Int) = n8 (UInt8.ofNat v) := by unfold n8; rw [UInt8.toNat_ofNat']; omega
  rw [e]; exact Bs.one w _

theorem slice_lh (a : Option Addr) (n c : Nat) {lo hi : Int} {lo' hi' : Nat} (hlo : lo = lo') (hhi : hi = hi') (h1 : lo' ≤ hi') (h2 : hi' ≤ c) (w : World) :
    (Instr.slice 55 (.slice a n c) (some (.int .i64 lo)) (some (.int .i64 hi)) none).run Try.prog w = .ok (.slice (subA a c lo') (hi' - lo') (c - lo')) w := by
  obtain ⟨i, hi0, _, g1, _⟩ := info_parts info8
  rw [run_slice_lh Try.underlying55 hi0 g1 a n c hlo hhi h1 h2, subAn_one]
theorem slice_l (a : Option Addr) (n c : Nat) {lo : Int} {lo' : Nat} (hlo : lo = lo') (h1 : lo' ≤ n) (w : World) :
    (Instr.slice 55 (.slice a n c) (some (.int .i64 lo)) none none).run Try.prog w = .ok (.slice (subA a c lo') (n - lo') (c - lo')) w := by
  obtain ⟨i, hi0, _, g1, _⟩ := info_parts info8
  rw [run_slice_l Try.underlying55 hi0 g1 a n c hlo h1, subAn_one]
theorem slice_h (a : Option Addr) (n c : Nat) {hi : Int} {hi' : Nat} (hhi : hi = hi') (h2 : hi' ≤ c) (w : World) :
    (Instr.slice 55 (.slice a n c) none (some (.int .i64 hi)) none).run Try.prog w = .ok (.slice a hi' c) w := by
  obtain ⟨i, hi0, _, g1, _⟩ := info_parts info8
  exact run_slice_h Try.underlying55 hi0 g1 a n c hhi h2 w

section
variable {w : World} {ops : Array Oper} {rest : List Oper} {o : Oper} {a : Act} {Q : Exit → Act → World → Prop}
/-- append to a row of the call's own. -/
theorem app_own (hgd : Region.wanted o (yielded ops a.tmps) = true) (s x : Operand) (ho : o.op = .call { callee := .builtin .append, args := #[s, x], argTypes := #[55, 55] })
    (B : Nat) {aq : Option Addr} {n c : Nat} {l : List UInt8} (hs : a.eval s = .slice aq n c) (hown : Own w B aq n c l)
    {ax : Option Addr} {m cx : Nat} {p : List UInt8} (hx : a.eval x = .slice ax m cx) (hr : Bs w ax m cx p) (hb : n + m ≤ 140737488355328) (hB : B ≤ w.heap.size)
    (h : ∀ a' c' w', Own w' B a' (n + m) c' (l ++ p) → Below B w w' → Evol w aq w' a' → wpList Try.prog ops Q rest (a.put o.dst (.slice a' (n + m) c')) w') : wpList Try.prog ops Q (o :: rest) a w := by
  obtain ⟨i, hi, h0, h1, h2⟩ := info_parts info8
  refine wpList_app_own hgd s x 55 ho B 5 i (.int .u8 0) 1 1 Try.underlying55 hi h0 h1 h2 rfl (by decide) aq n c (vs l) hs hown ax m cx (vs p) hx hr.2.2.2 (by rw [vs_len, hr.1]; simp) (vs_one p) (by omega) (by simp only [maxLen]; omega) hB ?_
  intro a' c' w' g1 g2
  rw [← vs_append] at g1
  exact h a' c' w' g1 (g2.below hB (fun x hx => by subst hx; exact (World.ownsRow.lt hown x.block rfl).1)) g2
/-- append to a row of the call's own or to a full slice. -/
theorem app_any (hgd : Region.wanted o (yielded ops a.tmps) = true) (s x : Operand) (ho : o.op = .call { callee := .builtin .append, args := #[s, x], argTypes := #[55, 55] })
    (B : Nat) {aq : Option Addr} {n c : Nat} {l : List UInt8} (hs : a.eval s = .slice aq n c) (hown : AppB w B aq n c l)
    {ax : Option Addr} {m cx : Nat} {p : List UInt8} (hx : a.eval x = .slice ax m cx) (hr : Bs w ax m cx p) (hb : n + m ≤ 140737488355328) (hB : B ≤ w.heap.size)
    (h : ∀ a' c' w', AppB w' B a' (n + m) c' (l ++ p) → (0 < m → Own w' B a' (n + m) c' (l ++ p)) → Below B w w' → Evol w aq w' a' → wpList Try.prog ops Q rest (a.put o.dst (.slice a' (n + m) c')) w') : wpList Try.prog ops Q (o :: rest) a w := by
  obtain ⟨i, hi, h0, h1, h2⟩ := info_parts info8
  refine wpList_app hgd s x 55 ho B 5 i (.int .u8 0) 1 1 Try.underlying55 hi h0 h1 h2 rfl (by decide) aq n c (vs l) hs hown ax m cx (vs p) hx hr.2.2.2 (by rw [vs_len, hr.1]; simp) (vs_one p) (by omega) (by simp only [maxLen]; omega) hB ?_
  intro a' c' w' g1 g2 g3 g4
  rw [← vs_append] at g1 g2
  exact h a' c' w' g1 g2 g3 g4
end

/-- The variadic slice of one part. -/
theorem Bss.one {w : World} {a : Option Addr} {n c : Nat} {l : List UInt8} (h : Bs w a n c l) : Bss (w.alloc (.cells #[.slice a n c] 55)) (some ⟨w.heap.size, 0, none⟩) 1 1 [l] := by
  refine ⟨rfl, Nat.le_refl _, by simp [maxLen], fun i hi => ?_⟩
  obtain rfl : i = 0 := by omega
  exact ⟨w.heap.size, 0, a, n, c, rfl, by rw [cell_of_row _ _ _ _ _ _ (heap_alloc_new w _)]; rfl, h.below ((Below.refl _ _).alloc (Nat.le_refl _) _)⟩

theorem Bss.oneAt {w : World} {k : Nat} {a : Option Addr} {n c : Nat} {l : List UInt8} (hk : k = w.heap.size) (h : Bs w a n c l) : Bss (w.alloc (.cells #[.slice a n c] 55)) (some ⟨k, 0, none⟩) 1 1 [l] := by
  subst hk; exact Bss.one h

/-- What a function that hands back a new slice of bytes says: its bytes, in memory of the call's own; what was there is as it was. -/
def RetB (w : World) (B : Nat) (l : List UInt8) (e : Ending) (w' : World) : Prop := ∃ a n c, e = .returned (.slice a n c) ∧ Own w' B a n c l ∧ Below B w w'

/-- The same of a function that appends to a slice that is handed in at 'a0'. -/
def RetE (w : World) (B : Nat) (a0 : Option Addr) (l : List UInt8) (e : Ending) (w' : World) : Prop := ∃ a n c, e = .returned (.slice a n c) ∧ Own w' B a n c l ∧ Below B w w' ∧ Evol w a0 w' a
theorem RetE.retB {w w' : World} {B : Nat} {a0 : Option Addr} {l : List UInt8} {e : Ending} (h : RetE w B a0 l e w') : RetB w B l e w' := by
  obtain ⟨a, n, c, h1, h2, h3, _⟩ := h
  exact ⟨a, n, c, h1, h2, h3⟩
theorem Bs.evol {w w' : World} {a a' ax : Option Addr} {n c : Nat} {l : List UInt8} (h : Bs w ax n c l) (k : Evol w a w' a') (hne : 0 < n → ∀ y x, ax = some y → a = some x → y.block ≠ x.block) : Bs w' ax n c l :=
  ⟨h.1, h.2.1, h.2.2.1, h.2.2.2.evol k (by rw [vs_len, h.1]; exact hne)⟩
theorem Bs.old {w : World} {a : Option Addr} {n c : Nat} {l : List UInt8} (h : Bs w a n c l) (hn : 0 < n) : ∀ y, a = some y → y.block < w.heap.size := by
  intro y hy
  obtain ⟨b, off, h1, h2⟩ := h.byte hn
  rw [hy] at h1
  cases h1
  exact World.block_lt_of_cell? _ _ h2
theorem Own.new {w : World} {B : Nat} {a : Option Addr} {n c : Nat} {l : List UInt8} (h : Own w B a n c l) : ∀ z, a = some z → B ≤ z.block ∧ z.block < w.heap.size := by
  intro z hz
  subst hz
  exact World.ownsRow.lt h z.block rfl

/-- Bytes as a string. -/
def bstr (l : List UInt8) : ByteArray := ⟨l.toArray⟩
theorem bstr_inj {l m : List UInt8} (h : bstr l = bstr m) : l = m := by
  have := congrArg (fun b => b.data.toList) h
  simpa [bstr] using this
theorem bstr_toList (l : List UInt8) : (bstr l).toList = l := by rw [ByteArray.toList_eq]; simp [bstr]
@[go_sem] theorem bstr_beq (l m : List UInt8) : ((bstr l).toList == (bstr m).toList) = decide (l = m) := by
  rw [bstr_toList, bstr_toList, Bool.eq_iff_iff]; simp
theorem conv_bytes {w : World} {a : Option Addr} {n c : Nat} {l : List UInt8} (h : Bs w a n c l) : (convert 55 9 (.slice a n c)).run Try.prog w = .ok (.string (bstr l)) w := by
  cases l with
  | nil =>
    have hn : n = 0 := by have := h.1; simpa using this.symm
    subst hn
    cases a with
    | none => exact run_convert_bytes_nil w 55 5 Try.underlying55 Try.underlying5 0 c 9 Try.underlying9
    | some ad =>
      rw [run_convert_bytes_string w 55 9 5 _ 0 c Try.underlying55 Try.underlying5 Try.underlying9, run_bytesToString w ad 0 c [] (by simp [loadCells, loadCellsFrom])]
      rfl
  | cons b l =>
    obtain ⟨bl, off, rfl, _⟩ := h.2.2.2 0 (.int .u8 (n8 b)) rfl
    rw [run_convert_bytes_arg w 55 5 Try.underlying55 Try.underlying5 bl off n c ((b :: l).map n8) (by rw [List.length_map]; exact h.1) (fun i hi => by
      obtain ⟨b', off', h1, h2⟩ := h.byte hi
      cases h1
      rw [h2]
      have hl : i < (b :: l).length := by rw [h.1]; exact hi
      rw [nth_eq _ hl, List.getD_eq_getElem?_getD, List.getElem?_map, List.getElem?_eq_getElem hl]
      rfl) 9 Try.underlying9]
    have e : strOfNums ((b :: l).map n8) = bstr (b :: l) := by
      unfold strOfNums bstr
      rw [List.map_map]
      congr 2
      conv => rhs; rw [← List.map_id (b :: l)]
      apply List.map_congr_left
      intro x _
      simp [n8]
    rw [e]
end Go.Proofs.Ytlipgaefflecaaa
end

section
set_option linter.unusedVariables false
set_option linter.unusedSimpArgs false
namespace Go.Proofs.Ytlipgaefflecaaa
open Go.RowKit

/-- Worlds in which all that there was is as it was. -/
structure BW (w0 : World) where
  w : World
  b : Below w0.heap.size w0 w
instance (w0 : World) : Nonempty (BW w0) := ⟨⟨w0, Below.refl _ _⟩⟩
instance (w0 : World) : Inhabited (BW w0) := ⟨⟨w0, Below.refl _ _⟩⟩
theorem BW.cell {w0 : World} {a : Addr} {v : Value} (h : w0.cell? a = some v) (W : BW w0) : W.w.cell? a = some v := cell_later W.b h
theorem BW.of {w0 w' : World} (h : ∃ W : BW w0, w' = W.w) : Below w0.heap.size w0 w' := by obtain ⟨W, rfl⟩ := h; exact W.b
section
variable {P : Program}
theorem wp_region_class {w0 w : World} {id : Nat} {Q : Exit → Act → World → Prop} {a : Act} {l : List Oper} (hm : P.follows .mixedOrders = true) (hB : Region.lexB .any l.toArray = true) (h0 : Below w0.heap.size w0 w)
    (h : wpQuiet P l.toArray (fun w' => ∃ W : BW w0, w' = W.w) (fun a' => ∀ w', (∃ W : BW w0, w' = W.w) → Q .normal a' w') l a) : (Code.region id l.toArray true).wp P Q a w :=
  wp_region_quiet (C := fun w' => ∃ W : BW w0, w' = W.w) hm hB ⟨⟨w.drew, h0.drew⟩, rfl⟩ (by simpa using h)
theorem calls_class {w0 : World} {f : FuncId} {args : Array Value} {W : BW w0} {v : Value} (h : Calls P f args W.w fun e w' => e = .returned v ∧ Below W.w.heap.size W.w w') :
    Calls P f args W.w fun e w'' => e = .returned v ∧ ∃ W' : BW w0, w'' = W'.w :=
  h.mono fun _ w' ⟨he, hb⟩ => ⟨he, ⟨w', W.b.trans (hb.mono W.b.size)⟩, rfl⟩
theorem calls_class_q {w0 : World} {f : FuncId} {args : Array Value} {W : BW w0} {v : Value} (h : Calls P f args W.w fun e w' => e = .returned v ∧ ∃ q, w' = W.w.drewN q) :
    Calls P f args W.w fun e w'' => e = .returned v ∧ ∃ W' : BW w0, w'' = W'.w :=
  calls_class (h.mono fun _ _ ⟨he, q, hq⟩ => ⟨he, hq ▸ below_drewN (Below.refl _ _) q⟩)
theorem calls_class_s {w0 : World} {f : FuncId} {args : Array Value} {W : BW w0} {v : Value} (h : Calls P f args W.w fun e w' => e = .returned v ∧ W.w = w') :
    Calls P f args W.w fun e w'' => e = .returned v ∧ ∃ W' : BW w0, w'' = W'.w :=
  calls_class (h.mono fun _ _ ⟨he, hq⟩ => ⟨he, hq ▸ Below.refl _ _⟩)
/-- A piece of code whose ways all end alike. -/
theorem code_one {c : Code} {Q : Exit → Act → World → Prop} {a w} (A : Act) (W : World) (h : c.wp P (fun e a w => e = .normal ∧ a = A ∧ w = W) a w) (k : Q .normal A W) : c.wp P Q a w :=
  Code.wp_mono (fun e a w ⟨h1, h2, h3⟩ => by subst h1; subst h2; subst h3; exact k) h
end
end Go.Proofs.Ytlipgaefflecaaa
end

section
namespace Go.Proofs.Ytlipgaefflecaaa
open Go.RowKit

/-- An entry as a value; its bytes lie at 'a'. -/
def ev (e : Ent) (a : Option Addr) (c : Nat) : Value := .agg #[.string (bstr e.key), .int .u64 e.seq, .bool e.gone, .slice a e.val.length c]
theorem bstr_ex (s : ByteArray) : ∃ l, s = bstr l := ⟨s.data.toList, by cases s; rfl⟩
theorem bstr_list (l : List UInt8) : (bstr l).toList = l := by simp [bstr]

/-- The five ways of two entries. -/
inductive Ways (x y : Ent) : Prop
  | less (h1 : Op.bytesLess (bstr x.key).toList (bstr y.key).toList = true) (e : Ent.cmp x y = -1)
  | more (h1 : Op.bytesLess (bstr x.key).toList (bstr y.key).toList = false) (h2 : decide (x.key = y.key) = false) (h3 : ((bstr x.key).toList == (bstr y.key).toList) = false) (e : Ent.cmp x y = 1)
  | newer (h1 : Op.bytesLess (bstr x.key).toList (bstr y.key).toList = false) (h2 : decide (x.key = y.key) = true) (h3 : ((bstr x.key).toList == (bstr y.key).toList) = true) (h4 : y.seq < x.seq) (e : Ent.cmp x y = -1)
  | elder (h1 : Op.bytesLess (bstr x.key).toList (bstr y.key).toList = false) (h2 : decide (x.key = y.key) = true) (h3 : ((bstr x.key).toList == (bstr y.key).toList) = true) (h4 : x.seq < y.seq) (e : Ent.cmp x y = 1)
  | same (h1 : Op.bytesLess (bstr x.key).toList (bstr y.key).toList = false) (h2 : decide (x.key = y.key) = true) (h3 : ((bstr x.key).toList == (bstr y.key).toList) = true) (h4 : x.seq = y.seq) (e : Ent.cmp x y = 0)
theorem ways (x y : Ent) : Ways x y := by
  have hk : ∀ {a b : List UInt8}, ((bstr a).toList == (bstr b).toList) = decide (a = b) := fun {a b} => by rw [bstr_beq]
  rcases Ent.klt_total x.key y.key with h | h | h
  · exact .less (by rw [bstr_list, bstr_list]; exact h) (Ent.cmp_lt.2 (.inl h))
  · have h1 : Op.bytesLess (bstr x.key).toList (bstr y.key).toList = false := by rw [bstr_list, bstr_list, h]; exact Ent.klt_irrefl _
    have h2 : decide (x.key = y.key) = true := decide_eq_true h
    have h3 : ((bstr x.key).toList == (bstr y.key).toList) = true := by rw [hk]; exact h2
    rcases Nat.lt_trichotomy x.seq y.seq with hs | hs | hs
    · exact .elder h1 h2 h3 hs (Ent.cmp_gt.2 (.inr ⟨h.symm, hs⟩))
    · exact .same h1 h2 h3 hs (Ent.cmp_eq.2 ⟨h, hs⟩)
    · exact .newer h1 h2 h3 hs (Ent.cmp_lt.2 (.inr ⟨h, hs⟩))
  · have h2 : decide (x.key = y.key) = false := decide_eq_false (Ne.symm (Ent.klt_ne h))
    exact .more (by rw [bstr_list, bstr_list]; exact Ent.klt_asymm h) h2 (by rw [hk]; exact h2) (Ent.cmp_gt.2 (.inl h))
theorem two_boxes (w : World) (o p : Obj) : Below w.heap.size w ((w.alloc o).alloc p) := ((Below.refl _ _).alloc (Nat.le_refl _) _).alloc (le_alloc (Nat.le_refl _)) _
set_option maxHeartbeats 1000000 in
theorem refcmp_any (x y : Ent) (ax ay : Option Addr) (cx cy : Nat) (w : World) :
    Calls Try.prog 14 #[ev x ax cx, ev y ay cy] w fun e w' => e = .returned (.int .i64 (Ent.cmp x y)) ∧ Below w.heap.size w w' := by
  unfold ev
  rcases ways x y with ⟨h1, e⟩ | ⟨h1, h2, h3, e⟩ | ⟨h1, h2, h3, h4, e⟩ | ⟨h1, h2, h3, h4, e⟩ | ⟨h1, h2, h3, h4, e⟩
  · rw [e]
    clear e
    go_enter Try.func14, Try.ntmps14
    go_wp2
    go_ret
    exact ⟨rfl, two_boxes _ _ _⟩
  · rw [e]
    clear e
    go_enter Try.func14, Try.ntmps14
    go_wp2
    go_ret
    exact ⟨rfl, two_boxes _ _ _⟩
  · rw [e]
    have t1 : decide (y.seq < x.seq) = true := decide_eq_true h4
    clear e h4
    go_enter Try.func14, Try.ntmps14
    go_wp2
    go_ret
    exact ⟨rfl, two_boxes _ _ _⟩
  · rw [e]
    have t1 : decide (y.seq < x.seq) = false := decide_eq_false (by omega)
    have t2 : decide (x.seq < y.seq) = true := decide_eq_true h4
    clear e h4
    go_enter Try.func14, Try.ntmps14
    go_wp2
    go_ret
    exact ⟨rfl, two_boxes _ _ _⟩
  · rw [e]
    have t1 : decide (y.seq < x.seq) = false := decide_eq_false (by omega)
    have t2 : decide (x.seq < y.seq) = false := decide_eq_false (by omega)
    clear e h4
    go_enter Try.func14, Try.ntmps14
    go_wp2
    go_ret
    exact ⟨rfl, two_boxes _ _ _⟩
end Go.Proofs.Ytlipgaefflecaaa
end

section
set_option maxRecDepth 100000
set_option linter.unusedVariables false
set_option linter.unusedSimpArgs false
namespace Go.Proofs.Ytlipgaefflecaaa
open Go.RowKit

theorem nanS (s : ByteArray) (w : World) : Calls Try.prog 51 #[.string s] w fun e w' => e = .returned (.bool false) ∧ w = w' := by
  go_enter Try.func51, Try.ntmps51
  have t : (s.toList != s.toList) = false := by simp
  go_wp2
  go_ret
  exact ⟨by simp, rfl⟩
theorem nanU (z : Int) (w : World) : Calls Try.prog 52 #[.int .u64 z] w fun e w' => e = .returned (.bool false) ∧ w = w' := by
  go_enter Try.func52, Try.ntmps52
  have t : (z != z) = false := by simp
  go_wp2
  go_ret
  exact ⟨by simp, rfl⟩
def Ent.kcmp (a b : List UInt8) : Int := if Ent.klt a b = true then -1 else if Ent.klt b a = true then 1 else 0
def Ent.ncmp (a b : Nat) : Int := if a < b then -1 else if b < a then 1 else 0
def Ent.or2 (p q : Int) : Int := if p = 0 then q else p
theorem cmp_parts (x y : Ent) : Ent.cmp x y = Ent.or2 (Ent.kcmp x.key y.key) (Ent.ncmp y.seq x.seq) := by
  unfold Ent.or2 Ent.cmp Ent.kcmp Ent.ncmp
  split
  · simp
  · split <;> simp
set_option maxHeartbeats 1000000 in
theorem cmpS_any (l m : List UInt8) (w : World) : Calls Try.prog 49 #[.string (bstr l), .string (bstr m)] w fun e w' => e = .returned (.int .i64 (Ent.kcmp l m)) ∧ w' = w := by
  have hk : ((bstr l).toList == (bstr m).toList) = decide (l = m) := bstr_beq l m
  rcases Ent.klt_total l m with h | h | h
  · have e : Ent.kcmp l m = -1 := by unfold Ent.kcmp; rw [if_pos h]
    have h1 : Op.bytesLess (bstr l).toList (bstr m).toList = true := by rw [bstr_list, bstr_list]; exact h
    rw [e]
    clear e h hk
    go_enter Try.func49, Try.ntmps49
    go_wp2_with (go_at_call 51; refine (nanS _ _).mono ?_; rintro e w' ⟨rfl, rfl⟩)
    go_ret
    exact ⟨rfl, rfl⟩
  · have e : Ent.kcmp l m = 0 := by unfold Ent.kcmp; rw [h, Ent.klt_irrefl]; rfl
    have h1 : Op.bytesLess (bstr l).toList (bstr m).toList = false := by rw [bstr_list, bstr_list, h]; exact Ent.klt_irrefl _
    have h2 : decide (l = m) = true := decide_eq_true h
    rw [h2] at hk
    rw [e]
    clear e h
    go_enter Try.func49, Try.ntmps49
    go_wp2_with (go_at_call 51; refine (nanS _ _).mono ?_; rintro e w' ⟨rfl, rfl⟩)
    go_ret
    exact ⟨rfl, rfl⟩
  · have e : Ent.kcmp l m = 1 := by unfold Ent.kcmp; rw [Ent.klt_asymm h, h]; rfl
    have h1 : Op.bytesLess (bstr l).toList (bstr m).toList = false := by rw [bstr_list, bstr_list]; exact Ent.klt_asymm h
    have h2 : decide (l = m) = false := decide_eq_false (Ne.symm (Ent.klt_ne h))
    rw [h2] at hk
    rw [e]
    clear e h
    go_enter Try.func49, Try.ntmps49
    go_wp2_with (go_at_call 51; refine (nanS _ _).mono ?_; rintro e w' ⟨rfl, rfl⟩)
    go_ret
    exact ⟨rfl, rfl⟩
set_option maxHeartbeats 1000000 in
theorem cmpU_any (a b : Nat) (w : World) : Calls Try.prog 50 #[.int .u64 a, .int .u64 b] w fun e w' => e = .returned (.int .i64 (Ent.ncmp a b)) ∧ w' = w := by
  rcases Nat.lt_trichotomy a b with h | h | h
  · have e : Ent.ncmp a b = -1 := by unfold Ent.ncmp; rw [if_pos h]
    have t1 : decide (a < b) = true := decide_eq_true h
    rw [e]
    clear e h
    go_enter Try.func50, Try.ntmps50
    go_wp2_with (go_at_call 52; refine (nanU _ _).mono ?_; rintro e w' ⟨rfl, rfl⟩)
    go_ret
    exact ⟨rfl, rfl⟩
  · have e : Ent.ncmp a b = 0 := by unfold Ent.ncmp; rw [if_neg (by omega), if_neg (by omega)]
    have t1 : decide (a < b) = false := decide_eq_false (by omega)
    have t2 : decide (b < a) = false := decide_eq_false (by omega)
    rw [e]
    clear e h
    go_enter Try.func50, Try.ntmps50
    go_wp2_with (go_at_call 52; refine (nanU _ _).mono ?_; rintro e w' ⟨rfl, rfl⟩)
    go_ret
    exact ⟨rfl, rfl⟩
  · have e : Ent.ncmp a b = 1 := by unfold Ent.ncmp; rw [if_neg (by omega), if_pos h]
    have t1 : decide (a < b) = false := decide_eq_false (by omega)
    have t2 : decide (b < a) = true := decide_eq_true h
    rw [e]
    clear e h
    go_enter Try.func50, Try.ntmps50
    go_wp2_with (go_at_call 52; refine (nanU _ _).mono ?_; rintro e w' ⟨rfl, rfl⟩)
    go_ret
    exact ⟨rfl, rfl⟩
set_option maxHeartbeats 1000000 in
theorem or2_any (p q : Int) (b : Nat) (w : World) (c0 : w.cell? ⟨b, 0, none⟩ = some (.int .i64 p)) (c1 : w.cell? ⟨b, 1, none⟩ = some (.int .i64 q)) :
    Calls Try.prog 48 #[.slice (some ⟨b, 0, none⟩) 2 2] w fun e w' => e = .returned (.int .i64 (Ent.or2 p q)) ∧ w = w' := by
  go_enter Try.func48, Try.ntmps48
  go_wp2_with fail
  go_loop [8] (fun i => i = .int .i64 0 ∨ (i = .int .i64 1 ∧ p = 0) ∨ (i = .int .i64 2 ∧ p = 0 ∧ q = 0)) (fun i => 2 - (intOf i).toNat)
  case atStart => exact .inl rfl
  case round =>
    rcases hrel with rfl | ⟨rfl, hp⟩ | ⟨rfl, hp, hq⟩
    · by_cases h : p = 0
      · have t : (p != 0) = false := by simp [h]
        have H := Lib.hid h
        clear h
        go_wp2
        go_round
        case rel => exact .inr (.inl ⟨rfl, H.out⟩)
        case measure => simp [intOf]
      · have t : (p != 0) = true := by simp [h]
        have E : Hid (Ent.or2 p q = p) := Lib.hid (if_neg h)
        clear h
        go_wp2
        go_ret
        exact ⟨by rw [E.out]; rfl, rfl⟩
    · have H := Lib.hid hp
      have E : Hid (Ent.or2 p q = q) := Lib.hid (if_pos hp)
      clear hp
      by_cases h : q = 0
      · have t : (q != 0) = false := by simp [h]
        have H2 := Lib.hid h
        clear h
        go_wp2
        go_round
        case rel => exact .inr (.inr ⟨rfl, H.out, H2.out⟩)
        case measure => simp [intOf]
      · have t : (q != 0) = true := by simp [h]
        clear h
        go_wp2
        go_ret
        exact ⟨by rw [E.out]; rfl, rfl⟩
    · have E : Hid (Ent.or2 p q = 0) := Lib.hid (by unfold Ent.or2; rw [if_pos hp, hq])
      clear hp hq
      go_wp2
      go_ret
      exact ⟨by rw [E.out]; rfl, rfl⟩
set_option maxHeartbeats 1000000 in
theorem cmp_any (x y : Ent) (ax ay : Option Addr) (cx cy : Nat) (w : World) :
    Calls Try.prog 44 #[ev x ax cx, ev y ay cy] w fun e w' => e = .returned (.int .i64 (Ent.cmp x y)) ∧ Below w.heap.size w w' := by
  rw [cmp_parts]
  unfold ev
  generalize hW : (w.alloc (.cells #[.string (bstr x.key), .int .u64 x.seq, .bool x.gone, .slice ax x.val.length cx] 57)).alloc (.cells #[.string (bstr y.key), .int .u64 y.seq, .bool y.gone, .slice ay y.val.length cy] 57) = w0
  have hb : Below w.heap.size w w0 := by rw [← hW]; exact two_boxes _ _ _
  have hz : w0.heap.size = w.heap.size + 2 := by rw [← hW]; simp
  have x0 : w0.cell? ⟨w.heap.size, 0, none⟩ = some (.string (bstr x.key)) := by
    rw [← hW]; exact cell_later ((Below.refl _ _).alloc (Nat.le_refl _) _) (cell_of_row _ _ 0 #[.string (bstr x.key), .int .u64 x.seq, .bool x.gone, .slice ax x.val.length cx] 57 (0, 0) (heap_alloc_new w _))
  have x1 : w0.cell? ⟨w.heap.size, 1, none⟩ = some (.int .u64 x.seq) := by
    rw [← hW]; exact cell_later ((Below.refl _ _).alloc (Nat.le_refl _) _) (cell_of_row _ _ 1 #[.string (bstr x.key), .int .u64 x.seq, .bool x.gone, .slice ax x.val.length cx] 57 (0, 0) (heap_alloc_new w _))
  have hs1 : (w.alloc (.cells #[.string (bstr x.key), .int .u64 x.seq, .bool x.gone, .slice ax x.val.length cx] 57)).heap.size = w.heap.size + 1 := by simp
  have y0 : w0.cell? ⟨w.heap.size + 1, 0, none⟩ = some (.string (bstr y.key)) := by
    rw [← hW, ← hs1]; exact cell_of_row _ _ 0 #[.string (bstr y.key), .int .u64 y.seq, .bool y.gone, .slice ay y.val.length cy] 57 (0, 0) (heap_alloc_new _ _)
  have y1 : w0.cell? ⟨w.heap.size + 1, 1, none⟩ = some (.int .u64 y.seq) := by
    rw [← hW, ← hs1]; exact cell_of_row _ _ 1 #[.string (bstr y.key), .int .u64 y.seq, .bool y.gone, .slice ay y.val.length cy] 57 (0, 0) (heap_alloc_new _ _)
  have HW := Lib.hid hW
  have HB := Lib.hid hb
  have HZ := Lib.hid hz
  clear hW hb hz hs1
  go_enter Try.func44, Try.ntmps44
  go_wp2_with fail
  rw [HW.out]
  refine wp_region_still_tail 10 (by kernel_rfl) (by kernel_rfl) ?_
  simp only [List.take_succ_cons, List.take_zero, List.drop_succ_cons, List.drop_zero]
  repeat still_step
  still_call (cmpS_any _ _ _)
  repeat still_step
  still_call (cmpU_any _ _ _)
  repeat still_step
  refine wpStill_nil ?_
  go_wp2_with fail
  refine (or2_any (Ent.kcmp x.key y.key) (Ent.ncmp y.seq x.seq) w0.heap.size (w0.alloc (.cells #[.int .i64 (Ent.kcmp x.key y.key), .int .i64 (Ent.ncmp y.seq x.seq)] 3)).drew (cell_of_row _ _ 0 #[.int .i64 (Ent.kcmp x.key y.key), .int .i64 (Ent.ncmp y.seq x.seq)] 3 (0, 0) (heap_alloc_new w0 _)) (cell_of_row _ _ 1 #[.int .i64 (Ent.kcmp x.key y.key), .int .i64 (Ent.ncmp y.seq x.seq)] 3 (0, 0) (heap_alloc_new w0 _))).mono ?_
  rintro e w' ⟨rfl, rfl⟩
  go_wp2
  go_ret
  exact ⟨rfl, (HB.out.alloc HB.out.size _).drew⟩
end Go.Proofs.Ytlipgaefflecaaa
end

section
set_option maxRecDepth 100000
set_option linter.unusedVariables false
set_option linter.unusedSimpArgs false
namespace Go.Proofs.Ytlipgaefflecaaa
open Go.RowKit

/-- The cells of an entry. -/
structure EntAt (w : World) (b o : Nat) (e : Ent) (a : Option Addr) (c : Nat) : Prop where
  key : w.cell? ⟨b, o, none⟩ = some (.string (bstr e.key))
  seq : w.cell? ⟨b, o + 1, none⟩ = some (.int .u64 e.seq)
  gone : w.cell? ⟨b, o + 2, none⟩ = some (.bool e.gone)
  val : w.cell? ⟨b, o + 3, none⟩ = some (.slice a e.val.length c)
theorem EntAt.below {w w' : World} {b o : Nat} {e : Ent} {a : Option Addr} {c : Nat} (h : EntAt w b o e a c) (k : Below w.heap.size w w') : EntAt w' b o e a c :=
  ⟨cell_later k h.key, cell_later k h.seq, cell_later k h.gone, cell_later k h.val⟩
/-- A slice of entries that is read. -/
def Es (w : World) (a : Option Addr) (n c : Nat) (l : List Ent) : Prop :=
  l.length = n ∧ n ≤ c ∧ c ≤ maxLen ∧ ∀ i, i < n → ∃ b off ai ci, a = some ⟨b, off, none⟩ ∧ EntAt w b (off + i * 4) (nth l i) ai ci ∧ Bs w ai (nth l i).val.length ci (nth l i).val
theorem Es.below {w w' : World} {a : Option Addr} {n c : Nat} {l : List Ent} (h : Es w a n c l) (k : Below w.heap.size w w') : Es w' a n c l :=
  ⟨h.1, h.2.1, h.2.2.1, fun i hi => by obtain ⟨b, off, ai, ci, h1, h2, h3⟩ := h.2.2.2 i hi; exact ⟨b, off, ai, ci, h1, h2.below k, h3.below k⟩⟩
theorem Es.le {w : World} {a : Option Addr} {n c : Nat} {l : List Ent} (h : Es w a n c l) : n ≤ 9223372036854775807 ∧ c ≤ 9223372036854775807 := by
  have := h.2.1; have := h.2.2.1; simp only [maxLen] at *; omega
theorem Es.nil (w : World) : Es w none 0 0 [] := ⟨rfl, Nat.le_refl _, by simp [maxLen], fun i hi => by omega⟩

def Ent.tot (l : List Ent) : Nat := (l.map fun e => e.key.length + e.val.length).sum
theorem Ent.tot_snoc (l : List Ent) {i : Nat} (hi : i < l.length) : Ent.tot (l.take (i + 1)) = Ent.tot (l.take i) + ((nth l i).key.length + (nth l i).val.length) := by
  unfold Ent.tot; rw [take_snoc l hi]; simp
theorem Ent.tot_le (l : List Ent) (i : Nat) : Ent.tot (l.take i) ≤ Ent.tot l := by
  unfold Ent.tot
  conv => rhs; rw [← List.take_append_drop i l]
  simp only [List.map_append, List.sum_append]
  omega
set_option maxHeartbeats 2000000 in
theorem efew_any (a : Option Addr) (n c : Nat) (l : List Ent) (most : Nat) (w : World) (h : Es w a n c l) (hf : Ent.tot l + n ≤ 1000000000) (hm : most ≤ 1000) :
    Calls Try.prog 6 #[.slice a n c, .int .i64 most] w fun e w' => e = .returned (.bool (decide (n ≤ most ∧ Ent.tot l ≤ 131072))) ∧ ∃ q, w' = w.drewN q := by
  have hle := h.le.1
  have HN := Lib.hid h.1
  have HE := Lib.hid h
  clear h
  go_enter Try.func6, Try.ntmps6
  go_wp2
  go_loopw [5, 6] (fun s i wr => ∃ k q : Nat, k ≤ n ∧ i = .int .i64 k ∧ s = .int .i64 (Ent.tot (l.take k) : Nat) ∧ wr = w.drewN q) (fun _ i _ => n - (intOf i).toNat)
  case atStart => exact ⟨0, 0, by omega, rfl, by simp [Ent.tot], rfl⟩
  case round =>
    obtain ⟨k, q, hk, rfl, rfl, rfl⟩ := hrel
    by_cases hlt : k < n
    · obtain ⟨b, off, ai, ci, rfl, he, hv⟩ := HE.out.2.2.2 k hlt
      have ht := Ent.tot_snoc l (i := k) (by rw [HN.out]; exact hlt)
      have h1 := Ent.tot_le l (k + 1)
      have c1 := he.key
      have c2 := he.val
      generalize nth l k = x at *
      have hsz : (bstr x.key).size = x.key.length := by simp [bstr, ByteArray.size]
      have HT := Lib.hid ht
      have hb : Ent.tot (l.take k) + x.key.length + x.val.length ≤ 1000000000 := by omega
      clear ht h1 he hv hf
      generalize Ent.tot (l.take k) = s at *
      go_wp2_with fail
      go_quiet (fail)
      go_wp2
      go_roundw
      case rel => exact ⟨k + 1, q + nq, by omega, by go_num, by rw [HT.out]; go_num, rfl⟩
      case measure => simp [intOf]; omega
    · obtain rfl : k = n := by omega
      have e1 : l.take k = l := by rw [← HN.out, List.take_length]
      rw [e1]
      by_cases h1 : k ≤ most
      · have t1 : decide (k ≤ most) = true := decide_eq_true h1
        by_cases h2 : Ent.tot l ≤ 131072
        · have t2 : decide (((Ent.tot l : Nat) : Int) ≤ 131072) = true := decide_eq_true (by omega)
          have E := Lib.hid (decide_eq_true (show k ≤ most ∧ Ent.tot l ≤ 131072 from ⟨h1, h2⟩))
          generalize hS : Ent.tot l = s at *
          have HS := Lib.hid hS
          clear h1 h2 hf hS
          go_wp2
          go_ret
          exact ⟨by rw [HS.out, E.out]; rfl, q, rfl⟩
        · have t2 : decide (((Ent.tot l : Nat) : Int) ≤ 131072) = false := decide_eq_false (by omega)
          have E := Lib.hid (decide_eq_false (show ¬ (k ≤ most ∧ Ent.tot l ≤ 131072) from fun h => h2 h.2))
          generalize hS : Ent.tot l = s at *
          have HS := Lib.hid hS
          clear h1 h2 hf hS
          go_wp2
          go_ret
          exact ⟨by rw [HS.out, E.out]; rfl, q, rfl⟩
      · have t1 : decide (k ≤ most) = false := decide_eq_false h1
        have E := Lib.hid (decide_eq_false (show ¬ (k ≤ most ∧ Ent.tot l ≤ 131072) from fun h => h1 h.1))
        clear h1 hf
        go_wp2
        go_ret
        exact ⟨by rw [E.out]; rfl, q, rfl⟩
/-- Two entries compared field by field. -/
def Ent.same (x y : Ent) : Bool := decide (x = y)
set_option maxHeartbeats 2000000 in
theorem esame_any (x y : Ent) (ax ay : Option Addr) (cx cy : Nat) (w : World) (hx : Bs w ax x.val.length cx x.val) (hy : Bs w ay y.val.length cy y.val) :
    Calls Try.prog 21 #[ev x ax cx, ev y ay cy] w fun e w' => e = .returned (.bool (decide (x = y))) ∧ Below w.heap.size w w' := by
  have v1 := conv_bytes (hx.below (two_boxes w (.cells #[.string (bstr x.key), .int .u64 x.seq, .bool x.gone, .slice ax x.val.length cx] 57) (.cells #[.string (bstr y.key), .int .u64 y.seq, .bool y.gone, .slice ay y.val.length cy] 57)))
  have v2 := conv_bytes (hy.below (two_boxes w (.cells #[.string (bstr x.key), .int .u64 x.seq, .bool x.gone, .slice ax x.val.length cx] 57) (.cells #[.string (bstr y.key), .int .u64 y.seq, .bool y.gone, .slice ay y.val.length cy] 57)))
  have hxl := hx.le
  have hyl := hy.le
  clear hx hy
  unfold ev
  by_cases h1 : x.key = y.key
  case neg =>
    have t1 : ((bstr x.key).toList == (bstr y.key).toList) = false := by rw [bstr_beq]; exact decide_eq_false h1
    have t1' : decide (x.key = y.key) = false := decide_eq_false h1
    have E := Lib.hid (decide_eq_false (show ¬ x = y from fun e => h1 (by rw [e])))
    clear h1
    go_enter Try.func21, Try.ntmps21
    go_wp2
    go_ret
    exact ⟨by rw [E.out]; rfl, two_boxes _ _ _⟩
  have t1 : ((bstr x.key).toList == (bstr y.key).toList) = true := by rw [bstr_beq]; exact decide_eq_true h1
  have t1' : decide (x.key = y.key) = true := decide_eq_true h1
  by_cases h2 : x.seq = y.seq
  case neg =>
    have t2 : decide (x.seq = y.seq) = false := decide_eq_false h2
    have t2' : ((x.seq : Int) == (y.seq : Int)) = false := by simp; omega
    have E := Lib.hid (decide_eq_false (show ¬ x = y from fun e => h2 (by rw [e])))
    clear h1 h2
    go_enter Try.func21, Try.ntmps21
    go_wp2
    go_ret
    exact ⟨by rw [E.out]; rfl, two_boxes _ _ _⟩
  have t2' : ((x.seq : Int) == (y.seq : Int)) = true := by simp; omega
  by_cases h3 : x.gone = y.gone
  case neg =>
    have t3 : (x.gone == y.gone) = false := by simpa using h3
    have E := Lib.hid (decide_eq_false (show ¬ x = y from fun e => h3 (by rw [e])))
    clear h1 h2 h3
    go_enter Try.func21, Try.ntmps21
    go_wp2
    go_ret
    exact ⟨by rw [E.out]; rfl, two_boxes _ _ _⟩
  have t3 : (x.gone == y.gone) = true := by simpa using h3
  by_cases h4 : x.val = y.val
  case neg =>
    have t4 : ((bstr x.val).toList == (bstr y.val).toList) = false := by rw [bstr_beq]; exact decide_eq_false h4
    have t4' : decide (x.val = y.val) = false := decide_eq_false h4
    have E := Lib.hid (decide_eq_false (show ¬ x = y from fun e => h4 (by rw [e])))
    clear h1 h2 h3 h4
    go_enter Try.func21, Try.ntmps21
    go_wp2
    go_ret
    exact ⟨by rw [E.out]; rfl, two_boxes _ _ _⟩
  have t4 : ((bstr x.val).toList == (bstr y.val).toList) = true := by rw [bstr_beq]; exact decide_eq_true h4
  have t4' : decide (x.val = y.val) = true := decide_eq_true h4
  have E := Lib.hid (decide_eq_true (Ent.ext' h1 h2 h3 h4))
  clear h1 h2 h3 h4
  go_enter Try.func21, Try.ntmps21
  go_wp2
  go_ret
  exact ⟨by rw [E.out]; rfl, two_boxes _ _ _⟩
theorem Es.vals {w : World} {a : Option Addr} {n c : Nat} {l : List Ent} (h : Es w a n c l) {i : Nat} (hi : i < n) :
    ∃ b off ai ci, a = some ⟨b, off, none⟩ ∧ EntAt w b (off + i * 4) (nth l i) ai ci ∧ Bs w ai (nth l i).val.length ci (nth l i).val := h.2.2.2 i hi
theorem ent_ext_nth {l m : List Ent} (hl : l.length = m.length) (h : ∀ k, k < l.length → nth l k = nth m k) : l = m := by
  apply List.ext_getElem hl
  intro i h1 h2
  have := h i h1
  rwa [nth_eq _ h1, nth_eq _ h2] at this
set_option maxHeartbeats 4000000 in
theorem srows_any (a a' : Option Addr) (n c n' c' : Nat) (l l' : List Ent) (w : World) (h : Es w a n c l) (h' : Es w a' n' c' l') :
    Calls Try.prog 12 #[.slice a n c, .slice a' n' c'] w fun e w' => e = .returned (.bool (decide (l = l'))) ∧ Below w.heap.size w w' := by
  have hle := h.le.1
  have hle' := h'.le.1
  have HN := Lib.hid h.1
  have HN' := Lib.hid h'.1
  have HE := Lib.hid h
  have HE' := Lib.hid h'
  clear h h'
  go_enter Try.func12, Try.ntmps12
  by_cases hn : n = n'
  · subst hn
    have t1 : ((n : Int) != (n : Int)) = false := by simp
    go_wp2
    go_loopw [5] (fun i wr => ∃ k : Nat, k ≤ n ∧ i = .int .i64 k ∧ Below w.heap.size w wr ∧ Hid (∀ j, j < k → nth l j = nth l' j)) (fun i _ => n - (intOf i).toNat)
    case atStart => exact ⟨0, by omega, rfl, Below.refl _ _, Lib.hid (fun j hj => by omega)⟩
    case round =>
      obtain ⟨k, hk, rfl, hb, hall⟩ := hrel
      by_cases hlt : k < n
      · obtain ⟨b1, o1, a1, d1, rfl, he1, hv1⟩ := (HE.out.below hb).vals hlt
        obtain ⟨b2, o2, a2, d2, rfl, he2, hv2⟩ := (HE'.out.below hb).vals hlt
        have p1 := he1.key
        have p2 := he1.seq
        have p3 := he1.gone
        have p4 := he1.val
        have q1 := he2.key
        have q2 := he2.seq
        have q3 := he2.gone
        have q4 := he2.val
        have HV1 := Lib.hid hv1
        have HV2 := Lib.hid hv2
        have HB := Lib.hid hb
        clear he1 he2 hv1 hv2 hb
        go_wp2_with fail
        refine wp_region_class (w0 := wr) (by kernel_rfl) (by kernel_rfl) (Below.refl _ _) ?_
        have m1 := BW.cell p1
        have m2 := BW.cell p2
        have m3 := BW.cell p3
        have m4 := BW.cell p4
        have n1 := BW.cell q1
        have n2 := BW.cell q2
        have n3 := BW.cell q3
        have n4 := BW.cell q4
        by_cases hxy : nth l k = nth l' k
        · have hsm : ∀ W : BW wr, Calls Try.prog 21 #[ev (nth l k) a1 d1, ev (nth l' k) a2 d2] W.w fun e w' => e = .returned (.bool true) ∧ Below W.w.heap.size W.w w' := fun W => by
            have := esame_any (nth l k) (nth l' k) a1 a2 d1 d2 W.w (HV1.out.below W.b) (HV2.out.below W.b)
            rwa [decide_eq_true hxy] at this
          have HX := Lib.hid hxy
          have HSM := Lib.hid hsm
          clear hxy hsm
          repeat (first | go_big_quiet_step ((go_at_call 21; exact calls_class (HSM.out _))))
          refine wpQuiet_nil ?_
          intro w1 hb1; replace hb1 := BW.of hb1
          have HB1 := Lib.hid (HB.out.trans (hb1.mono HB.out.size))
          clear hb1 m1 m2 m3 m4 n1 n2 n3 n4
          go_wp2
          go_roundw
          case rel => exact ⟨k + 1, by omega, by go_num, HB1.out, Lib.hid (fun j hj => by
            by_cases e : j = k
            · rw [e]; exact HX.out
            · exact hall.out j (by omega))⟩
          case measure => simp [intOf]; omega
        · have hsm : ∀ W : BW wr, Calls Try.prog 21 #[ev (nth l k) a1 d1, ev (nth l' k) a2 d2] W.w fun e w' => e = .returned (.bool false) ∧ Below W.w.heap.size W.w w' := fun W => by
            have := esame_any (nth l k) (nth l' k) a1 a2 d1 d2 W.w (HV1.out.below W.b) (HV2.out.below W.b)
            rwa [decide_eq_false hxy] at this
          have E := Lib.hid (decide_eq_false (show ¬ l = l' from fun e => hxy (by rw [e])))
          have HSM := Lib.hid hsm
          clear hxy hsm
          repeat (first | go_big_quiet_step ((go_at_call 21; exact calls_class (HSM.out _))))
          refine wpQuiet_nil ?_
          intro w1 hb1; replace hb1 := BW.of hb1
          have HB1 := Lib.hid (HB.out.trans (hb1.mono HB.out.size))
          clear hb1 m1 m2 m3 m4 n1 n2 n3 n4
          go_wp2
          go_ret
          exact ⟨by rw [E.out]; rfl, HB1.out⟩
      · obtain rfl : k = n := by omega
        have E := Lib.hid (decide_eq_true (ent_ext_nth (by rw [HN.out, HN'.out]) (fun j hj => hall.out j (by rw [HN.out] at hj; exact hj))))
        have HB := Lib.hid hb
        clear hb
        go_wp2
        go_ret
        exact ⟨by rw [E.out]; rfl, HB.out⟩
  · have t1 : ((n : Int) != (n' : Int)) = true := by simp; omega
    have E := Lib.hid (decide_eq_false (show ¬ l = l' from fun e => hn (by rw [← HN.out, ← HN'.out, e])))
    clear hn
    go_wp2
    go_ret
    exact ⟨by rw [E.out]; rfl, Below.refl _ _⟩
end Go.Proofs.Ytlipgaefflecaaa
end

section
set_option linter.unusedVariables false
set_option linter.unusedSimpArgs false
namespace Go.Proofs.Ytlipgaefflecaaa
open Go.RowKit

section
variable {P : Program} {l n : Nat} {Q : Exit → Act → World → Prop} {a : Act} {w : World}
/-- In a round, with no fence. -/
abbrev inR (l : Nat) : Fence := Fence.wide.inRound l
theorem rows_in {row : String} {args : Array Value} {R : Value → World → Prop} (h : Rows P row args w R) : RowsIn (inR l) n P row args w R := by
  intro c cs _
  obtain ⟨v, w', r, s⟩ := h c cs
  exact ⟨v, w', r, by rw [fenced_inRound]; exact stepsIn_wide.2 s⟩
theorem calls_in {f : FuncId} {args : Array Value} {R : Ending → World → Prop} (h : Calls P f args w R) : CallsIn (inR l) n P f args w R := CallsIn.inRound l (callsIn_wide.2 h)
theorem oper_in {o : Oper} {K K' : Act → World → Prop} (hnd : ∀ c, o.op ≠ .defer c) (hK : ∀ a w, K a w → K' a w) (h : o.wp P a w K Q) : o.wpIn (inR l) n P a w K' Q := by
  unfold Oper.wpIn
  refine ⟨fun _ _ => trivial, ?_⟩
  rw [Oper.semAt_eq _ _ _ hnd]
  unfold Oper.wp at h
  generalize (execOp a.eval o).run P w = r at *
  have hd : ¬ ((inR l).depth.isSome = true) := by simp [Fence.wide]
  cases r with
  | ok x w' =>
    cases x <;> simp only [Oper.upon, Oper.uponIn] at h ⊢ <;>
      first
        | exact hK _ _ h
        | exact ⟨fun e => absurd e hd, (calls_in h).mono (fun e w'' he => by cases e <;> first | exact hK _ _ he | exact he)⟩
        | exact ⟨fun e => absurd e hd, (rows_in h).mono (fun _ _ he => hK _ _ he)⟩
  | halt x w' => cases x <;> simp only [Oper.upon, Oper.uponIn] at h ⊢ <;> exact h
def noDefer (o : Oper) : Bool := match o.op with | .defer _ => false | _ => true
theorem noDefer_spec {o : Oper} (h : noDefer o = true) : ∀ c, o.op ≠ .defer c := by
  intro c e
  unfold noDefer at h
  rw [e] at h
  cases h
theorem any_in {md : Region.Mode} {ops : Array Oper} (hQ : ¬ LetsOut Q) (hnd : ops.all noDefer = true) : ∀ (fuel : Nat) (listed : Array Bool) (a : Act) (w : World), wpAny P md ops Q fuel listed a w → wpAnyIn (inR l) n P md ops Q fuel listed a w
  | 0, _, _, _, h => h
  | fuel + 1, listed, a, w, h => by
    refine ⟨h.1, fun i hi => ?_⟩
    have := h.2 i hi
    unfold wpOp at this
    unfold wpOpIn
    cases ho : ops[i]? with
    | none => simp only [ho] at this ⊢; exact any_in hQ hnd fuel _ _ _ this
    | some o =>
      simp only [ho] at this ⊢
      have hd : noDefer o = true := by
        obtain ⟨h1, h2⟩ := Array.getElem?_eq_some_iff.1 ho
        rw [← h2]; exact Array.all_eq_true.1 hnd i h1
      split
      · rename_i hw
        rw [if_pos hw] at this
        rcases this with this | this
        · exact oper_in (noDefer_spec hd) (fun a w => any_in hQ hnd fuel _ a w) this
        · exact absurd this.2 hQ
      · rename_i hw
        rw [if_neg hw] at this
        exact ⟨fun _ _ => trivial, any_in hQ hnd fuel _ _ _ this⟩
theorem list_in {ops : Array Oper} (hQ : ¬ LetsOut Q) : ∀ (rest : List Oper) (a : Act) (w : World), rest.all noDefer = true → wpList P ops Q rest a w → wpListIn (inR l) n P ops Q rest a w
  | [], _, _, _, h => h
  | o :: rest, a, w, hnd, h => by
    rw [List.all_cons, Bool.and_eq_true] at hnd
    unfold wpList at h
    unfold wpListIn
    split
    · rename_i hw
      rw [if_pos hw] at h
      rcases h with h | h
      · exact oper_in (noDefer_spec hnd.1) (fun a w => list_in hQ rest a w hnd.2) h
      · exact absurd h.2 hQ
    · rename_i hw
      rw [if_neg hw] at h
      exact ⟨fun _ _ => trivial, list_in hQ rest _ _ hnd.2 h⟩
/-- A region that does not draw. -/
theorem round_lit {id : Nat} {ops : List Oper} (hQ : ¬ LetsOut Q) (hnd : ops.all noDefer = true) (h : wpList P ops.toArray Q ops a w) : (Code.region id ops.toArray false).wpIn (inR l) n P Q a w :=
  wpIn_region_lit (list_in hQ ops a w hnd h)
/-- A region that draws: its loads and calls keep all there was. -/
theorem round_class {w0 : World} {id : Nat} {ops : List Oper} (hQ : ¬ LetsOut Q) (hm : P.follows .mixedOrders = true) (hB : Region.lexB .any ops.toArray = true) (hnd : ops.toArray.all noDefer = true) (h0 : Below w0.heap.size w0 w)
    (h : wpQuiet P ops.toArray (fun w' => ∃ W : BW w0, w' = W.w) (fun a' => ∀ w', (∃ W : BW w0, w' = W.w) → Q .normal a' w') ops a) : (Code.region id ops.toArray true).wpIn (inR l) n P Q a w := by
  simp only [Region.lexB, Bool.and_eq_true] at hB
  refine wpIn_region_any hm (any_in hQ hnd _ _ _ _ (wpAny_of_quiet (Q := fun a' => ∀ w', (∃ W : BW w0, w' = W.w) → Q .normal a' w') (fun _ w' hw' h => h w' hw') _ _ _ _ (⟨⟨w.drew, h0.drew⟩, rfl⟩ : ∃ W : BW w0, w.drew = W.w) ?_))
  have := wpAnyQ_lex (C := fun w' => ∃ W : BW w0, w' = W.w) (md := .any) hB.1 ops 0 (Array.replicate ops.toArray.size false) a (by simp) (by simpa using hB.2) h
  simpa using this
/-- A region that draws, a store at its end. -/
theorem round_tail {id : Nat} {ops : List Oper} (N : Nat) (hQ : ¬ LetsOut Q) (hm : P.follows .mixedOrders = true) (hB : Region.lexTailB .any ops.toArray N = true) (hnd : ops.toArray.all noDefer = true)
    (h : wpStill P ops.toArray w.drew (fun a' => wpList P ops.toArray Q (ops.drop N) a' w.drew) (ops.take N) a) : (Code.region id ops.toArray true).wpIn (inR l) n P Q a w := by
  simp only [Region.lexTailB, Bool.and_eq_true, decide_eq_true_eq] at hB
  obtain ⟨⟨⟨⟨hsel, hn⟩, hs⟩, hc⟩, hlex⟩ := hB
  have hn' : N < ops.length := by simpa using hn
  have htl : (ops.take N).length = N := by simp; omega
  have hdl : (ops.drop N).length = ops.toArray.size - N := by simp
  have H := wpAnyL_lex (md := .any) (g := ops.toArray.size - N) hsel hs hc hn (ops.take N) 0 (Array.replicate ops.toArray.size false) a (fun j hj => by
    have hj' : j < N := by rw [htl] at hj; exact hj
    simp [hj']) (by simpa using htl)
    ⟨by simp, fun j oj _ hl => (by rw [getD_replicate_false] at hl; cases hl), fun t _ ht => getD_in (by simpa using ht) (getD_replicate_false _ _)⟩ (by rw [htl]; exact hlex) h
  refine wpIn_region_any hm (any_in hQ hnd _ _ _ _ ?_)
  have := wpAny_of_head (Q' := Q) (g := ops.toArray.size - N) (fun listed a' hL => by
    have := wpAny_of_seq (md := .any) (Q' := Q) (ops.drop N) N listed a' w.drew (fun j => by simp [List.getElem?_drop]) (by rw [hdl]; exact hL.1) hL.2
    rwa [hdl] at this) _ _ _ H
  rw [htl, show N + (ops.toArray.size - N) = ops.toArray.size by omega] at this
  exact this
end
end Go.Proofs.Ytlipgaefflecaaa
end

section
set_option maxRecDepth 100000
set_option linter.unusedSimpArgs false
namespace Go.Proofs.Ytlipgaefflecaaa
open Go.RowKit
set_option linter.unusedVariables false

theorem own_keep {w w' : World} {B e s n : Nat} {v : Value} {cs : List Value} (h : w.ownsRow B e s v n cs) (hb : ∀ g, B ≤ g → w'.heap[g]? = w.heap[g]?) : w'.ownsRow B e s v n cs := by
  refine ⟨h.1, ?_⟩
  rcases h.2 with h | ⟨g, cap, cur, h1, h2, h3, h4⟩
  · exact .inl h
  · exact .inr ⟨g, cap, cur, h1, h2, by rw [hb g h2]; exact h3, h4⟩
theorem infoE : (Try.prog.info? 57).map (fun i => (i.zero, i.size, i.bytes)) = some (some (.agg #[.string ByteArray.empty, .int .u64 0, .bool false, .slice none 0 0]), 4, 56) := by kernel_rfl
def entCells (e : Ent) (a : Option Addr) (c : Nat) : List Value := [.string (bstr e.key), .int .u64 e.seq, .bool e.gone, .slice a e.val.length c]
theorem entCells_one (e : Ent) (a : Option Addr) (c : Nat) : ∀ u ∈ entCells e a c, u.oneCell' = true := by
  intro u hu
  simp only [entCells, List.mem_cons, List.not_mem_nil, or_false] at hu
  rcases hu with rfl | rfl | rfl | rfl <;> rfl
theorem EntAt.cells {w : World} {b o : Nat} {e : Ent} {a : Option Addr} {c : Nat} (h : EntAt w b o e a c) : ∀ j v, (entCells e a c)[j]? = some v → w.cell? ⟨b, o + j, none⟩ = some v := by
  intro j v hj
  match j, hj with
  | 0, hj => cases hj; exact h.key
  | 1, hj => cases hj; exact h.seq
  | 2, hj => cases hj; exact h.gone
  | 3, hj => cases hj; exact h.val
  | j + 4, hj => simp [entCells] at hj
theorem EntAt.of_cells {w : World} {b o : Nat} {e : Ent} {a : Option Addr} {c : Nat} (h : ∀ j v, (entCells e a c)[j]? = some v → w.cell? ⟨b, o + j, none⟩ = some v) : EntAt w b o e a c := ⟨h 0 _ rfl, h 1 _ rfl, h 2 _ rfl, h 3 _ rfl⟩
/-- What is known of an entry's cells within a row: its value's bytes lie elsewhere. -/
def EntIn (w : World) (a : Option Addr) (cs : List Value) (i : Nat) (e : Ent) : Prop :=
  ∃ ai ci, (∀ j v, (entCells e ai ci)[j]? = some v → cs[i * 4 + j]? = some v) ∧ Bs w ai e.val.length ci e.val ∧ (0 < e.val.length → ∀ x y, ai = some x → a = some y → x.block ≠ y.block)
/-- A row of entries that is the call's own. -/
structure AccE (w : World) (B : Nat) (a : Option Addr) (n c : Nat) (l : List Ent) : Prop where
  len : l.length = n
  row : ∃ cs, w.ownsRow B 57 4 (.slice a n c) n cs ∧ ∀ i, i < n → EntIn w a cs i (nth l i)
theorem AccE.nil (w : World) (B : Nat) : AccE w B none 0 0 [] := ⟨rfl, [], World.ownsRow_nil w B _ _, fun i hi => by omega⟩
theorem AccE.below {w w' : World} {B n c : Nat} {a : Option Addr} {l : List Ent} (h : AccE w B a n c l) (hb : Below w.heap.size w w') : AccE w' B a n c l := by
  obtain ⟨cs, h1, h2⟩ := h.row
  exact ⟨h.len, cs, own_below h1 hb, fun i hi => by obtain ⟨ai, ci, g1, g2, g3⟩ := h2 i hi; exact ⟨ai, ci, g1, g2.below hb, g3⟩⟩
theorem AccE.mono {w : World} {B B' n c : Nat} {a : Option Addr} {l : List Ent} (h : AccE w B a n c l) (hB : B' ≤ B) : AccE w B' a n c l := by
  obtain ⟨cs, h1, h2⟩ := h.row
  exact ⟨h.len, cs, own_mono h1 hB, h2⟩
theorem AccE.cap {w : World} {B n c : Nat} {a : Option Addr} {l : List Ent} (h : AccE w B a n c l) : n ≤ c ∧ c ≤ maxLen := by
  obtain ⟨cs, h1, _⟩ := h.row
  exact (own_cap h1).2
theorem AccE.new {w : World} {B n c : Nat} {a : Option Addr} {l : List Ent} (h : AccE w B a n c l) : ∀ z, a = some z → B ≤ z.block ∧ z.block < w.heap.size := by
  obtain ⟨cs, h1, _⟩ := h.row
  intro z hz
  subst hz
  exact World.ownsRow.lt h1 z.block rfl
theorem AccE.es {w : World} {B n c : Nat} {a : Option Addr} {l : List Ent} (h : AccE w B a n c l) : Es w a n c l := by
  obtain ⟨cs, h1, h2⟩ := h.row
  refine ⟨h.len, h.cap.1, h.cap.2, fun i hi => ?_⟩
  obtain ⟨ai, ci, g1, g2, _⟩ := h2 i hi
  have hr := Row.of_own h1
  obtain ⟨b, off, rfl, k0⟩ := hr (i * 4 + 0) _ (g1 0 _ rfl)
  refine ⟨b, off, ai, ci, rfl, EntAt.of_cells fun j v hj => ?_, g2⟩
  obtain ⟨b', off', e, k⟩ := hr (i * 4 + j) v (g1 j v hj)
  cases e
  rw [Nat.add_assoc]
  exact k
theorem EntIn.step {w w' : World} {a a' : Option Addr} {cs cs2 : List Value} {i : Nat} {e : Ent} (h : EntIn w a cs i e) (hev : Evol w a w' a') : EntIn w' a' (cs ++ cs2) i e := by
  obtain ⟨ai, ci, g1, g2, g3⟩ := h
  refine ⟨ai, ci, fun j v hj => ?_, g2.evol hev g3, fun h0 x y hx hy e => ?_⟩
  · have := g1 j v hj
    rw [List.getElem?_append_left (List.getElem?_eq_some_iff.1 this).1]
    exact this
  · have hold := g2.old h0 x hx
    rcases hev.2 y hy with k1 | k1
    · cases a with
      | none => cases k1
      | some z =>
        have k2 : z.block = y.block := by simpa using k1
        exact g3 h0 x z hx rfl (by rw [e, k2])
    · omega
/-- Behind the append. -/
theorem AccE.snoc {w w' : World} {B n c c' : Nat} {a a' : Option Addr} {l : List Ent} {cs : List Value} {e : Ent} {ae : Option Addr} {ce : Nat}
    (hl : l.length = n) (h1 : w.ownsRow B 57 4 (.slice a n c) n cs) (h2 : ∀ i, i < n → EntIn w a cs i (nth l i))
    (he : Bs w ae e.val.length ce e.val) (hne : 0 < e.val.length → ∀ x y, ae = some x → a = some y → x.block ≠ y.block)
    (h : w'.ownsRow B 57 4 (.slice a' (n + 1) c') (n + 1) (cs ++ entCells e ae ce)) (hev : Evol w a w' a') : AccE w' B a' (n + 1) c' (l ++ [e]) := by
  have hcl : cs.length = n * 4 := h1.1
  refine ⟨by simp [hl], cs ++ entCells e ae ce, h, fun i hi => ?_⟩
  by_cases ei : i = n
  · subst ei
    have h3 : EntIn w a (cs ++ entCells e ae ce) i e := ⟨ae, ce, fun j v hj => by rw [List.getElem?_append_right (by omega), hcl, Nat.add_sub_cancel_left]; exact hj, he, hne⟩
    have := h3.step (cs2 := []) hev
    rw [List.append_nil] at this
    rw [nth_eq _ (by simp; omega)]
    simpa [hl] using this
  · rw [nth_append_left _ _ (by omega)]
    exact (h2 i (by omega)).step hev
section
variable {w : World} {ops : Array Oper} {rest : List Oper} {o : Oper} {a : Act} {Q : Exit → Act → World → Prop}
/-- append of one entry. -/
theorem app_ent (hgd : Region.wanted o (yielded ops a.tmps) = true) (s x : Operand) (ho : o.op = .call { callee := .builtin .append, args := #[s, x], argTypes := #[33, 33] })
    (B : Nat) {aq : Option Addr} {n c : Nat} {l : List Ent} (hs : a.eval s = .slice aq n c) (hacc : AccE w B aq n c l)
    {k : Nat} {e : Ent} {ae : Option Addr} {ce : Nat} (hx : a.eval x = .slice (some ⟨k, 0, none⟩) 1 1) (hcell : EntAt w k 0 e ae ce) (he : Bs w ae e.val.length ce e.val)
    (hne : 0 < e.val.length → ∀ x y, ae = some x → aq = some y → x.block ≠ y.block) (hb : n ≤ 1000000000) (hB : B ≤ w.heap.size)
    (h : ∀ a' c' w', AccE w' B a' (n + 1) c' (l ++ [e]) → Below B w w' → Evol w aq w' a' → wpList Try.prog ops Q rest (a.put o.dst (.slice a' (n + 1) c')) w') : wpList Try.prog ops Q (o :: rest) a w := by
  obtain ⟨i, hi, h0, h1, h2⟩ := info_parts infoE
  obtain ⟨cs, hown, hin⟩ := hacc.row
  have hr : Row w (some ⟨k, 0, none⟩) (entCells e ae ce) := fun j v hj => ⟨k, 0, rfl, hcell.cells j v hj⟩
  refine wpList_app_own hgd s x 33 ho B 57 i (.agg #[.string ByteArray.empty, .int .u64 0, .bool false, .slice none 0 0]) 4 56 Try.underlying33 hi h0 h1 h2 rfl (by decide) aq n c cs hs hown (some ⟨k, 0, none⟩) 1 1 (entCells e ae ce) hx hr rfl (entCells_one e ae ce) (by omega) (by simp only [maxLen]; omega) hB ?_
  intro a' c' w' g1 g2
  exact h a' c' w' (AccE.snoc hacc.len hown hin he hne g1 g2) (g2.below hB (fun x hx => by subst hx; exact (World.ownsRow.lt hown x.block rfl).1)) g2
end

/-! Boxes, and rows of entries beside them. -/
theorem keeps_below {W W' : World} (h : Below W.heap.size W W') : KeepsOthers W W' :=
  ⟨h.size, fun k o hk _ => (h.block k (Array.getElem?_eq_some_iff.1 hk).1).trans hk⟩
theorem Boxed.below {W W' : World} {B : Nat} {t : TypeId} {v : Value} (h : Boxed W B t v) (hb : Below W.heap.size W W') : Boxed W' B t v := (hb.block B h.lt).trans h
theorem own_block {B e s n : Nat} {a : Option Addr} {k c : Nat} {cs : List Value} {w : World} (h : w.ownsRow B e s (.slice a k c) n cs) : (Value.slice a k c).ownBlock = a.map (·.block) := by
  rcases h.2 with ⟨h1, _⟩ | ⟨g, cap, cur, h1, _⟩
  · cases h1; rfl
  · cases h1; rfl
theorem AccE.not_box {w : World} {B n c Bx : Nat} {a : Option Addr} {l : List Ent} {t : TypeId} {v : Value} (h : AccE w B a n c l) (hb : Boxed w Bx t v) (ht : t ≠ 57) : some Bx ≠ a.map (·.block) := by
  obtain ⟨cs, h1, _⟩ := h.row
  have := hb.not_row ht h1
  rwa [own_block h1] at this
theorem Boxed.evol {w w' : World} {B n c Bx : Nat} {a a' : Option Addr} {l : List Ent} {t : TypeId} {v : Value} (hb : Boxed w Bx t v) (h : AccE w B a n c l) (ht : t ≠ 57) (k : Evol w a w' a') : Boxed w' Bx t v :=
  hb.kept k.1 (h.not_box hb ht)
/-- What is no cells stays beside an append. -/
theorem AccE.keeps {w w' : World} {B n c : Nat} {a a' : Option Addr} {l : List Ent} (h : AccE w B a n c l) (k : Evol w a w' a') : KeepsOthers w w' := by
  refine KeepsOthers.of_grownBy k.1 fun j o ej hj => ?_
  obtain ⟨cs, h1, _⟩ := h.row
  rcases h1.2 with ⟨h2, _⟩ | ⟨g, cap, cur, h2, _, hgb, _⟩
  · cases h2; cases ej
  · cases h2
    obtain rfl : g = j := by simpa using ej
    rw [hgb] at hj; cases hj; rfl
theorem Row.setBox {w : World} {a : Option Addr} {cs : List Value} {Bx : Nat} {t : TypeId} {u v : Value} (h : Row w a cs) (hb : Boxed w Bx t u) (hu : ∀ x ∈ cs, x ≠ u) : Row (w.setCell ⟨Bx, 0, none⟩ v) a cs := by
  intro j x hx
  obtain ⟨b, off, rfl, hc⟩ := h j x hx
  refine ⟨b, off, rfl, ?_⟩
  by_cases e : b = Bx
  · subst e
    exfalso
    have h1 : w.heap[b]? = some (.cells #[u] t (0, 0)) := hb
    simp only [World.cell?, h1] at hc
    have : off + j = 0 := by
      rcases Nat.eq_zero_or_pos (off + j) with h | h
      · exact h
      · simp [Array.getElem?_eq_none (show (#[u] : Array Value).size ≤ off + j by simp; omega)] at hc
    rw [this] at hc
    simp at hc
    exact hu x (List.mem_of_getElem? hx) hc.symm
  · rw [← hc]
    exact World.cell?_of_block (Below.heap_setCell _ _ _ _ e)
theorem Bs.setBox {w : World} {a : Option Addr} {n c : Nat} {l : List UInt8} {Bx : Nat} {t : TypeId} {p : Option Addr} {m k : Nat} {v : Value} (h : Bs w a n c l) (hb : Boxed w Bx t (.slice p m k)) : Bs (w.setCell ⟨Bx, 0, none⟩ v) a n c l :=
  ⟨h.1, h.2.1, h.2.2.1, h.2.2.2.setBox hb (fun x hx e => by
    unfold vs at hx
    obtain ⟨b, _, rfl⟩ := List.mem_map.1 hx
    cases e)⟩
theorem AccE.setBox {w : World} {B n c Bx : Nat} {a : Option Addr} {l : List Ent} {t : TypeId} {p : Option Addr} {m k : Nat} {v : Value} (h : AccE w B a n c l) (hb : Boxed w Bx t (.slice p m k)) (ht : t ≠ 57) : AccE (w.setCell ⟨Bx, 0, none⟩ v) B a n c l := by
  obtain ⟨cs, h1, h2⟩ := h.row
  refine ⟨h.len, cs, h1.kept (grownBy_setCell' w Bx v) (.inr (hb.not_row ht h1).symm), fun i hi => ?_⟩
  obtain ⟨ai, ci, g1, g2, g3⟩ := h2 i hi
  exact ⟨ai, ci, g1, g2.setBox hb, g3⟩
theorem Boxed.other {w : World} {B B2 : Nat} {t : TypeId} {u v : Value} (h : Boxed w B t u) (hne : B2 ≠ B) : Boxed (w.setCell ⟨B2, 0, none⟩ v) B t u :=
  h.kept (grownBy_setCell' w B2 v) (by simp; omega)
/-- Behind the turn of a block that is no cells. -/
theorem Row.turned {W W' : World} {a : Option Addr} {cs : List Value} {row : Option Nat} (h : Row W a cs) (hg : W.grownBy W' row) (hr : ∀ r, row = some r → ∃ o : Obj, W.heap[r]? = some o ∧ o.isCells = false) : Row W' a cs := by
  intro j v hj
  obtain ⟨b, off, rfl, hc⟩ := h j v hj
  exact ⟨b, off, rfl, cell_kept hc hg hr⟩
theorem Bs.turned {W W' : World} {a : Option Addr} {n c : Nat} {l : List UInt8} {row : Option Nat} (h : Bs W a n c l) (hg : W.grownBy W' row) (hr : ∀ r, row = some r → ∃ o : Obj, W.heap[r]? = some o ∧ o.isCells = false) : Bs W' a n c l :=
  ⟨h.1, h.2.1, h.2.2.1, h.2.2.2.turned hg hr⟩
theorem own_turned {W W' : World} {B e s n : Nat} {v : Value} {cs : List Value} {row : Option Nat} (h : W.ownsRow B e s v n cs) (hg : W.grownBy W' row) (hr : ∀ r, row = some r → ∃ o : Obj, W.heap[r]? = some o ∧ o.isCells = false) : W'.ownsRow B e s v n cs := by
  refine h.kept hg ?_
  rcases h.2 with ⟨rfl, _⟩ | ⟨g, cap, cur, rfl, _, hgb, _⟩
  · exact .inl rfl
  · refine .inr fun e' => ?_
    obtain ⟨o, ho, hc⟩ := hr g (by simpa [Value.ownBlock] using e'.symm)
    rw [hgb] at ho; cases ho; cases hc
theorem AccE.turned {W W' : World} {B n c : Nat} {a : Option Addr} {l : List Ent} {row : Option Nat} (h : AccE W B a n c l) (hg : W.grownBy W' row) (hr : ∀ r, row = some r → ∃ o : Obj, W.heap[r]? = some o ∧ o.isCells = false) : AccE W' B a n c l := by
  obtain ⟨cs, h1, h2⟩ := h.row
  exact ⟨h.len, cs, own_turned h1 hg hr, fun i hi => by obtain ⟨ai, ci, g1, g2, g3⟩ := h2 i hi; exact ⟨ai, ci, g1, g2.turned hg hr, g3⟩⟩
theorem Boxed.turned {W W' : World} {B : Nat} {t : TypeId} {v : Value} {row : Option Nat} (h : Boxed W B t v) (hg : W.grownBy W' row) (hr : ∀ r, row = some r → ∃ o : Obj, W.heap[r]? = some o ∧ o.isCells = false) : Boxed W' B t v := by
  refine h.kept hg fun e' => ?_
  obtain ⟨o, ho, hc⟩ := hr B e'.symm
  rw [show W.heap[B]? = _ from h] at ho; cases ho; cases hc
theorem Es.turned {W W' : World} {n c : Nat} {a : Option Addr} {l : List Ent} {row : Option Nat} (h : Es W a n c l) (hg : W.grownBy W' row) (hr : ∀ r, row = some r → ∃ o : Obj, W.heap[r]? = some o ∧ o.isCells = false) : Es W' a n c l :=
  ⟨h.1, h.2.1, h.2.2.1, fun i hi => by
    obtain ⟨b, off, ai, ci, rfl, h2, h3⟩ := h.2.2.2 i hi
    exact ⟨b, off, ai, ci, rfl, ⟨cell_kept h2.key hg hr, cell_kept h2.seq hg hr, cell_kept h2.gone hg hr, cell_kept h2.val hg hr⟩, h3.turned hg hr⟩⟩
/-- A part of a slice of entries. -/
theorem Es.part {w : World} {a : Option Addr} {n c : Nat} {l : List Ent} (h : Es w a n c l) {lo hi mx : Nat} (h1 : lo ≤ hi) (h2 : hi ≤ n) (h3 : hi ≤ mx) (h4 : mx ≤ c) : Es w (subAn a mx lo 4) (hi - lo) (mx - lo) ((l.take hi).drop lo) := by
  have hl := h.1
  refine ⟨by simp; omega, by omega, by have := h.2.2.1; omega, fun i hi' => ?_⟩
  obtain ⟨b, off, ai, ci, rfl, g2, g3⟩ := h.2.2.2 (lo + i) (by omega)
  have e1 : nth ((l.take hi).drop lo) i = nth l (lo + i) := by
    rw [nth_eq _ (by simp; omega), nth_eq _ (by omega)]
    simp
  have e2 : subAn (some ⟨b, off, none⟩) mx lo 4 = some ⟨b, off + lo * 4, none⟩ := by
    unfold subAn
    rw [if_neg (by omega)]
    simp [Addr.add_lit]
  refine ⟨b, off + lo * 4, ai, ci, e2, ?_, ?_⟩
  · rw [e1, show off + lo * 4 + i * 4 = off + (lo + i) * 4 by omega]; exact g2
  · rw [e1]; exact g3
end Go.Proofs.Ytlipgaefflecaaa
end

section
set_option maxRecDepth 100000
set_option linter.unusedSimpArgs false
namespace Go.Proofs.Ytlipgaefflecaaa
open Go.RowKit
set_option linter.unusedVariables false

theorem cmp_neg (x y : Ent) : decide (Ent.cmp x y < 0) = decide (Ent.cmp x y = -1) := by
  rcases Ent.cmp_cases x y with h | h | h <;> rw [h] <;> rfl
theorem load_box (w : World) (x : Ent) (a : Option Addr) (c : Nat) : EntAt (w.alloc (.cells #[.string (bstr x.key), .int .u64 x.seq, .bool x.gone, .slice a x.val.length c] 57)) w.heap.size 0 x a c :=
  ⟨cell_of_row _ _ 0 #[.string (bstr x.key), .int .u64 x.seq, .bool x.gone, .slice a x.val.length c] 57 (0, 0) (heap_alloc_new w _), cell_of_row _ _ 1 #[.string (bstr x.key), .int .u64 x.seq, .bool x.gone, .slice a x.val.length c] 57 (0, 0) (heap_alloc_new w _),
   cell_of_row _ _ 2 #[.string (bstr x.key), .int .u64 x.seq, .bool x.gone, .slice a x.val.length c] 57 (0, 0) (heap_alloc_new w _), cell_of_row _ _ 3 #[.string (bstr x.key), .int .u64 x.seq, .bool x.gone, .slice a x.val.length c] 57 (0, 0) (heap_alloc_new w _)⟩
set_option maxHeartbeats 1000000 in
theorem right1_any (x y : Ent) (ax ay : Option Addr) (cx cy : Nat) (w : World) :
    Calls Try.prog 43 #[ev x ax cx, ev y ay cy] w fun e w' => e = .returned (.bool (decide (Ent.cmp x y = -1))) ∧ Below w.heap.size w w' := by
  rw [← cmp_neg]
  have hc := fun W => cmp_any x y ax ay cx cy W
  unfold ev at hc ⊢
  have hb := two_boxes w (.cells #[.string (bstr x.key), .int .u64 x.seq, .bool x.gone, .slice ax x.val.length cx] 57) (.cells #[.string (bstr y.key), .int .u64 y.seq, .bool y.gone, .slice ay y.val.length cy] 57)
  have HB := Lib.hid hb
  have HC := Lib.hid hc
  clear hb hc
  go_enter Try.func43, Try.ntmps43
  go_wp2_with fail
  refine (HC.out _).mono ?_
  rintro e w1 ⟨rfl, hb1⟩
  have HB1 := Lib.hid (HB.out.trans (hb1.mono HB.out.size))
  clear hb1
  go_wp2
  go_ret
  exact ⟨rfl, HB1.out⟩
/-- Each two that stand side by side are in order. -/
def Ent.adj (l : List Ent) (k : Nat) : Prop := ∀ i, 1 ≤ i → i < k → Ent.cmp (nth l (i - 1)) (nth l i) = -1
instance (l : List Ent) (k : Nat) : Decidable (Ent.adj l k) := decidable_of_iff (∀ i, i < k → 1 ≤ i → Ent.cmp (nth l (i - 1)) (nth l i) = -1) ⟨fun h i h1 h2 => h i h2 h1, fun h i h1 h2 => h i h2 h1⟩
set_option maxHeartbeats 4000000 in
theorem pairs_any (a : Option Addr) (n c : Nat) (l : List Ent) (w : World) (h : Es w a n c l) :
    Calls Try.prog 42 #[.slice a n c, .func (.func 43) #[] #[]] w fun e w' => e = .returned (.bool (decide (Ent.adj l n))) ∧ Below w.heap.size w w' := by
  have hle := h.le.1
  have HE := Lib.hid h
  have eg : ∀ (args : Array Value) (w : World), (callFunc 43 args).run Try.prog w = .ok (.enter 43 args) w := enters_of Try.func43 (by kernel_rfl) rfl
  clear h
  go_enter Try.func42, Try.ntmps42
  go_wp2
  go_loopw [5] (fun i wr => ∃ k : Nat, 1 ≤ k ∧ (k ≤ n ∨ k = 1) ∧ i = .int .i64 k ∧ Below w.heap.size w wr ∧ Hid (Ent.adj l k)) (fun i _ => n - (intOf i).toNat)
  case atStart => exact ⟨1, Nat.le_refl _, .inr rfl, rfl, Below.refl _ _, Lib.hid (fun i h1 h2 => by omega)⟩
  case round =>
    obtain ⟨k, hk1, hk, rfl, hb, hall⟩ := hrel
    by_cases hlt : k < n
    · obtain ⟨b1, o1, a1, d1, rfl, he1, hv1⟩ := (HE.out.below hb).vals (i := k - 1) (by omega)
      obtain ⟨b2, o2, a2, d2, e2, he2, hv2⟩ := (HE.out.below hb).vals hlt
      cases e2
      obtain ⟨j, rfl⟩ : ∃ j, k = j + 1 := ⟨k - 1, by omega⟩
      have ej : j + 1 - 1 = j := by omega
      rw [ej] at he1 hv1
      have z1 : IntKind.i64.wrap (((j + 1 : Nat) : Int) - 1) = (j : Int) := by rw [IntKind.wrap_i64]; omega
      have p1 := he1.key
      have p2 := he1.seq
      have p3 := he1.gone
      have p4 := he1.val
      have q1 := he2.key
      have q2 := he2.seq
      have q3 := he2.gone
      have q4 := he2.val
      have HB := Lib.hid hb
      clear he1 he2 hv1 hv2 hb ej
      have z2 : (0 : Int) ≤ (j : Int) := by omega
      by_cases hc : Ent.cmp (nth l j) (nth l (j + 1)) = -1
      · have hsm : ∀ W : World, Calls Try.prog 43 #[ev (nth l j) a1 d1, ev (nth l (j + 1)) a2 d2] W fun e w' => e = .returned (.bool true) ∧ Below W.heap.size W w' := fun W => by
          have := right1_any (nth l j) (nth l (j + 1)) a1 a2 d1 d2 W
          rwa [decide_eq_true hc] at this
        have HSM := Lib.hid hsm
        have HC := Lib.hid hc
        clear hc hsm
        go_wp2_with fail
        refine wp_region_class (w0 := wr) (by kernel_rfl) (by kernel_rfl) (Below.refl _ _) ?_
        have m1 := BW.cell p1
        have m2 := BW.cell p2
        have m3 := BW.cell p3
        have m4 := BW.cell p4
        have n1 := BW.cell q1
        have n2 := BW.cell q2
        have n3 := BW.cell q3
        have n4 := BW.cell q4
        repeat (first | go_big_quiet_step ((exact calls_class (HSM.out _))))
        refine wpQuiet_nil ?_
        intro w1 hb1; replace hb1 := BW.of hb1
        have HB1 := Lib.hid (HB.out.trans (hb1.mono HB.out.size))
        clear hb1 m1 m2 m3 m4 n1 n2 n3 n4
        go_wp2
        go_roundw
        case rel => exact ⟨j + 1 + 1, by omega, .inl (by omega), by go_num, HB1.out, Lib.hid (fun i h1 h2 => by
          by_cases e : i = j + 1
          · rw [e]; exact HC.out
          · exact hall.out i h1 (by omega))⟩
        case measure => simp [intOf]; omega
      · have hsm : ∀ W : World, Calls Try.prog 43 #[ev (nth l j) a1 d1, ev (nth l (j + 1)) a2 d2] W fun e w' => e = .returned (.bool false) ∧ Below W.heap.size W w' := fun W => by
          have := right1_any (nth l j) (nth l (j + 1)) a1 a2 d1 d2 W
          rwa [decide_eq_false hc] at this
        have HSM := Lib.hid hsm
        have E := Lib.hid (decide_eq_false (show ¬ Ent.adj l n from fun e => hc (e (j + 1) (by omega) hlt)))
        clear hc hsm
        go_wp2_with fail
        refine wp_region_class (w0 := wr) (by kernel_rfl) (by kernel_rfl) (Below.refl _ _) ?_
        have m1 := BW.cell p1
        have m2 := BW.cell p2
        have m3 := BW.cell p3
        have m4 := BW.cell p4
        have n1 := BW.cell q1
        have n2 := BW.cell q2
        have n3 := BW.cell q3
        have n4 := BW.cell q4
        repeat (first | go_big_quiet_step ((exact calls_class (HSM.out _))))
        refine wpQuiet_nil ?_
        intro w1 hb1; replace hb1 := BW.of hb1
        have HB1 := Lib.hid (HB.out.trans (hb1.mono HB.out.size))
        clear hb1 m1 m2 m3 m4 n1 n2 n3 n4
        go_wp2
        go_ret
        exact ⟨by rw [E.out]; rfl, HB1.out⟩
    · have E := Lib.hid (decide_eq_true (show Ent.adj l n from fun i h1 h2 => hall.out i h1 (by omega)))
      have HB := Lib.hid hb
      have t : decide (k < n) = false := decide_eq_false hlt
      clear hb hlt
      go_wp2
      go_ret
      exact ⟨by rw [E.out]; rfl, HB.out⟩
end Go.Proofs.Ytlipgaefflecaaa
end
