/- Words for memory that is read, and for rows that a call owns; the law for append over both. No program in sight. -/
import Derived.WalkKit
import Derived.WalkSpells
import Derived.WalkLawsBesides
import Derived.Handy
import Derived.Deep.AppendSrc
import Derived.Deep.Upon
set_option linter.unusedVariables false
set_option linter.unusedSimpArgs false
section
set_option linter.unusedVariables false
namespace Go.Proofs.YtfgifndpglgjkaaGreatDoor
set_option linter.unusedSimpArgs false
open Go.RowKit

/-- From 'a' on the cells 'cs' are read. -/
def Row (w : World) (a : Option Addr) (cs : List Value) : Prop :=
  ∀ j v, cs[j]? = some v → ∃ b off, a = some ⟨b, off, none⟩ ∧ w.cell? ⟨b, off + j, none⟩ = some v

theorem le_alloc {w : World} {B : Nat} {o : Obj} (h : B ≤ w.heap.size) : B ≤ (w.alloc o).heap.size := by simp; omega

theorem Row.nil (w : World) (a : Option Addr) : Row w a [] := by intro j v h; simp at h

theorem Row.below {w w' : World} {a : Option Addr} {cs : List Value} (h : Row w a cs) (hb : Below w.heap.size w w') : Row w' a cs := by
  intro j v hv
  obtain ⟨b, off, rfl, hc⟩ := h j v hv
  exact ⟨b, off, rfl, cell_later hb hc⟩

theorem Row.alloc {w : World} {a : Option Addr} {cs : List Value} (h : Row w a cs) (o : Obj) : Row (w.alloc o) a cs :=
  h.below ((Below.refl _ _).alloc (Nat.le_refl _) o)

theorem Row.grown {w w' : World} {a : Option Addr} {cs : List Value} {row : Option Nat} (h : Row w a cs) (hg : w.grownBy w' row) (hne : ∀ x, a = some x → some x.block ≠ row) : Row w' a cs := by
  intro j v hv
  obtain ⟨b, off, rfl, hc⟩ := h j v hv
  exact ⟨b, off, rfl, hg.cell hc (hne ⟨b, off, none⟩ rfl)⟩

theorem Row.new (w : World) (cs : Array Value) (t : TypeId) : Row (w.alloc (.cells cs t)) (some ⟨w.heap.size, 0, none⟩) cs.toList := by
  intro j v hv
  refine ⟨w.heap.size, 0, rfl, ?_⟩
  rw [cell_of_row _ _ _ cs t (0, 0) (heap_alloc_new w _)]
  simpa using hv

theorem Row.of_own {w : World} {B e s n : Nat} {a : Option Addr} {k c : Nat} {cs : List Value} (h : w.ownsRow B e s (.slice a k c) n cs) : Row w a cs := by
  intro j v hv
  rcases h.2 with ⟨h1, h2⟩ | ⟨g, cap, cur, h1, _⟩
  · have := h.1
    subst h2
    simp at this
    subst this
    simp at hv
  · cases h1
    have := h.cells (g := g) rfl j v hv
    rw [Addr.add_lit] at this
    exact ⟨g, 0, rfl, this⟩

theorem own_shape {w : World} {B e s n : Nat} {v : Value} {cs : List Value} (h : w.ownsRow B e s v n cs) : ∃ a c, v = .slice a n c ∧ n ≤ c ∧ c ≤ maxLen := by
  rcases h.2 with ⟨rfl, rfl⟩ | ⟨g, cap, cur, rfl, _, _, h1, h2, _⟩
  · exact ⟨none, 0, rfl, Nat.le_refl _, by simp [maxLen]⟩
  · exact ⟨_, cap, rfl, h1, h2⟩

theorem own_cap {w : World} {B e s n k c : Nat} {a : Option Addr} {cs : List Value} (h : w.ownsRow B e s (.slice a k c) n cs) : k = n ∧ n ≤ c ∧ c ≤ maxLen := by
  obtain ⟨a', c', h1, h2⟩ := own_shape h
  cases h1
  exact ⟨rfl, h2⟩

theorem own_mono {w : World} {B B' e s n : Nat} {v : Value} {cs : List Value} (h : w.ownsRow B e s v n cs) (hB : B' ≤ B) : w.ownsRow B' e s v n cs := by
  refine ⟨h.1, ?_⟩
  rcases h.2 with h | ⟨g, cap, cur, h1, h2, h3⟩
  · exact .inl h
  · exact .inr ⟨g, cap, cur, h1, by omega, h3⟩

/-- An owned row stays where the world changes below its base alone, or elsewhere. -/
theorem own_below {w w' : World} {B e s n : Nat} {v : Value} {cs : List Value} (h : w.ownsRow B e s v n cs) (hb : Below w.heap.size w w') : w'.ownsRow B e s v n cs := by
  refine ⟨h.1, ?_⟩
  rcases h.2 with h | ⟨g, cap, cur, h1, h2, h3, h4⟩
  · exact .inl h
  · exact .inr ⟨g, cap, cur, h1, h2, by rw [hb.block g (Array.getElem?_eq_some_iff.1 h3).1]; exact h3, h4⟩

/-- The row of a subslice. -/
theorem Row.drop {w : World} {a : Option Addr} {cs : List Value} (h : Row w a cs) (k : Nat) : Row w (a.map fun x => x.add k) (cs.drop k) := by
  intro j v hv
  rw [List.getElem?_drop] at hv
  obtain ⟨b, off, rfl, hc⟩ := h _ v hv
  exact ⟨b, off + k, by simp [Addr.add_lit], by rw [Nat.add_assoc]; exact hc⟩

theorem Row.take {w : World} {a : Option Addr} {cs : List Value} (h : Row w a cs) (k : Nat) : Row w a (cs.take k) := by
  intro j v hv
  rw [List.getElem?_take] at hv
  split at hv
  · exact h j v hv
  · cases hv

theorem Row.dropIf {w : World} {a : Option Addr} {cs : List Value} (h : Row w a cs) (k c : Nat) (hc : cs.length ≤ c) : Row w (if c = k then a else a.map fun x => x.add k) (cs.drop k) := by
  split
  · rw [List.drop_eq_nil_of_le (by omega)]; exact Row.nil _ _
  · exact h.drop k

/-- The address of 's[k:]': at k = cap(s) it stays. A plain definition: the walk does not part on it. -/
def subA (a : Option Addr) (c k : Nat) : Option Addr := if c = k then a else a.map fun x => x.add k
def subAn (a : Option Addr) (c k s : Nat) : Option Addr := if c = k then a else a.map fun x => x.add (k * s)
theorem subAn_one (a : Option Addr) (c k : Nat) : subAn a c k 1 = subA a c k := by simp [subAn, subA]
theorem Row.subA {w : World} {a : Option Addr} {cs : List Value} (h : Row w a cs) (k c : Nat) (hc : cs.length ≤ c) : Row w (subA a c k) (cs.drop k) := h.dropIf k c hc

section
variable {P : Program}
theorem run_sliceBound (k : Nat) (c : Nat) (code : BoundsCode) (h : k ≤ c) (w : World) : (Instr.sliceBound (.int .i64 (k : Int)) c code).run P w = .ok k w := by
  have g : (0 : Int) ≤ (k : Int) ∧ (k : Int) ≤ (c : Int) := by omega
  simp [Instr.sliceBound, asIntOf, h]
/-- 's[lo:hi]' of a slice. -/
theorem run_slice_lh {t e : TypeId} {i : TypeInfo} {s : Nat} (ht : P.underlying t = some (.slice e)) (hi : P.info? e = some i) (hs : i.size = s) (a : Option Addr) (n c : Nat) {lo hi : Int} {lo' hi' : Nat} (hlo : lo = lo') (hhi : hi = hi') (h1 : lo' ≤ hi') (h2 : hi' ≤ c) (w : World) :
    (Instr.slice t (.slice a n c) (some (.int .i64 lo)) (some (.int .i64 hi)) none).run P w = .ok (.slice (subAn a c lo' s) (hi' - lo') (c - lo')) w := by
  subst hlo hhi hs
  simp [Instr.slice, run_underlying ht, sizeOf, typeInfo, hi, Instr.sliceBounds, run_sliceBound, subAn, h1, h2]
/-- 's[lo:]'. -/
theorem run_slice_l {t e : TypeId} {i : TypeInfo} {s : Nat} (ht : P.underlying t = some (.slice e)) (hi : P.info? e = some i) (hs : i.size = s) (a : Option Addr) (n c : Nat) {lo : Int} {lo' : Nat} (hlo : lo = lo') (h1 : lo' ≤ n) (w : World) :
    (Instr.slice t (.slice a n c) (some (.int .i64 lo)) none none).run P w = .ok (.slice (subAn a c lo' s) (n - lo') (c - lo')) w := by
  subst hlo hs
  simp [Instr.slice, run_underlying ht, sizeOf, typeInfo, hi, Instr.sliceBounds, run_sliceBound, subAn, h1]
/-- 's[:hi]'. -/
theorem run_slice_h {t e : TypeId} {i : TypeInfo} {s : Nat} (ht : P.underlying t = some (.slice e)) (hi : P.info? e = some i) (hs : i.size = s) (a : Option Addr) (n c : Nat) {hi : Int} {hi' : Nat} (hhi : hi = hi') (h2 : hi' ≤ c) (w : World) :
    (Instr.slice t (.slice a n c) none (some (.int .i64 hi)) none).run P w = .ok (.slice a hi' c) w := by
  subst hhi hs
  simp [Instr.slice, run_underlying ht, sizeOf, typeInfo, hi, Instr.sliceBounds, run_sliceBound, h2]
  intro _; cases a <;> simp [Addr.add_zero']
/-- 's[lo:hi:max]'. -/
theorem run_slice_lhm {t e : TypeId} {i : TypeInfo} {s : Nat} (ht : P.underlying t = some (.slice e)) (hi : P.info? e = some i) (hs : i.size = s) (a : Option Addr) (n c : Nat) {lo hi mx : Int} {lo' hi' mx' : Nat} (hlo : lo = lo') (hhi : hi = hi') (hmx : mx = mx') (h1 : lo' ≤ hi') (h2 : hi' ≤ mx') (h3 : mx' ≤ c) (w : World) :
    (Instr.slice t (.slice a n c) (some (.int .i64 lo)) (some (.int .i64 hi)) (some (.int .i64 mx))).run P w = .ok (.slice (subAn a mx' lo' s) (hi' - lo') (mx' - lo')) w := by
  subst hlo hhi hmx hs
  simp [Instr.slice, run_underlying ht, sizeOf, typeInfo, hi, Instr.sliceBounds, run_sliceBound, subAn, h1, h2, h3]
end

section
variable {P : Program}

/-- There is no room: whatever slice is read, the result lies in a new block. -/
theorem run_append_new (w : World) (t ty e : Nat) (i : TypeInfo) (z : Value) (ht : P.underlying t = some (.slice e)) (hi : P.info? e = some i) (hz : i.zero = some z)
    (hzs : z.cells.size = i.size) (hsz : 0 < i.size) (a : Option Addr) (n cap : Nat) (xs : List Value) (hrow : Row w a xs) (hxl : xs.length = n * i.size) (hcap : a = none → cap = 0)
    (ax : Option Addr) (m c : Nat) (news : List Value) (hl : news.length = m * i.size) (hr : Row w ax news) (hm : 0 < m) (hroom : cap < n + m) (hnc : n ≤ cap)
    (hbytes : (n + m) * i.bytes ≤ 140737488355328) (h63 : n + m ≤ maxLen) :
    ∃ c' w', (Builtin.append_ #[t, t] ty #[.slice a n cap, .slice ax m c]).run P w = .ok (.slice (some ⟨w.heap.size, 0, none⟩) (n + m) c') w' ∧
      (∀ B, B ≤ w.heap.size → w'.ownsRow B e i.size (.slice (some ⟨w.heap.size, 0, none⟩) (n + m) c') (n + m) (xs ++ news)) ∧ ∀ row, w.grownBy w' row := by
  obtain ⟨u, hu⟩ : ∃ u, news[0]? = some u := by
    cases news with
    | nil =>
      rcases Nat.mul_eq_zero.1 hl.symm with h | h <;> omega
    | cons u _ => exact ⟨u, rfl⟩
  obtain ⟨b, off, rfl, _⟩ := hr 0 u hu
  have hnews : ∀ j x, news[j]? = some x → w.cell? ((⟨b, off, none⟩ : Addr).add j) = some x :=
    fun j x hx => by obtain ⟨b', off', h, h'⟩ := hr j x hx; cases h; rw [Addr.add_lit]; exact h'
  have hsmall : n + m ≤ 9223372036854775807 := by simp only [maxLen] at h63; omega
  have hlen : (xs ++ news).length = (n + m) * i.size := by rw [List.length_append, hxl, hl, Nat.add_mul]
  have hge := grownCap_ge w (n + m) cap e
  have hcm : grownCap w (n + m) cap e ≤ maxLen := grownCap_le_maxLen w (n + m) cap e h63
  have hrun : (Builtin.append_ #[t, t] ty #[.slice a n cap, .slice (some ⟨b, off, none⟩) m c]).run P w =
      .ok (.slice (some ⟨w.heap.size, 0, none⟩) (n + m) (grownCap w (n + m) cap e)) (w.drew.alloc (.cells (xs.toArray ++ news.toArray ++ Builtin.zeroCells z.cells (grownCap w (n + m) cap e - (n + m))) e)) := by
    cases a with
    | none =>
      obtain rfl := hcap rfl
      obtain rfl : n = 0 := by omega
      obtain rfl : xs = [] := List.eq_nil_of_length_eq_zero (by simpa using hxl)
      have := run_append_nil (P := P) w t ty e i z ht hi hz ⟨b, off, none⟩ m c news hl hnews (by omega) (by omega) (by have := hbytes; simp only [Nat.zero_add] at this; omega)
      simpa using this
    | some ad =>
      refine run_append_grow (P := P) w t ty e i z ht hi hz ad n cap xs hxl ?_ ⟨b, off, none⟩ m c news hl hnews hroom (by omega) (growslice_fits (by omega) hbytes)
      intro j y hy
      obtain ⟨b', off', h, h'⟩ := hrow j y hy
      cases h
      rw [Addr.add_lit]
      exact h'
  refine ⟨_, _, hrun, fun B hB => ⟨hlen, .inr ⟨w.heap.size, _, _, rfl, hB, heap_alloc_new w.drew _, hge, hcm, ?_, ?_⟩⟩, fun row => ⟨rfl, rfl, rfl, by simp, fun k hk _ => Below.heap_alloc w.drew _ k hk⟩⟩
  · simp only [Array.size_append, List.size_toArray, size_zeroCells, hzs, hxl, hl, ← Nat.add_mul]
    congr 1
    omega
  · simp only [Array.toList_append, List.append_assoc]
    rw [← List.append_assoc, ← hlen]
    exact List.take_left

/-- How a slice that is appended to comes along: only its own block may be written; it lies there still, or in a new block. -/
def Evol (w : World) (a : Option Addr) (w' : World) (a' : Option Addr) : Prop :=
  w.grownBy w' (a.map (·.block)) ∧ ∀ x, a' = some x → a.map (·.block) = some x.block ∨ w.heap.size ≤ x.block
theorem Evol.refl (w : World) (a : Option Addr) : Evol w a w a := ⟨⟨rfl, rfl, rfl, Nat.le_refl _, fun _ _ _ => rfl⟩, fun x hx => .inl (by rw [hx]; rfl)⟩
theorem Evol.alloc (w : World) (a : Option Addr) (o : Obj) : Evol w a (w.alloc o) a := ⟨World.grownBy_alloc w o _, fun x hx => .inl (by rw [hx]; rfl)⟩
theorem Evol.of_below {w w' : World} {a : Option Addr} (h : Below w.heap.size w w') : Evol w a w' a :=
  ⟨⟨h.os, h.tape, h.output, h.size, fun k hk _ => h.block k hk⟩, fun x hx => .inl (by rw [hx]; rfl)⟩
theorem Evol.trans {w w1 w2 : World} {a a1 a2 : Option Addr} (h : Evol w a w1 a1) (k : Evol w1 a1 w2 a2) : Evol w a w2 a2 := by
  refine ⟨⟨k.1.os.trans h.1.os, k.1.tape.trans h.1.tape, k.1.output.trans h.1.output, Nat.le_trans h.1.size k.1.size, fun j hj hne => ?_⟩, fun x hx => ?_⟩
  · rw [k.1.block j (Nat.lt_of_lt_of_le hj h.1.size) ?_]
    · exact h.1.block j hj hne
    · intro e
      cases a1 with
      | none => cases e
      | some y =>
        have e' : j = y.block := by simpa using e
        rcases h.2 y rfl with h' | h'
        · exact hne (by rw [h', e'])
        · omega
  · rcases k.2 x hx with h' | h'
    · cases a1 with
      | none => cases h'
      | some y =>
        have e' : y.block = x.block := by simpa using h'
        rcases h.2 y rfl with h2 | h2
        · exact .inl (by rw [h2, e'])
        · exact .inr (by omega)
    · exact .inr (Nat.le_trans h.1.size h')
theorem Row.evol {w w' : World} {a a' ax : Option Addr} {cs : List Value} (h : Row w ax cs) (k : Evol w a w' a') (hne : 0 < cs.length → ∀ y x, ax = some y → a = some x → y.block ≠ x.block) : Row w' ax cs := by
  cases cs with
  | nil => exact Row.nil _ _
  | cons c cs =>
    refine h.grown k.1 ?_
    intro x hx e
    cases a with
    | none => cases e
    | some y => exact hne (by simp) x y hx rfl (by simpa using e)
theorem Evol.below {w w' : World} {a a' : Option Addr} {B : Nat} (k : Evol w a w' a') (hB : B ≤ w.heap.size) (ha : ∀ x, a = some x → B ≤ x.block) : Below B w w' :=
  (Below.refl _ _).grown k.1 hB (fun j hj => by
    cases a with
    | none => cases hj
    | some y => have := ha y rfl; have e : y.block = j := by simpa using hj
                omega)

/-- append onto a row of the call's own, out of whatever slice. -/
theorem run_append_own' (w : World) (B t ty e : Nat) (i : TypeInfo) (z : Value) (size bytes : Nat) (ht : P.underlying t = some (.slice e)) (hi : P.info? e = some i) (hz : i.zero = some z)
    (hsize : i.size = size) (hby : i.bytes = bytes) (hzs : z.cells.size = size) (hsz : 0 < size)
    (a : Option Addr) (n cap : Nat) (xs : List Value) (hown : w.ownsRow B e size (.slice a n cap) n xs)
    (ax : Option Addr) (m c : Nat) (news : List Value) (hl : news.length = m * size) (hr : Row w ax news) (h1 : ∀ u ∈ news, u.oneCell' = true)
    (hbytes : (n + m) * bytes ≤ 140737488355328) (h63 : n + m ≤ maxLen) (hbase : B ≤ w.heap.size) :
    ∃ a' c' w', (Builtin.append_ #[t, t] ty #[.slice a n cap, .slice ax m c]).run P w = .ok (.slice a' (n + m) c') w' ∧ w'.ownsRow B e size (.slice a' (n + m) c') (n + m) (xs ++ news) ∧ Evol w a w' a' := by
  by_cases hm : m = 0
  · subst hm
    have hn : news = [] := List.eq_nil_of_length_eq_zero (by simpa using hl)
    subst hn
    obtain ⟨_, hle, _⟩ := own_cap hown
    have hs : Src P i.size t (.slice ax 0 c) 0 [] w := by
      cases ax with
      | none => exact Src.ofNil w ht c
      | some ad => exact Src.ofSlice w ht ad 0 c [] (by simp) (by intro j u h; simp at h) (by intro u h; cases h)
    exact ⟨a, cap, w, run_append_nothing w t t ty e i ht hi a n cap hle _ hs, by simpa using hown, Evol.refl _ _⟩
  · subst hsize
    subst hby
    have hcap := own_cap hown
    by_cases hroom : n + m ≤ cap
    · rcases hown.2 with ⟨h0, h0'⟩ | ⟨g, cap', cur, h0, hbg, hg, hnc, hcm, hcs, htake⟩
      · cases h0; omega
      · cases h0
        obtain ⟨u, hu⟩ : ∃ u, news[0]? = some u := by
          cases news with
          | nil =>
            rcases Nat.mul_eq_zero.1 hl.symm with h | h <;> omega
          | cons u _ => exact ⟨u, rfl⟩
        obtain ⟨b, off, rfl, _⟩ := hr 0 u hu
        have hnews : ∀ j x, news[j]? = some x → w.cell? ((⟨b, off, none⟩ : Addr).add j) = some x :=
          fun j x hx => by obtain ⟨b', off', h, h'⟩ := hr j x hx; cases h; rw [Addr.add_lit]; exact h'
        have hlen : (xs ++ news).length = (n + m) * i.size := by rw [List.length_append, hown.1, hl, Nat.add_mul]
        have hfit : n * i.size + news.length ≤ cur.size := by rw [hl, hcs, ← Nat.add_mul]; exact Nat.mul_le_mul_right _ hroom
        have hrun := run_append_room (P := P) w t ty e i ht hi g n cap cur hg ⟨b, off, none⟩ m c news hl hnews h1 hroom hfit
        refine ⟨_, _, _, hrun, ⟨hlen, .inr ⟨g, cap, _, rfl, hbg, setRow_heap w g cur _ e _ hg, hroom, hcm, ?_, ?_⟩⟩, ⟨rfl, rfl, rfl, by simp, fun k _ hk => setRow_other w g k _ (fun e => hk (by simp [e]))⟩, fun x hx => .inl (by cases hx; rfl)⟩
        · simp only [List.size_toArray, List.length_append, List.length_take, List.length_drop, Array.length_toList]
          omega
        · rw [htake, ← hlen]
          exact List.take_left
    · obtain ⟨c', w', h2, h3, h4⟩ := run_append_new w t ty e i z ht hi hz hzs hsz a n cap xs (Row.of_own hown) hown.1 (by
        intro ha
        rcases hown.2 with ⟨h0, _⟩ | ⟨g, cap', cur, h0, _⟩
        · cases h0; rfl
        · cases h0; cases ha) ax m c news hl hr (by omega) (by omega) hcap.2.1 hbytes h63
      exact ⟨_, c', w', h2, h3 B hbase, h4 _, fun x hx => by cases hx; exact .inr (Nat.le_refl _)⟩

/-- What may be appended to without a store into what was there: a row of the call's own, or a slice that is full. -/
def App (w : World) (B e size : Nat) (v : Value) (n : Nat) (cs : List Value) : Prop :=
  w.ownsRow B e size v n cs ∨ (∃ a, v = .slice a n n ∧ Row w a cs ∧ cs.length = n * size ∧ n ≤ maxLen)

theorem App.shape {w : World} {B e s n : Nat} {v : Value} {cs : List Value} (h : App w B e s v n cs) : ∃ a c, v = .slice a n c ∧ n ≤ c ∧ c ≤ maxLen := by
  rcases h with h | ⟨a, rfl, _, _, h⟩
  · exact own_shape h
  · exact ⟨a, n, rfl, Nat.le_refl _, h⟩

theorem App.below {w w' : World} {B e s n : Nat} {v : Value} {cs : List Value} (h : App w B e s v n cs) (hb : Below w.heap.size w w') : App w' B e s v n cs := by
  rcases h with h | ⟨a, rfl, h, h'⟩
  · exact .inl (own_below h hb)
  · exact .inr ⟨a, rfl, h.below hb, h'⟩

theorem App.row {w : World} {B e s n k c : Nat} {a : Option Addr} {cs : List Value} (h : App w B e s (.slice a k c) n cs) : Row w a cs := by
  rcases h with h | ⟨a', h1, h2, _⟩
  · exact Row.of_own h
  · cases h1; exact h2

theorem App.cap {w : World} {B e s n k c : Nat} {a : Option Addr} {cs : List Value} (h : App w B e s (.slice a k c) n cs) : k = n ∧ n ≤ c ∧ c ≤ maxLen := by
  obtain ⟨a', c', h1, h2⟩ := h.shape
  cases h1
  exact ⟨rfl, h2⟩

theorem run_append_app (w : World) (B t ty e : Nat) (i : TypeInfo) (z : Value) (size bytes : Nat) (ht : P.underlying t = some (.slice e)) (hi : P.info? e = some i) (hz : i.zero = some z)
    (hsize : i.size = size) (hby : i.bytes = bytes) (hzs : z.cells.size = size) (hsz : 0 < size)
    (a : Option Addr) (n cap : Nat) (xs : List Value) (happ : App w B e size (.slice a n cap) n xs)
    (ax : Option Addr) (m c : Nat) (news : List Value) (hl : news.length = m * size) (hr : Row w ax news) (h1 : ∀ u ∈ news, u.oneCell' = true)
    (hbytes : (n + m) * bytes ≤ 140737488355328) (h63 : n + m ≤ maxLen) (hbase : B ≤ w.heap.size) :
    ∃ a' c' w', (Builtin.append_ #[t, t] ty #[.slice a n cap, .slice ax m c]).run P w = .ok (.slice a' (n + m) c') w' ∧ App w' B e size (.slice a' (n + m) c') (n + m) (xs ++ news) ∧
      (0 < m → w'.ownsRow B e size (.slice a' (n + m) c') (n + m) (xs ++ news)) ∧ Below B w w' ∧ Evol w a w' a' := by
  rcases happ with hown | ⟨a0, h0, hrow, hxl, hnm⟩
  · obtain ⟨a', c', w', h2, h3, h4⟩ := run_append_own' w B t ty e i z size bytes ht hi hz hsize hby hzs hsz a n cap xs hown ax m c news hl hr h1 hbytes h63 hbase
    exact ⟨a', c', w', h2, .inl h3, fun _ => h3, h4.below hbase (fun x hx => by
      subst hx; exact (hown.lt x.block rfl).1), h4⟩
  · cases h0
    by_cases hm : m = 0
    · subst hm
      have hn : news = [] := List.eq_nil_of_length_eq_zero (by simpa using hl)
      subst hn
      have hs : Src P i.size t (.slice ax 0 c) 0 [] w := by
        cases ax with
        | none => exact Src.ofNil w ht c
        | some ad => exact Src.ofSlice w ht ad 0 c [] (by simp) (by intro j u h; simp at h) (by intro u h; cases h)
      refine ⟨a, n, w, run_append_nothing w t t ty e i ht hi a n n (Nat.le_refl _) _ hs, .inr ⟨a, rfl, by simpa using hrow, by simpa using hxl, hnm⟩, fun h => absurd h (by omega), Below.refl _ _, Evol.refl _ _⟩
    · subst hsize
      subst hby
      obtain ⟨c', w', h2, h3, h4⟩ := run_append_new w t ty e i z ht hi hz hzs hsz a n n xs hrow hxl (by
        intro ha
        subst ha
        cases xs with
        | nil => rcases Nat.mul_eq_zero.1 hxl.symm with h | h <;> omega
        | cons x xs => obtain ⟨_, _, h, _⟩ := hrow 0 x rfl; cases h) ax m c news hl hr (by omega) (by omega) (Nat.le_refl _) hbytes h63
      exact ⟨_, c', w', h2, .inl (h3 B hbase), fun _ => h3 B hbase, (Below.refl _ _).grown (h4 none) hbase (fun k hk => by cases hk), h4 _, fun x hx => by cases hx; exact .inr (Nat.le_refl _)⟩

/-- append to a row of the call's own, as a step of the walk. -/
theorem wpList_app_own {w : World} {ops : Array Oper} {rest : List Oper} {o : Oper} {a : Act} {Q : Exit → Act → World → Prop} (hgd : Region.wanted o (yielded ops a.tmps) = true) (s x : Operand) (t : TypeId)
    (ho : o.op = .call { callee := .builtin .append, args := #[s, x], argTypes := #[t, t] })
    (B e : Nat) (i : TypeInfo) (z : Value) (size bytes : Nat) (ht : P.underlying t = some (.slice e)) (hi : P.info? e = some i) (hz : i.zero = some z)
    (hsize : i.size = size) (hby : i.bytes = bytes) (hzs : z.cells.size = size) (hsz : 0 < size)
    (aq : Option Addr) (n cq : Nat) (xs : List Value) (hs : a.eval s = .slice aq n cq) (hown : w.ownsRow B e size (.slice aq n cq) n xs)
    (ax : Option Addr) (m c : Nat) (news : List Value) (hx : a.eval x = .slice ax m c) (hr : Row w ax news) (hl : news.length = m * size) (h1 : ∀ u ∈ news, u.oneCell' = true)
    (hbytes : (n + m) * bytes ≤ 140737488355328) (h63 : n + m ≤ maxLen) (hbase : B ≤ w.heap.size)
    (h : ∀ a' c' w', w'.ownsRow B e size (.slice a' (n + m) c') (n + m) (xs ++ news) → Evol w aq w' a' → wpList P ops Q rest (a.put o.dst (.slice a' (n + m) c')) w') : wpList P ops Q (o :: rest) a w :=
  BigFrame.wpList_want hgd fun K hK => by
    obtain ⟨a', c', w', hr, h2, h3⟩ := run_append_own' (P := P) w B t o.type e i z size bytes ht hi hz hsize hby hzs hsz aq n cq xs hown ax m c news hl hr h1 hbytes h63 hbase
    unfold Oper.wp execOp
    simp only [ho, resolve, invoke, builtin, Sem.run_bind, Sem.run_pure, Result.andThen_ok, List.map_toArray, List.map_cons, List.map_nil, hs, hx, hr]
    exact hK _ _ (h a' c' w' h2 h3)

/-- append to a row of the call's own or to a slice that is full. -/
theorem wpList_app {w : World} {ops : Array Oper} {rest : List Oper} {o : Oper} {a : Act} {Q : Exit → Act → World → Prop} (hgd : Region.wanted o (yielded ops a.tmps) = true) (s x : Operand) (t : TypeId)
    (ho : o.op = .call { callee := .builtin .append, args := #[s, x], argTypes := #[t, t] })
    (B e : Nat) (i : TypeInfo) (z : Value) (size bytes : Nat) (ht : P.underlying t = some (.slice e)) (hi : P.info? e = some i) (hz : i.zero = some z)
    (hsize : i.size = size) (hby : i.bytes = bytes) (hzs : z.cells.size = size) (hsz : 0 < size)
    (aq : Option Addr) (n cq : Nat) (xs : List Value) (hs : a.eval s = .slice aq n cq) (hown : App w B e size (.slice aq n cq) n xs)
    (ax : Option Addr) (m c : Nat) (news : List Value) (hx : a.eval x = .slice ax m c) (hr : Row w ax news) (hl : news.length = m * size) (h1 : ∀ u ∈ news, u.oneCell' = true)
    (hbytes : (n + m) * bytes ≤ 140737488355328) (h63 : n + m ≤ maxLen) (hbase : B ≤ w.heap.size)
    (h : ∀ a' c' w', App w' B e size (.slice a' (n + m) c') (n + m) (xs ++ news) → (0 < m → w'.ownsRow B e size (.slice a' (n + m) c') (n + m) (xs ++ news)) → Below B w w' → Evol w aq w' a' →
      wpList P ops Q rest (a.put o.dst (.slice a' (n + m) c')) w') : wpList P ops Q (o :: rest) a w :=
  BigFrame.wpList_want hgd fun K hK => by
    obtain ⟨a', c', w', hr, h2, h3, h4, h5⟩ := run_append_app (P := P) w B t o.type e i z size bytes ht hi hz hsize hby hzs hsz aq n cq xs hown ax m c news hl hr h1 hbytes h63 hbase
    unfold Oper.wp execOp
    simp only [ho, resolve, invoke, builtin, Sem.run_bind, Sem.run_pure, Result.andThen_ok, List.map_toArray, List.map_cons, List.map_nil, hs, hx, hr]
    exact hK _ _ (h a' c' w' h2 h3 h4 h5)
end
end Go.Proofs.YtfgifndpglgjkaaGreatDoor
end

section
set_option linter.unusedVariables false
set_option linter.unusedSimpArgs false
namespace Go.Proofs.YtfgifndpglgjkaaGreatDoor
open Go.RowKit

def n8 (b : UInt8) : Int := (b.toNat : Int)
def n32 (c : UInt32) : Int := (c.toNat : Int)
theorem n8_bd (b : UInt8) : 0 ≤ n8 b ∧ n8 b < 256 := by have := b.toNat_lt; unfold n8; omega
theorem n32_bd (b : UInt32) : 0 ≤ n32 b ∧ n32 b < 4294967296 := by have := b.toNat_lt; unfold n32; omega
@[go_sem] theorem n8_nn (b : UInt8) : 0 ≤ n8 b := (n8_bd b).1
@[go_sem] theorem n32_nn (b : UInt32) : 0 ≤ n32 b := (n32_bd b).1
theorem n8_inj {a b : UInt8} (h : n8 a = n8 b) : a = b := by
  unfold n8 at h; exact UInt8.toNat_inj.1 (by omega)
theorem n32_inj {a b : UInt32} (h : n32 a = n32 b) : a = b := by
  unfold n32 at h; exact UInt32.toNat_inj.1 (by omega)
@[go_sem] theorem n8_beq (a b : UInt8) : (n8 a == n8 b) = (a == b) := by
  rw [Bool.eq_iff_iff]; simp only [beq_iff_eq]; exact ⟨n8_inj, fun h => by rw [h]⟩
@[go_sem] theorem n32_beq (a b : UInt32) : (n32 a == n32 b) = (a == b) := by
  rw [Bool.eq_iff_iff]; simp only [beq_iff_eq]; exact ⟨n32_inj, fun h => by rw [h]⟩
@[go_sem] theorem n8_bne (a b : UInt8) : (n8 a != n8 b) = !(a == b) := by
  show (!(n8 a == n8 b)) = _
  rw [n8_beq]
@[go_sem] theorem n32_bne (a b : UInt32) : (n32 a != n32 b) = !(a == b) := by
  show (!(n32 a == n32 b)) = _
  rw [n32_beq]
theorem n8_cast (a : UInt8) : n8 a = (a.toNat : Int) := rfl
theorem n8_lt_lit {a : UInt8} {k : Nat} (h : a.toNat < k) : decide (n8 a < (k : Int)) = true := by unfold n8; simp; omega
theorem n8_nlt_lit {a : UInt8} {k : Nat} (h : k ≤ a.toNat) : decide (n8 a < (k : Int)) = false := by unfold n8; simp; omega
theorem n8_gt_lit {a : UInt8} {k : Nat} (h : k < a.toNat) : decide ((k : Int) < n8 a) = true := by unfold n8; simp; omega
theorem n8_ngt_lit {a : UInt8} {k : Nat} (h : a.toNat ≤ k) : decide ((k : Int) < n8 a) = false := by unfold n8; simp; omega
theorem n8_lit {n : Nat} (h : n < 256) : (OfNat.ofNat n : Int) = n8 (OfNat.ofNat n) := by
  show (n : Int) = ((UInt8.ofNat n).toNat : Int)
  rw [UInt8.toNat_ofNat']; omega
theorem n32_lit {n : Nat} (h : n < 4294967296) : (OfNat.ofNat n : Int) = n32 (OfNat.ofNat n) := by
  show (n : Int) = ((UInt32.ofNat n).toNat : Int)
  rw [UInt32.toNat_ofNat']; omega
theorem n8_beq_lit (a : UInt8) (n : Nat) (h : n < 256) : (n8 a == (OfNat.ofNat n : Int)) = (a == OfNat.ofNat n) := by rw [n8_lit h, n8_beq]
theorem n32_beq_lit (a : UInt32) (n : Nat) (h : n < 4294967296) : (n32 a == (OfNat.ofNat n : Int)) = (a == OfNat.ofNat n) := by rw [n32_lit h, n32_beq]

@[go_sem] theorem xor32 (a b : UInt32) : bits .xor .u32 (n32 a) (n32 b) = n32 (a ^^^ b) := by
  unfold n32; rw [u32_xor_nat _ _ a.toNat_lt b.toNat_lt, UInt32.toNat_xor]
@[go_sem] theorem and32 (a b : UInt32) : bits .and .u32 (n32 a) (n32 b) = n32 (a &&& b) := by
  unfold n32; rw [u32_and_nat _ _ a.toNat_lt b.toNat_lt, UInt32.toNat_and]
@[go_sem] theorem or32 (a b : UInt32) : bits .or .u32 (n32 a) (n32 b) = n32 (a ||| b) := by
  unfold n32; rw [u32_or_nat _ _ a.toNat_lt b.toNat_lt, UInt32.toNat_or]
theorem xor32_lit (a : UInt32) (n : Nat) (h : n < 4294967296) : bits .xor .u32 (n32 a) (OfNat.ofNat n : Int) = n32 (a ^^^ OfNat.ofNat n) := by rw [n32_lit h, xor32]
theorem and32_lit (a : UInt32) (n : Nat) (h : n < 4294967296) : bits .and .u32 (n32 a) (OfNat.ofNat n : Int) = n32 (a &&& OfNat.ofNat n) := by rw [n32_lit h, and32]
@[go_sem] theorem wrap64_n32 (c : UInt32) : IntKind.u64.wrap (n32 c) = ((c.toNat : Nat) : Int) := by
  have := c.toNat_lt; unfold n32; rw [IntKind.wrap_u64]; omega
@[go_sem] theorem wrap64_n8 (c : UInt8) : IntKind.u64.wrap (n8 c) = ((c.toNat : Nat) : Int) := by
  have := c.toNat_lt; unfold n8; rw [IntKind.wrap_u64]; omega
@[go_sem] theorem not32 (a : UInt32) : bits .xor .u32 IntKind.u32.max (n32 a) = n32 (a ^^^ 4294967295) := by
  have e : IntKind.u32.max = n32 4294967295 := by decide
  rw [e, xor32, UInt32.xor_comm]
@[go_sem] theorem shr32_1 (a : UInt32) : n32 a / (2 : Int) = n32 (a >>> 1) := by unfold n32; simp [Nat.shiftRight_eq_div_pow]
@[go_sem] theorem shr32_4 (a : UInt32) : n32 a / (16 : Int) = n32 (a >>> 4) := by unfold n32; simp [Nat.shiftRight_eq_div_pow]
@[go_sem] theorem shr32_8 (a : UInt32) : n32 a / (256 : Int) = n32 (a >>> 8) := by unfold n32; simp [Nat.shiftRight_eq_div_pow]
@[go_sem] theorem shr32_16 (a : UInt32) : n32 a / (65536 : Int) = n32 (a >>> 16) := by unfold n32; simp [Nat.shiftRight_eq_div_pow]
@[go_sem] theorem shr32_24 (a : UInt32) : n32 a / (16777216 : Int) = n32 (a >>> 24) := by unfold n32; simp [Nat.shiftRight_eq_div_pow]
@[go_sem] theorem n8_to32 (b : UInt8) : n8 b % (4294967296 : Int) = n32 b.toUInt32 := by
  have := b.toNat_lt; unfold n8 n32; rw [UInt8.toNat_toUInt32]; omega
@[go_sem] theorem n32_to8 (b : UInt32) : n32 b % (256 : Int) = n8 b.toUInt8 := by
  unfold n8 n32; rw [UInt32.toNat_toUInt8]; omega

@[go_sem] theorem xor8 (a b : UInt8) : bits .xor .u8 (n8 a) (n8 b) = n8 (a ^^^ b) := by
  unfold n8; rw [u8_xor_nat _ _ a.toNat_lt b.toNat_lt, UInt8.toNat_xor]
@[go_sem] theorem and8 (a b : UInt8) : bits .and .u8 (n8 a) (n8 b) = n8 (a &&& b) := by
  unfold n8; rw [u8_and_nat _ _ a.toNat_lt b.toNat_lt, UInt8.toNat_and]
@[go_sem] theorem or8 (a b : UInt8) : bits .or .u8 (n8 a) (n8 b) = n8 (a ||| b) := by
  unfold n8; rw [u8_or_nat _ _ a.toNat_lt b.toNat_lt, UInt8.toNat_or]
theorem xor8_lit (a : UInt8) (n : Nat) (h : n < 256) : bits .xor .u8 (n8 a) (OfNat.ofNat n : Int) = n8 (a ^^^ OfNat.ofNat n) := by rw [n8_lit h, xor8]
theorem and8_lit (a : UInt8) (n : Nat) (h : n < 256) : bits .and .u8 (n8 a) (OfNat.ofNat n : Int) = n8 (a &&& OfNat.ofNat n) := by rw [n8_lit h, and8]
theorem or8_lit (a : UInt8) (n : Nat) (h : n < 256) : bits .or .u8 (n8 a) (OfNat.ofNat n : Int) = n8 (a ||| OfNat.ofNat n) := by rw [n8_lit h, or8]
@[go_sem] theorem shl32_8 (a : UInt32) : IntKind.u32.wrap (n32 a * (256 : Int)) = n32 (a <<< 8) := by
  unfold n32; rw [IntKind.wrap_u32]; simp [Nat.shiftLeft_eq]
@[go_sem] theorem shl32_16 (a : UInt32) : IntKind.u32.wrap (n32 a * (65536 : Int)) = n32 (a <<< 16) := by
  unfold n32; rw [IntKind.wrap_u32]; simp [Nat.shiftLeft_eq]
@[go_sem] theorem shl32_24 (a : UInt32) : IntKind.u32.wrap (n32 a * (16777216 : Int)) = n32 (a <<< 24) := by
  unfold n32; rw [IntKind.wrap_u32]; simp [Nat.shiftLeft_eq]
@[go_sem] theorem shr8_1 (a : UInt8) : n8 a / (2 : Int) = n8 (a >>> 1) := by unfold n8; simp [Nat.shiftRight_eq_div_pow]
@[go_sem] theorem shr8_7 (a : UInt8) : n8 a / (128 : Int) = n8 (a >>> 7) := by unfold n8; simp [Nat.shiftRight_eq_div_pow]

@[go_sem] theorem n8_beq_0 (a : UInt8) : (n8 a == (0 : Int)) = (a == 0) := n8_beq_lit a 0 (by decide)
@[go_sem] theorem n8_beq_1 (a : UInt8) : (n8 a == (1 : Int)) = (a == 1) := n8_beq_lit a 1 (by decide)
@[go_sem] theorem n8_beq_2 (a : UInt8) : (n8 a == (2 : Int)) = (a == 2) := n8_beq_lit a 2 (by decide)
@[go_sem] theorem n8_beq_255 (a : UInt8) : (n8 a == (255 : Int)) = (a == 255) := n8_beq_lit a 255 (by decide)
@[go_sem] theorem n8_beq_128 (a : UInt8) : (n8 a == (128 : Int)) = (a == 128) := n8_beq_lit a 128 (by decide)
@[go_sem] theorem n32_beq_0 (a : UInt32) : (n32 a == (0 : Int)) = (a == 0) := n32_beq_lit a 0 (by decide)
@[go_sem] theorem n32_beq_1 (a : UInt32) : (n32 a == (1 : Int)) = (a == 1) := n32_beq_lit a 1 (by decide)
@[go_sem] theorem xor32_2197175160 (a : UInt32) : bits .xor .u32 (n32 a) (2197175160 : Int) = n32 (a ^^^ 2197175160) := xor32_lit a 2197175160 (by decide)
@[go_sem] theorem xor32_4294967295 (a : UInt32) : bits .xor .u32 (n32 a) (4294967295 : Int) = n32 (a ^^^ 4294967295) := xor32_lit a 4294967295 (by decide)
@[go_sem] theorem and32_1 (a : UInt32) : bits .and .u32 (n32 a) (1 : Int) = n32 (a &&& 1) := and32_lit a 1 (by decide)
@[go_sem] theorem and32_15 (a : UInt32) : bits .and .u32 (n32 a) (15 : Int) = n32 (a &&& 15) := and32_lit a 15 (by decide)
@[go_sem] theorem and8_1 (a : UInt8) : bits .and .u8 (n8 a) (1 : Int) = n8 (a &&& 1) := and8_lit a 1 (by decide)
@[go_sem] theorem and8_127 (a : UInt8) : bits .and .u8 (n8 a) (127 : Int) = n8 (a &&& 127) := and8_lit a 127 (by decide)
@[go_sem] theorem or8_128 (a : UInt8) : bits .or .u8 (n8 a) (128 : Int) = n8 (a ||| 128) := or8_lit a 128 (by decide)
@[go_sem] theorem xor8_29 (a : UInt8) : bits .xor .u8 (n8 a) (29 : Int) = n8 (a ^^^ 29) := xor8_lit a 29 (by decide)

/-- Numbers that fit 64 bits; lengths that an append bears. Structures: the walk does not see the numerals. -/
structure U64 (v : Nat) : Prop where
  lt : v < 18446744073709551616
structure Fits (n : Nat) : Prop where
  le : n ≤ 140737488355300
/-- 'byte(v)' of whatever number. -/
@[go_sem] theorem to8 (v : Nat) : Value.int .u8 ((v : Int) % 256) = .int .u8 (n8 (UInt8.ofNat v)) := by
  unfold n8; rw [UInt8.toNat_ofNat']; rfl

/-- Bytes as a row of cells. -/
def vs (l : List UInt8) : List Value := l.map fun b => .int .u8 (n8 b)
theorem vs_len (l : List UInt8) : (vs l).length = l.length := by simp [vs]
theorem vs_append (a b : List UInt8) : vs (a ++ b) = vs a ++ vs b := by simp [vs]
theorem vs_take (a : List UInt8) (k : Nat) : vs (a.take k) = (vs a).take k := by simp [vs, List.map_take]
theorem vs_drop (a : List UInt8) (k : Nat) : vs (a.drop k) = (vs a).drop k := by simp [vs, List.map_drop]
theorem vs_one (l : List UInt8) : ∀ u ∈ vs l, u.oneCell' = true := by
  intro u hu; obtain ⟨b, _, rfl⟩ := List.mem_map.1 hu; rfl
/-- The element at a place; the walk's simp leaves it as it stands. -/
def nth {α : Type} [Inhabited α] (l : List α) (k : Nat) : α := l.getD k default
theorem nth_eq {α : Type} [Inhabited α] (l : List α) {k : Nat} (h : k < l.length) : nth l k = l[k] := by simp [nth, List.getD_eq_getElem?_getD, h]
/-- A byte of a row. -/
theorem Row.byte {w : World} {a : Option Addr} {l : List UInt8} (h : Row w a (vs l)) {i : Nat} (hi : i < l.length) :
    ∃ b off, a = some ⟨b, off, none⟩ ∧ w.cell? ⟨b, off + i, none⟩ = some (.int .u8 (n8 (nth l i))) := by
  refine h i _ ?_
  simp [vs, nth_eq l hi, hi]
theorem take_snoc {α : Type} [Inhabited α] (l : List α) {i : Nat} (hi : i < l.length) : l.take (i + 1) = l.take i ++ [nth l i] := by
  rw [List.take_succ_eq_append_getElem hi, nth_eq l hi]

theorem nth_append_left {α : Type} [Inhabited α] (l r : List α) {i : Nat} (h : i < l.length) : nth (l ++ r) i = nth l i := by
  rw [nth_eq _ h, nth_eq _ (by simp; omega), List.getElem_append_left h]
theorem nth_take {α : Type} [Inhabited α] (l : List α) {i k : Nat} (h : i < k) (hl : i < l.length) : nth (l.take k) i = nth l i := by
  rw [nth_eq _ hl, nth_eq _ (by simp; omega), List.getElem_take]
theorem nth_drop {α : Type} [Inhabited α] (l : List α) {i k : Nat} (h : k + i < l.length) : nth (l.drop k) i = nth l (k + i) := by
  rw [nth_eq _ h, nth_eq _ (by simp; omega), List.getElem_drop]

/-- A slice of bytes that is read. -/
def Bs (w : World) (a : Option Addr) (n c : Nat) (l : List UInt8) : Prop := l.length = n ∧ n ≤ c ∧ c ≤ maxLen ∧ Row w a (vs l)
theorem Bs.below {w w' : World} {a : Option Addr} {n c : Nat} {l : List UInt8} (h : Bs w a n c l) (hb : Below w.heap.size w w') : Bs w' a n c l := ⟨h.1, h.2.1, h.2.2.1, h.2.2.2.below hb⟩
theorem Bs.nil (w : World) : Bs w none 0 0 [] := ⟨rfl, Nat.le_refl _, by simp [maxLen], Row.nil _ _⟩
theorem Bs.le {w : World} {a : Option Addr} {n c : Nat} {l : List UInt8} (h : Bs w a n c l) : n ≤ 9223372036854775807 ∧ c ≤ 9223372036854775807 := by
  have := h.2.1; have := h.2.2.1; simp only [maxLen] at *; omega
theorem Bs.byte {w : World} {a : Option Addr} {n c : Nat} {l : List UInt8} (h : Bs w a n c l) {i : Nat} (hi : i < n) :
    ∃ b off, a = some ⟨b, off, none⟩ ∧ w.cell? ⟨b, off + i, none⟩ = some (.int .u8 (n8 (nth l i))) := h.2.2.2.byte (by have := h.1; omega)
theorem Bs.drop {w : World} {a : Option Addr} {n c : Nat} {l : List UInt8} (h : Bs w a n c l) {k : Nat} (hk : k ≤ n) :
    Bs w (subA a c k) (n - k) (c - k) (l.drop k) := by
  refine ⟨by rw [List.length_drop, h.1], by have := h.2.1; omega, by have := h.2.2.1; omega, ?_⟩
  rw [vs_drop]
  exact h.2.2.2.dropIf k c (by rw [vs_len, h.1]; exact h.2.1)
theorem Bs.take {w : World} {a : Option Addr} {n c : Nat} {l : List UInt8} (h : Bs w a n c l) {k : Nat} (hk : k ≤ n) : Bs w a k c (l.take k) := by
  refine ⟨by rw [List.length_take, h.1]; omega, by have := h.2.1; omega, h.2.2.1, ?_⟩
  rw [vs_take]
  exact h.2.2.2.take k

theorem Bs.sub {w : World} {a : Option Addr} {n c : Nat} {l : List UInt8} (h : Bs w a n c l) {lo hi : Nat} (h1 : lo ≤ hi) (h2 : hi ≤ n) : Bs w (subA a c lo) (hi - lo) (c - lo) ((l.drop lo).take (hi - lo)) :=
  (h.drop (Nat.le_trans h1 h2)).take (by omega)

/-- A list of byte slices that is read. -/
def Bss (w : World) (a : Option Addr) (n c : Nat) (ls : List (List UInt8)) : Prop :=
  ls.length = n ∧ n ≤ c ∧ c ≤ maxLen ∧ ∀ i, i < n → ∃ b off ai ni ci, a = some ⟨b, off, none⟩ ∧ w.cell? ⟨b, off + i, none⟩ = some (.slice ai ni ci) ∧ Bs w ai ni ci (nth ls i)
theorem Bss.below {w w' : World} {a : Option Addr} {n c : Nat} {ls : List (List UInt8)} (h : Bss w a n c ls) (hb : Below w.heap.size w w') : Bss w' a n c ls :=
  ⟨h.1, h.2.1, h.2.2.1, fun i hi => by
    obtain ⟨b, off, ai, ni, ci, h1, h2, h3⟩ := h.2.2.2 i hi
    exact ⟨b, off, ai, ni, ci, h1, cell_later hb h2, h3.below hb⟩⟩
theorem Bss.le {w : World} {a : Option Addr} {n c : Nat} {ls : List (List UInt8)} (h : Bss w a n c ls) : n ≤ 9223372036854775807 ∧ c ≤ 9223372036854775807 := by
  have := h.2.1; have := h.2.2.1; simp only [maxLen] at *; omega
theorem Bss.get {w : World} {a : Option Addr} {n c : Nat} {ls : List (List UInt8)} (h : Bss w a n c ls) {i : Nat} (hi : i < n) :
    ∃ b off ai ni ci, a = some ⟨b, off, none⟩ ∧ w.cell? ⟨b, off + i, none⟩ = some (.slice ai ni ci) ∧ Bs w ai ni ci (nth ls i) := h.2.2.2 i hi
theorem Bss.nil (w : World) : Bss w none 0 0 [] := ⟨rfl, Nat.le_refl _, by simp [maxLen], fun i hi => by omega⟩
def tot (ls : List (List UInt8)) : Nat := ls.flatten.length
theorem tot_snoc (ls : List (List UInt8)) {i : Nat} (hi : i < ls.length) : tot (ls.take (i + 1)) = tot (ls.take i) + (nth ls i).length := by
  unfold tot; rw [take_snoc ls hi]; simp
theorem tot_le (ls : List (List UInt8)) (i : Nat) : tot (ls.take i) ≤ tot ls := by
  unfold tot
  conv => rhs; rw [← List.take_append_drop i ls]
  simp only [List.flatten_append, List.length_append]; omega
end Go.Proofs.YtfgifndpglgjkaaGreatDoor
end
