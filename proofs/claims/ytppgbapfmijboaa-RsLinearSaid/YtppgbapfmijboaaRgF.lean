/- gf.Right and the reference's. -/
import Derived.Test.YtppgbapfmijboaaRgE
import Derived.Test.YtppgbapfmijboaaGfG
namespace Go.Proofs.Ytppgbapfmijboaa
open Go.RowKit Go.Deep

def Gf.right (ls : List (List UInt8)) : Bool := decide (1 ≤ ls.length ∧ ls.length ≤ 255 ∧ 1 ≤ (nth ls 0).length ∧ (nth ls 0).length ≤ 255 ∧ ∀ k, k < ls.length → (nth ls k).length = (nth ls 0).length)
/-- The first place at which something holds; -1: there is none. -/
structure Fst (n : Nat) (p : Nat → Bool) (r : Int) : Prop where
  none : (∀ i, i < n → p i = false) → r = -1
  some : ∀ k, k < n → p k = true → (∀ j, j < k → p j = false) → r = k
theorem first_or (n : Nat) (p : Nat → Bool) : (∀ i, i < n → p i = false) ∨ ∃ k, k < n ∧ p k = true ∧ ∀ j, j < k → p j = false := by
  induction n with
  | zero => exact .inl fun i hi => by omega
  | succ n ih =>
    rcases ih with h | ⟨k, hk, h1, h2⟩
    · by_cases e : p n = true
      · exact .inr ⟨n, by omega, e, h⟩
      · exact .inl fun i hi => by
          by_cases e' : i = n
          · subst e'; simpa using e
          · exact h i (by omega)
    · exact .inr ⟨k, by omega, h1, h2⟩
theorem fst_at {n k : Nat} {p : Nat → Bool} (hk : k < n) (h1 : p k = true) (h2 : ∀ j, j < k → p j = false) : Fst n p k := by
  refine ⟨fun h => ?_, fun j hj g1 g2 => ?_⟩
  · have := h k hk
    rw [h1] at this
    cases this
  · rcases Nat.lt_trichotomy j k with h | h | h
    · have := h2 j h
      rw [g1] at this
      cases this
    · rw [h]
    · have := g2 k h
      rw [h1] at this
      cases this
theorem fst_none {n : Nat} {p : Nat → Bool} (h : ∀ j, j < n → p j = false) : Fst n p (-1) := by
  refine ⟨fun _ => rfl, fun j hj g1 g2 => ?_⟩
  have := h j hj
  rw [g1] at this
  cases this
theorem ex_false {n : Nat} {p : Nat → Bool} (h : ∀ j, j < n → p j = false) : false = true ↔ ∃ k, k < n ∧ p k = true := by
  constructor
  · intro h; cases h
  · rintro ⟨k, hk, h'⟩
    rw [h k hk] at h'
    cases h'
def IdxPost (n : Nat) (p : Nat → Bool) (w : World) (e : Ending) (w' : World) : Prop := ∃ r q, e = .returned (.int .i64 r) ∧ Fst n p r ∧ w' = w.drewN q
/-- What is asked of a function that is asked of each element. -/
def PredO (w : World) (f : Nat) (cap : Array Value) (n : Nat) (v : Nat → Value) (p : Nat → Bool) : Prop :=
  ∀ (q i : Nat), i < n → Calls Try.prog f (#[v i] ++ cap) (w.drewN q) fun e w' => e = .returned (.bool (p i)) ∧ ∃ q, w' = w.drewN q
def RowV (w : World) (a : Option Addr) (n : Nat) (v : Nat → Value) : Prop := ∀ i, i < n → ∃ b off, a = some ⟨b, off, none⟩ ∧ w.cell? ⟨b, off + i, none⟩ = some (v i)

set_option maxHeartbeats 1000000 in
theorem idx_any (f : Nat) (cap : Array Value) (a : Option Addr) (n c : Nat) (v : Nat → Value) (p : Nat → Bool) (w : World) (eg : Enters Try.prog f) (hn : n ≤ 1000000000)
    (hrow : RowV w a n v) (hp : PredO w f cap n v p) :
    Calls Try.prog 66 #[.slice a n c, .func (.func f) #[] cap] w (IdxPost n p w) := by
  have eg' : ∀ (args : Array Value) (w : World), (callFunc f args).run Try.prog w = .ok (.enter f args) w := eg
  have HP := Lib.hid hp
  have HR := Lib.hid hrow
  clear hp hrow
  go_enter Try.func66, Try.ntmps66
  go_wp2
  go_loopw [8] (fun i wr => ∃ k q : Nat, k ≤ n ∧ i = .int .i64 k ∧ wr = w.drewN q ∧ Hid (∀ j, j < k → p j = false)) (fun i _ => n - (intOf i).toNat)
  case atStart => exact ⟨0, 0, by omega, rfl, rfl, Lib.hid (fun j hj => by omega)⟩
  case round =>
    obtain ⟨k, q, hk, rfl, rfl, hall⟩ := hrel
    by_cases hlt : k < n
    · obtain ⟨b, off, rfl, hc⟩ := HR.out k hlt
      generalize hvk : v k = vk at *
      have hcall := HP.out q k hlt
      rw [hvk] at hcall
      have HV := Lib.hid hvk
      clear hvk
      by_cases hpk : p k = true
      · rw [hpk] at hcall
        have HC := Lib.hid hcall
        clear hcall
        have HK := Lib.hid hpk
        clear hpk
        go_wp2_with (go_at_fn f; refine HC.out.mono ?_; rintro e w' ⟨rfl, q', rfl⟩)
        go_ret
        exact ⟨k, _, rfl, fst_at hlt HK.out hall.out, rfl⟩
      · have hpk : p k = false := by simpa using hpk
        rw [hpk] at hcall
        have HC := Lib.hid hcall
        clear hcall
        have HK := Lib.hid hpk
        clear hpk
        go_wp2_with (go_at_fn f; refine HC.out.mono ?_; rintro e w' ⟨rfl, q', rfl⟩)
        go_roundw
        case rel => exact ⟨k + 1, q', by omega, by go_num, rfl, Lib.hid (fun j hj => by
            by_cases e : j = k
            · rw [e]; exact HK.out
            · exact hall.out j (by omega))⟩
        case measure => simp [intOf]; omega
    · obtain rfl : k = n := by omega
      go_wp2
      go_ret
      exact ⟨-1, _, rfl, fst_none hall.out, rfl⟩

def ConPost (n : Nat) (p : Nat → Bool) (w : World) (e : Ending) (w' : World) : Prop := ∃ (r : Bool) (q : Nat), e = .returned (.bool r) ∧ (r = true ↔ ∃ k, k < n ∧ p k = true) ∧ w' = w.drewN q
theorem con_any (f : Nat) (cap : Array Value) (a : Option Addr) (n c : Nat) (v : Nat → Value) (p : Nat → Bool) (w : World) (eg : Enters Try.prog f) (hn : n ≤ 1000000000)
    (hrow : RowV w a n v) (hp : PredO w f cap n v p) :
    Calls Try.prog 78 #[.slice a n c, .func (.func f) #[] cap] w (ConPost n p w) := by
  have HP := Lib.hid hp
  have HR := Lib.hid hrow
  clear hp hrow
  go_enter Try.func78, Try.ntmps78
  go_wp2_with fail
  refine (idx_any f cap a n c v p w eg hn HR.out HP.out).mono ?_
  rintro e w' ⟨r, q, rfl, hf, rfl⟩
  rcases first_or n p with h | ⟨k, hk, h1, h2⟩
  · obtain rfl := hf.none h
    go_wp2
    go_ret
    exact ⟨_, q, rfl, ex_false h, rfl⟩
  · obtain rfl := hf.some k hk h1 h2
    have HH := Lib.hid (show ∃ k, k < n ∧ p k = true from ⟨k, hk, h1⟩)
    clear h1 h2 hf
    go_wp2
    go_ret
    exact ⟨true, q, rfl, ⟨fun _ => HH.out, fun _ => rfl⟩, rfl⟩

set_option maxHeartbeats 400000 in
theorem rightElem (ai a a0 : Option Addr) (ni ci n c n0 c0 : Nat) (b : Nat) (w : World) (hb : w.cell? ⟨b, 0, none⟩ = some (.slice a n c)) (hn : 0 < n)
    (h0 : ∃ b off, a = some ⟨b, off, none⟩ ∧ w.cell? ⟨b, off + 0, none⟩ = some (.slice a0 n0 c0)) :
    Calls Try.prog 79 #[.slice ai ni ci, .pointer (some ⟨b, 0, none⟩)] w fun e w' => e = .returned (.bool (!decide (ni = n0))) ∧ ∃ q, w' = w.drewN q := by
  obtain ⟨bo, off, rfl, h0⟩ := h0
  rw [Nat.add_zero] at h0
  go_enter Try.func79, Try.ntmps79
  by_cases h : ni = n0
  · subst h
    have t : ((ni : Int) != (ni : Int)) = false := by simp
    have e : (!decide (ni = ni)) = false := by simp
    rw [e]
    go_wp2
    go_ret
    exact ⟨rfl, 0, rfl⟩
  · have t : ((ni : Int) != (n0 : Int)) = true := by simp; omega
    have e : (!decide (ni = n0)) = true := by simp [h]
    rw [e]
    clear h
    go_wp2
    go_ret
    exact ⟨rfl, 0, rfl⟩
theorem right_ne {ls : List (List UInt8)} {n : Nat} (hl : ls.length = n) (h : ¬ (1 ≤ n ∧ n ≤ 255 ∧ 1 ≤ (nth ls 0).length ∧ (nth ls 0).length ≤ 255)) : Gf.right ls = false := by
  unfold Gf.right; rw [hl]; exact decide_eq_false (fun k => h ⟨k.1, k.2.1, k.2.2.1, k.2.2.2.1⟩)
/-- Rows as values. -/
theorem Bss.vals {w : World} {a : Option Addr} {n c : Nat} {ls : List (List UInt8)} (h : Bss w a n c ls) :
    ∃ (ai : Nat → Option Addr) (ci : Nat → Nat), ∀ i, i < n → (∃ b off, a = some ⟨b, off, none⟩ ∧ w.cell? ⟨b, off + i, none⟩ = some (.slice (ai i) (nth ls i).length (ci i))) ∧ Bs w (ai i) (nth ls i).length (ci i) (nth ls i) := by
  have : ∀ i, ∃ q : Option Addr × Nat, i < n → (∃ b off, a = some ⟨b, off, none⟩ ∧ w.cell? ⟨b, off + i, none⟩ = some (.slice q.1 (nth ls i).length q.2)) ∧ Bs w q.1 (nth ls i).length q.2 (nth ls i) := by
    intro i
    by_cases hi : i < n
    · obtain ⟨b, off, ai, ni, ci, h1, h2, h3⟩ := h.get hi
      have := h3.1
      subst this
      exact ⟨(ai, ci), fun _ => ⟨⟨b, off, h1, h2⟩, h3⟩⟩
    · exact ⟨(none, 0), fun h => absurd h hi⟩
  exact ⟨fun i => (Classical.choose (this i)).1, fun i => (Classical.choose (this i)).2, fun i hi => Classical.choose_spec (this i) hi⟩

set_option maxHeartbeats 2000000 in
theorem right_any (a : Option Addr) (n c : Nat) (ls : List (List UInt8)) (w : World) (h : Bss w a n c ls) :
    Calls Try.prog 63 #[.slice a n c] w fun e w' => e = .returned (.bool (Gf.right ls)) ∧ Below w.heap.size w w' := by
  have HW : Hid (Below w.heap.size w (w.alloc (.cells #[.slice a n c] 55))) := Lib.hid ((Below.refl _ _).alloc (Nat.le_refl _) _)
  have hl := h.1
  have hle := h.le.1
  obtain ⟨ai, ci, hv⟩ := h.vals
  by_cases h1 : n < 1
  · have t1 : decide ((n : Int) < 1) = true := decide_eq_true (by omega)
    rw [right_ne hl (by omega)]
    clear hv h1 hl
    go_enter Try.func63, Try.ntmps63
    go_wp2
    go_ret
    exact ⟨rfl, HW.out⟩
  have t1 : decide ((n : Int) < 1) = false := decide_eq_false (by omega)
  by_cases h2 : 255 < n
  · have t2 : decide ((255 : Int) < (n : Int)) = true := decide_eq_true (by omega)
    rw [right_ne hl (by omega)]
    clear hv h1 h2 hl
    go_enter Try.func63, Try.ntmps63
    go_wp2
    go_ret
    exact ⟨rfl, HW.out⟩
  have t2 : decide ((255 : Int) < (n : Int)) = false := decide_eq_false (by omega)
  have h0 := (hv 0 (by omega)).1
  have hB : ∀ {b o v}, w.cell? ⟨b, o, none⟩ = some v → (w.alloc (.cells #[.slice a n c] 55)).cell? ⟨b, o, none⟩ = some v := fun h => cell_later HW.out h
  obtain ⟨bo, off, e0, c0⟩ := h0
  subst e0
  rw [Nat.add_zero] at c0
  have c0' := hB c0
  have hn0 : 0 < n := by omega
  generalize hn0' : (nth ls 0).length = n0 at *
  by_cases h3 : n0 < 1
  · have t3 : decide ((n0 : Int) < 1) = true := decide_eq_true (by omega)
    rw [right_ne hl (by omega)]
    clear hv h1 h2 h3 hl hB c0 hn0'
    go_enter Try.func63, Try.ntmps63
    go_wp2
    go_ret
    exact ⟨rfl, HW.out⟩
  have t3 : decide ((n0 : Int) < 1) = false := decide_eq_false (by omega)
  by_cases h4 : 255 < n0
  · have t4 : decide ((255 : Int) < (n0 : Int)) = true := decide_eq_true (by omega)
    rw [right_ne hl (by omega)]
    clear hv h1 h2 h3 h4 hl hB c0 hn0'
    go_enter Try.func63, Try.ntmps63
    go_wp2
    go_ret
    exact ⟨rfl, HW.out⟩
  have t4 : decide ((255 : Int) < (n0 : Int)) = false := decide_eq_false (by omega)
  have HC := Lib.hid (con_any 79 #[.pointer (some ⟨w.heap.size, 0, none⟩)] (some ⟨bo, off, none⟩) n c (fun i => .slice (ai i) (nth ls i).length (ci i)) (fun i => !decide ((nth ls i).length = n0))
    (w.alloc (.cells #[.slice (some ⟨bo, off, none⟩) n c] 55)) (enters_of Try.func79 (by kernel_rfl) rfl) (by omega)
    (fun i hi => by obtain ⟨b, o, e1, e2⟩ := (hv i hi).1; exact ⟨b, o, e1, hB e2⟩)
    (fun q i hi => (rightElem (ai i) _ (ai 0) (nth ls i).length (ci i) n c n0 (ci 0) w.heap.size _ (by
      refine cell_later (below_drewN (Below.refl _ _) q) ?_
      rw [cell_of_row _ _ _ #[.slice (some ⟨bo, off, none⟩) n c] _ _ (heap_alloc_new w _)]
      rfl) hn0 ⟨bo, off, rfl, by rw [Nat.add_zero]; exact cell_later (below_drewN (Below.refl _ _) q) c0'⟩).mono fun e w' ⟨g1, q', g2⟩ => ⟨g1, q' + q, by rw [g2, World.drewN_drewN, Nat.add_comm]⟩))
  have HF : Hid (∀ r : Bool, (r = true ↔ ∃ k, k < n ∧ (!decide ((nth ls k).length = n0)) = true) → Gf.right ls = !r) := Lib.hid (fun r hr => by
    unfold Gf.right
    rw [hl, hn0']
    cases r with
    | true =>
      obtain ⟨k, hk, h'⟩ := hr.1 rfl
      exact decide_eq_false (fun g => by have := g.2.2.2.2 k hk; simp [this] at h')
    | false =>
      refine decide_eq_true ⟨by omega, by omega, by omega, by omega, fun k hk => ?_⟩
      by_cases e : (nth ls k).length = n0
      · exact e
      · have := hr.2 ⟨k, hk, by simp [e]⟩
        cases this)
  clear hv hl hn0' hB c0 h1 h2 h3 h4
  go_enter Try.func63, Try.ntmps63
  go_wp2_with fail
  refine HC.out.mono ?_
  rintro e w' ⟨r, q, rfl, hr, rfl⟩
  have E := Lib.hid (HF.out r hr)
  clear hr
  go_wp2
  go_ret
  exact ⟨by rw [E.out]; rfl, below_drewN HW.out q⟩
end Go.Proofs.Ytppgbapfmijboaa
