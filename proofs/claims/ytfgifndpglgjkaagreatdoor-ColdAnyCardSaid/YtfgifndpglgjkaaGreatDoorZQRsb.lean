/- rs: shards that are alike, shards that are missing; errors given up. -/
import Derived.Test.YtfgifndpglgjkaaGreatDoorZQRsa
import Derived.Recover
set_option linter.unusedVariables false
set_option linter.unusedSimpArgs false
set_option linter.unusedVariables false
set_option linter.unusedSimpArgs false
set_option maxRecDepth 100000
set_option linter.unusedVariables false
namespace Go.Proofs.YtfgifndpglgjkaaGreatDoor
open Go.RowKit Go.Deep

/-- The length of shards that are there; none: they are not of one length. -/
def Rs.sc1 (o : Option Nat) (l : List UInt8) : Option Nat :=
  match o with
  | none => none
  | some m => if 0 < l.length ∧ 0 < m ∧ l.length ≠ m then none else some (max m l.length)
def Rs.sc (ls : List (List UInt8)) : Option Nat := ls.foldl Rs.sc1 (some 0)
def Rs.alk (n : Nat) (ls : List (List UInt8)) : Option Nat := if ls.length = n then Rs.sc ls else none
theorem sc_snoc (ls : List (List UInt8)) {i : Nat} (hi : i < ls.length) : Rs.sc (ls.take (i + 1)) = Rs.sc1 (Rs.sc (ls.take i)) (nth ls i) := by
  unfold Rs.sc; rw [take_snoc ls hi, List.foldl_append]; rfl
theorem sc_none : ∀ (ls : List (List UInt8)), ls.foldl Rs.sc1 none = none
  | [] => rfl
  | l :: ls => sc_none ls
theorem sc_bad {ls : List (List UInt8)} {i : Nat} (h : Rs.sc (ls.take i) = none) : Rs.sc ls = none := by
  unfold Rs.sc at *
  rw [← List.take_append_drop i ls, List.foldl_append, h, sc_none]
def Rs.full (ls : List (List UInt8)) : Bool := ls.all fun l => l.length != 0
theorem full_false {ls : List (List UInt8)} {k : Nat} (hk : k < ls.length) (h : (nth ls k).length = 0) : Rs.full ls = false := by
  rw [nth_eq _ hk] at h
  unfold Rs.full
  rw [List.all_eq_false]
  exact ⟨ls[k], List.getElem_mem hk, by simp [h]⟩
theorem full_true {ls : List (List UInt8)} (h : ∀ k, k < ls.length → (nth ls k).length ≠ 0) : Rs.full ls = true := by
  unfold Rs.full
  rw [List.all_eq_true]
  intro l hl
  obtain ⟨k, hk, rfl⟩ := List.getElem_of_mem hl
  have := h k hk
  rw [nth_eq _ hk] at this
  simpa using this
theorem full_at {ls : List (List UInt8)} (h : Rs.full ls = true) {k : Nat} (hk : k < ls.length) : (nth ls k).length ≠ 0 := by
  intro e
  rw [full_false hk e] at h
  cases h

def errE (er : Int) : PanicEntry := { v := .iface 32 (.int .i64 er), recovered := false }
theorem give_any (er : Int) (w : World) : Calls Tryz.prog 84 #[.int .i64 er] w fun e w' => e = .panicked [errE er] ∧ w = w' := by
  go_enter Tryz.func84, Tryz.ntmps84
  go_wp2
  exact ⟨rfl, rfl, rfl⟩

theorem emptyElem (a : Option Addr) (n c : Nat) (w : World) : Calls Tryz.prog 124 #[.slice a n c] w fun e w' => e = .returned (.bool (decide (n = 0))) ∧ w = w' := by
  go_enter Tryz.func124, Tryz.ntmps124
  have e : ((n : Int) == 0) = decide (n = 0) := by by_cases h : n = 0 <;> simp [h]
  go_wp2
  go_ret
  exact ⟨rfl, rfl⟩

def alkE : Option Nat → Ending
  | some s => .returned (.int .i64 s)
  | none => .panicked [errE 1]
set_option maxHeartbeats 1000000 in
theorem alike_any (a : Option Addr) (n m c : Nat) (ls : List (List UInt8)) (w : World) (h : Bss w a m c ls) (hn : n ≤ 1000000000000) :
    Calls Tryz.prog 83 #[.int .i64 n, .slice a m c] w fun e w' => e = alkE (Rs.alk n ls) ∧ w = w' := by
  have hle := h.le.1
  have hl := h.1
  have HB := Lib.hid h
  clear h
  by_cases hmn : m = n
  case neg =>
    have t1 : ((m : Int) != (n : Int)) = true := by simp; omega
    have HA : Hid (Rs.alk n ls = none) := Lib.hid (by unfold Rs.alk; rw [if_neg (by omega)])
    clear hmn hl
    go_enter Tryz.func83, Tryz.ntmps83
    go_wp2_with (go_at_call 84; refine (give_any _ _).mono ?_; rintro e w' ⟨rfl, rfl⟩)
    exact ⟨rfl, by rw [HA.out]; rfl, rfl⟩
  subst hmn
  have t1 : ((m : Int) != (m : Int)) = false := by simp
  have HA : Hid (Rs.alk m ls = Rs.sc ls) := Lib.hid (by unfold Rs.alk; rw [if_pos hl])
  have HLN := Lib.hid hl
  clear hl
  go_enter Tryz.func83, Tryz.ntmps83
  go_wp2_with fail
  go_loop [5, 15] (fun s i => ∃ k x : Nat, k ≤ m ∧ i = .int .i64 k ∧ s = .int .i64 x ∧ x ≤ 9223372036854775807 ∧ Hid (Rs.sc (ls.take k) = some x)) (fun _ i => m - (intOf i).toNat)
  case atStart => exact ⟨0, 0, Nat.zero_le _, rfl, rfl, by omega, Lib.hid rfl⟩
  case round =>
    obtain ⟨k, x, hk, rfl, rfl, hx, HX⟩ := hrel
    by_cases hlt : k < m
    · obtain ⟨b, off, ai, ni, ci, rfl, dk, hk2⟩ := HB.out.get hlt
      have hni := hk2.le.1
      have hstep : Hid (Rs.sc (ls.take (k + 1)) = if 0 < ni ∧ 0 < x ∧ ni ≠ x then none else some (max x ni)) := Lib.hid (by
        rw [sc_snoc ls (by rw [HLN.out]; exact hlt), HX.out, ← hk2.1]; rfl)
      clear hk2
      by_cases hbad : 0 < ni ∧ 0 < x ∧ ni ≠ x
      · have q1 : 0 < ni := hbad.1
        have q2 : 0 < x := hbad.2.1
        have q3 : ¬ ni = x := hbad.2.2
        have s3 : ((ni : Int) != (x : Int)) = true := by simp; omega
        have HN : Hid (Rs.sc ls = none) := Lib.hid (sc_bad (i := k + 1) (by rw [hstep.out, if_pos hbad]))
        clear hbad
        go_wp2_with (go_at_call 84; refine (give_any _ _).mono ?_; rintro e w' ⟨rfl, rfl⟩)
        exact ⟨rfl, by rw [HA.out, HN.out]; rfl, rfl⟩
      · have hs2 := Lib.hid (hstep.out.trans (if_neg hbad))
        have hmx : max (x : Int) (ni : Int) = ((max x ni : Nat) : Int) := by omega
        by_cases q1 : 0 < ni
        · by_cases q2 : 0 < x
          · have q3 : ni = x := by omega
            subst q3
            have s3 : ((ni : Int) != (ni : Int)) = false := by simp
            clear hbad
            go_wp2
            all_goals go_round
            all_goals first | (simp [intOf]; omega) | exact ⟨k + 1, max ni ni, by omega, by go_num, by (try split) <;> (congr 1; omega), by omega, hs2⟩
          · clear hbad
            go_wp2
            all_goals go_round
            all_goals first | (simp [intOf]; omega) | exact ⟨k + 1, max x ni, by omega, by go_num, by (try split) <;> (congr 1; omega), by omega, hs2⟩
        · clear hbad
          go_wp2
          all_goals go_round
          all_goals first | (simp [intOf]; omega) | exact ⟨k + 1, max x ni, by omega, by go_num, by (try split) <;> (congr 1; omega), by omega, hs2⟩
    · obtain rfl : k = m := by omega
      have HX2 : Hid (Rs.sc ls = some x) := Lib.hid (by have := HX.out; rwa [List.take_of_length_le (by rw [HLN.out]; exact Nat.le_refl _)] at this)
      go_wp2
      go_ret
      exact ⟨by rw [HA.out, HX2.out]; rfl, rfl⟩
end Go.Proofs.YtfgifndpglgjkaaGreatDoor

/- rs: told, the deferred call; missing shards. -/
set_option maxRecDepth 100000
set_option linter.unusedVariables false
namespace Go.Proofs.YtfgifndpglgjkaaGreatDoor
open Go.RowKit Go.Deep

theorem told_tmps (a b v : Value) : (#[a, b] ++ (Array.replicate 16 undef).setIfInBounds 5 v) = #[a, b, undef, undef, undef, undef, undef, v, undef, undef, undef, undef, undef, undef, undef, undef, undef, undef] := by kernel_rfl
theorem wpS_plain {P : Program} {c : Code} {Q : Exit → Act → List Frame → World → Prop} {a : Act} {cs : List Frame} {w : World} (W : World)
    (h : c.wp P (fun e a' w' => e = .normal ∧ a'.defers = [] ∧ w' = W) a w) (k : ∀ a', a'.defers = [] → Q .normal a' cs W) : c.wpS P Q a cs w :=
  wpS_of_wp (Code.wp_mono (fun e a' w' ⟨h1, h2, h3⟩ => by subst h1; subst h3; exact k a' h2) h)
theorem told_idle (pe : Addr) (F : Nat) (cap : Array Value) (w : World) :
    CallsD Tryz.prog 81 #[.pointer (some pe), .func (.func F) #[] cap] .returning w fun e u' w' => e = .returned (.tuple #[]) ∧ u' = .returning ∧ w' = w := by
  refine callsD_of_wpS Tryz.func81 rfl fun c₀ cs hu => ?_
  apply wpS_seq
  apply wpS_region
  simp [wpOpsS, go_sem, recoverD, hu, Tryz.ntmps81, Exit.thenS]
  rw [told_tmps]
  refine wpS_plain w ?_ ?_
  · go_wp2
  · intro a' ha
    cases c₀
    simp_all [bodyPostS, results, Tryz.results81]

theorem errno_assert (er : Int) (w : World) : (Instr.typeAssert (.iface 32 (.int .i64 er)) 20 32 true).run Tryz.prog w = .ok (.tuple #[.int .i64 er, .bool true]) w := by
  simp [Instr.typeAssert, run_underlying Tryz.underlying32]
/-- The deferred function that lays a result's zero. -/
def ZeroF (F : Nat) (z : Value) : Prop := ∀ (po : Addr) (x : Value) (w : World), w.cell? po = some x → w.frozen? po = false → Calls Tryz.prog F #[.pointer (some po)] w fun e w' => e = .returned (.tuple #[]) ∧ w' = w.setCell po z

theorem told_err (pe po : Addr) (F : Nat) (z x : Value) (y er : Int) (w : World) (eg : Enters Tryz.prog F) (hF : ZeroF F z) (he : w.cell? pe = some (.int .i64 y)) (hf : w.frozen? pe = false)
    (ho : w.cell? po = some x) (hfo : w.frozen? po = false) (hne : po ≠ pe) :
    CallsD Tryz.prog 81 #[.pointer (some pe), .func (.func F) #[] #[.pointer (some po)]] (.panicking [errE er]) w fun e u' w' =>
      e = .returned (.tuple #[]) ∧ u' = .panicking [{ v := .iface 32 (.int .i64 er), recovered := true }] ∧ w' = (w.setCell pe (.int .i64 er)).setCell po z := by
  have eg' : ∀ (args : Array Value) (w : World), (callFunc F args).run Tryz.prog w = .ok (.enter F args) w := eg
  refine callsD_of_wpS Tryz.func81 rfl fun c₀ cs hu => ?_
  apply wpS_seq
  apply wpS_region
  simp [wpOpsS, go_sem, recoverD, hu, Tryz.ntmps81, Exit.thenS, errE]
  rw [told_tmps]
  refine wpS_plain ((w.setCell pe (.int .i64 er)).setCell po z) ?_ ?_
  · have ha := errno_assert er w
    have hz := Lib.hid (hF po x (w.setCell pe (.int .i64 er)) (by rw [World.cell?_setCell_other _ _ _ _ hne.symm]; exact ho) (by simpa using hfo))
    clear hF
    go_wp2_with (go_at_fn F; refine hz.out.mono ?_; rintro e w' ⟨rfl, rfl⟩)
  · intro a' ha
    cases c₀
    simp_all [bodyPostS, results, Tryz.results81]
set_option maxHeartbeats 1000000 in
theorem idxr_any (f : Nat) (cap : Array Value) (a : Option Addr) (n c : Nat) (v : Nat → Value) (p : Nat → Bool) (w : World) (eg : Enters Tryz.prog f) (hn : n ≤ 1000000000)
    (hrow : RowV w a n v) (hp : PredO w f cap n v p) :
    Calls Tryz.prog 123 #[.slice a n c, .func (.func f) #[] cap] w (IdxPost n p w) := by
  have eg' : ∀ (args : Array Value) (w : World), (callFunc f args).run Tryz.prog w = .ok (.enter f args) w := eg
  have HP := Lib.hid hp
  have HR := Lib.hid hrow
  clear hp hrow
  go_enter Tryz.func123, Tryz.ntmps123
  go_wp2
  go_loopw [8] (fun i wr => ∃ k q : Nat, k ≤ n ∧ i = .int .i64 k ∧ wr = w.drewN q ∧ Hid (∀ j, j < k → p j = false)) (fun i _ => n - (intOf i).toNat)
  case atStart => exact ⟨0, 0, by omega, rfl, rfl, Lib.hid (fun j hj => by omega)⟩
  case round =>
    obtain ⟨k, q, hk, rfl, rfl, hall⟩ := hrel
    by_cases hlt : k < n
    · obtain ⟨b, off, rfl, hc⟩ := HR.out k hlt
      generalize hvk : v k = vk at *
      have hcall := HP.out q k hlt
      rw [hvk] at hcall
      have HV := Lib.hid hvk
      clear hvk
      by_cases hpk : p k = true
      · rw [hpk] at hcall
        have HC := Lib.hid hcall
        clear hcall
        have HK := Lib.hid hpk
        clear hpk
        go_wp2_with (go_at_fn f; refine HC.out.mono ?_; rintro e w' ⟨rfl, q', rfl⟩)
        go_ret
        exact ⟨k, _, rfl, fst_at hlt HK.out hall.out, rfl⟩
      · have hpk : p k = false := by simpa using hpk
        rw [hpk] at hcall
        have HC := Lib.hid hcall
        clear hcall
        have HK := Lib.hid hpk
        clear hpk
        go_wp2_with (go_at_fn f; refine HC.out.mono ?_; rintro e w' ⟨rfl, q', rfl⟩)
        go_roundw
        case rel => exact ⟨k + 1, q', by omega, by go_num, rfl, Lib.hid (fun j hj => by
            by_cases e : j = k
            · rw [e]; exact HK.out
            · exact hall.out j (by omega))⟩
        case measure => simp [intOf]; omega
    · obtain rfl : k = n := by omega
      go_wp2
      go_ret
      exact ⟨-1, _, rfl, fst_none hall.out, rfl⟩


theorem Bss.take {w : World} {a : Option Addr} {n c : Nat} {ls : List (List UInt8)} (h : Bss w a n c ls) {k : Nat} (hk : k ≤ n) : Bss w a k c (ls.take k) := by
  refine ⟨by rw [List.length_take, h.1]; omega, by have := h.2.1; omega, h.2.2.1, fun i hi => ?_⟩
  rw [nth_take ls hi (by rw [h.1]; omega)]
  exact h.get (by omega)
theorem Bss.drop {w : World} {a : Option Addr} {n c : Nat} {ls : List (List UInt8)} (h : Bss w a n c ls) {k : Nat} (hk : k ≤ n) : Bss w (subA a c k) (n - k) (c - k) (ls.drop k) := by
  refine ⟨by rw [List.length_drop, h.1], by have := h.2.1; omega, by have := h.2.2.1; omega, fun i hi => ?_⟩
  rw [nth_drop (l := ls) (k := k) (i := i) (by rw [h.1]; omega)]
  obtain ⟨b, off, ai, ni, ci, rfl, h1, h2⟩ := h.get (i := k + i) (by omega)
  have := h.2.1
  refine ⟨b, off + k, ai, ni, ci, by unfold subA; rw [if_neg (by omega)]; simp [Addr.add_lit], by rw [Nat.add_assoc]; exact h1, h2⟩
theorem missing_any (a : Option Addr) (n c : Nat) (ls : List (List UInt8)) (w : World) (h : Bss w a n c ls) (hn : n ≤ 1000000000) :
    Calls Tryz.prog 105 #[.slice a n c] w fun e w' => ∃ (r : Int) (q : Nat), e = .returned (.int .i64 r) ∧ decide (r < 0) = Rs.full ls ∧ w' = w.drewN q := by
  obtain ⟨ai, ci, hv⟩ := h.vals
  have hl := h.1
  have hI := Lib.hid (idxr_any 124 #[] a n c (fun i => .slice (ai i) (nth ls i).length (ci i)) (fun i => decide ((nth ls i).length = 0)) w (enters_of Tryz.func124 (by kernel_rfl) rfl) hn
    (fun i hi => (hv i hi).1)
    (fun q i hi => (emptyElem _ _ _ _).mono fun e w' ⟨h1, h2⟩ => ⟨h1, q, h2.symm⟩))
  clear hv h
  go_enter Tryz.func105, Tryz.ntmps105
  go_wp2_with fail
  refine hI.out.mono ?_
  rintro e w' ⟨r, q, rfl, hf, rfl⟩
  have hr : decide (r < 0) = Rs.full ls := by
    rcases first_or n (fun i => decide ((nth ls i).length = 0)) with h0 | ⟨k, hk, h1, h2⟩
    · rw [hf.none h0, full_true (fun k hk => by have := h0 k (by omega); simpa using this)]; rfl
    · rw [hf.some k hk h1 h2, full_false (k := k) (by omega) (by simpa using h1)]; simp
  have HR := Lib.hid hr
  clear hr hf
  go_wp2
  go_ret
  exact ⟨r, q, rfl, HR.out, rfl⟩
end Go.Proofs.YtfgifndpglgjkaaGreatDoor

/- rs.New. -/
set_option maxRecDepth 100000
set_option linter.unusedVariables false
namespace Go.Proofs.YtfgifndpglgjkaaGreatDoor
open Go.RowKit Go.Deep

/-- A code in memory. -/
structure Cod (w : World) (b K M : Nat) : Prop where
  k : w.cell? ⟨b, 0, none⟩ = some (.int .i64 K)
  m : w.cell? ⟨b, 1, none⟩ = some (.int .i64 M)
  p : ∃ a n c, w.cell? ⟨b, 2, none⟩ = some (.slice a n c) ∧ Bss w a n c (mat M K (Gf.cau K))
theorem Cod.below {w w' : World} {b K M : Nat} (h : Cod w b K M) (hb : Below w.heap.size w w') : Cod w' b K M := by
  obtain ⟨h1, h2, a, n, c, h3, h4⟩ := h
  exact ⟨cell_later hb h1, cell_later hb h2, a, n, c, cell_later hb h3, h4.below hb⟩
/-- Sizes of a code. -/
def Rs.fit (k m : Int) : Prop := 1 ≤ k ∧ 0 ≤ m ∧ k + m ≤ 255
instance (k m : Int) : Decidable (Rs.fit k m) := inferInstanceAs (Decidable (_ ∧ _ ∧ _))

set_option maxHeartbeats 1000000 in
theorem new_err (k m : Int) (w : World) (h : ¬ Rs.fit k m) (hk : -9223372036854775808 ≤ k ∧ k ≤ 9223372036854775807) (hm : -9223372036854775808 ≤ m ∧ m ≤ 9223372036854775807) :
    Calls Tryz.prog 21 #[.int .i64 k, .int .i64 m] w fun e w' => e = .returned (.tuple #[.pointer none, .int .i64 1]) ∧ w = w' := by
  unfold Rs.fit at h
  by_cases h1 : k < 1
  · have t1 : decide (k < 1) = true := decide_eq_true h1
    clear hk hm h h1
    go_enter Tryz.func21, Tryz.ntmps21
    go_wp2
    go_ret2
    exact ⟨rfl, rfl⟩
  have t1 : decide (k < 1) = false := decide_eq_false h1
  by_cases h2 : m < 0
  · have t2 : decide (m < 0) = true := decide_eq_true h2
    clear hk hm h h1 h2
    go_enter Tryz.func21, Tryz.ntmps21
    go_wp2
    go_ret2
    exact ⟨rfl, rfl⟩
  have t2 : decide (m < 0) = false := decide_eq_false h2
  by_cases h3 : 255 < k
  · have t3 : decide (255 < k) = true := decide_eq_true h3
    clear hk hm h h1 h2 h3
    go_enter Tryz.func21, Tryz.ntmps21
    go_wp2
    go_ret2
    exact ⟨rfl, rfl⟩
  have t3 : decide (255 < k) = false := decide_eq_false h3
  by_cases h4 : 255 < m
  · have t4 : decide (255 < m) = true := decide_eq_true h4
    clear hk hm h h1 h2 h3 h4
    go_enter Tryz.func21, Tryz.ntmps21
    go_wp2
    go_ret2
    exact ⟨rfl, rfl⟩
  have t4 : decide (255 < m) = false := decide_eq_false h4
  have t5 : decide (255 < k + m) = true := decide_eq_true (by omega)
  clear h hk hm
  have hk1 : 0 ≤ k := by omega
  have hk2 : k ≤ 1000 := by omega
  have hm1 : 0 ≤ m := by omega
  have hm2 : m ≤ 1000 := by omega
  clear h1 h2 h3 h4
  go_enter Tryz.func21, Tryz.ntmps21
  go_wp2
  go_ret2
  exact ⟨rfl, rfl⟩

/-- It reads so wherever the blocks from B on are the same. -/
def BssFrom (B : Nat) (w : World) (a : Option Addr) (n c : Nat) (ls : List (List UInt8)) : Prop := ∀ W : World, (∀ j, B ≤ j → W.heap[j]? = w.heap[j]?) → Bss W a n c ls
theorem Mx.other {w W : World} {B g n C : Nat} {bl : Nat → Nat} {Z : Nat → Nat → UInt8} (h : Mx w B g n C bl Z) (k : ∀ j, B ≤ j → W.heap[j]? = w.heap[j]?) : Mx W B g n C bl Z :=
  ⟨h.base, h.top.of_block (k _ h.base), fun i hi => ⟨(h.row i hi).1, (h.row i hi).2.1, (h.row i hi).2.2.of_block (k _ (h.row i hi).1)⟩, h.apart⟩
set_option maxHeartbeats 2000000 in
theorem new_any (K M : Nat) (w : World) (h1 : 1 ≤ K) (h2 : K + M ≤ 255) :
    Calls Tryz.prog 21 #[.int .i64 K, .int .i64 M] w fun e w' => (∃ b, e = .returned (.tuple #[.pointer (some ⟨b, 0, none⟩), .int .i64 0]) ∧ Cod w' b K M) ∧ Below w.heap.size w w' := by
  have t1 : decide ((K : Int) < 1) = false := decide_eq_false (by omega)
  have t2 : decide ((M : Int) < 0) = false := decide_eq_false (by omega)
  have t3 : decide ((255 : Int) < K) = false := decide_eq_false (by omega)
  have t4 : decide ((255 : Int) < M) = false := decide_eq_false (by omega)
  have t5 : decide ((255 : Int) < (K : Int) + M) = false := decide_eq_false (by omega)
  have HK := Lib.hid (And.intro h1 h2)
  have hk2 : K ≤ 1000 := by omega
  have hm2 : M ≤ 1000 := by omega
  clear h1 h2
  have HC : Hid (∀ w1 : World, Calls Tryz.prog 56 #[.int .i64 M, .int .i64 K] w1 fun e w' => (∃ a n c er, e = .returned (.tuple #[.slice a n c, .int .i64 er]) ∧ BssFrom w1.heap.size w' a n c (mat M K (Gf.cau K))) ∧ Below w1.heap.size w1 w') := Lib.hid fun w1 => by
    by_cases hM : 1 ≤ M
    · exact (cauchy_any M K w1 hM HK.out.1 (by have := HK.out.2; omega)).mono fun e w' ⟨⟨g, bl, h1, h2⟩, h3⟩ => ⟨⟨_, _, _, _, h1, fun W hW => (h2.other hW).bss (Nat.le_refl _) (by simp only [maxLen]; omega) (by simp only [maxLen]; omega)⟩, h3⟩
    · obtain rfl : M = 0 := by omega
      exact (cauchy_err 0 K w1 (fun h => by have := h.r1; omega) (by omega) (by omega)).mono fun e w' ⟨h1, h3⟩ => ⟨⟨_, _, _, _, h1, fun W _ => by simpa [mat] using Bss.nil W⟩, h3⟩
  go_enter Tryz.func21, Tryz.ntmps21
  go_wp2_with fail
  refine (HC.out _).mono ?_
  rintro e w1 ⟨⟨a, n, c, er, rfl, hB⟩, hb⟩
  have hsz : (w.alloc (.cells #[.int .i64 (K : Int), .int .i64 (M : Int), .slice none 0 0] 99)).heap.size = w.heap.size + 1 := by simp
  have hblk : w1.heap[w.heap.size]? = some (.cells #[.int .i64 (K : Int), .int .i64 (M : Int), .slice none 0 0] 99 (0, 0)) := (hb.block w.heap.size (by omega)).trans (heap_alloc_last w _)
  have hbw : Below w.heap.size w w1 := (below_alloc w _).trans (hb.mono (by omega))
  have g0 : w1.cell? ⟨w.heap.size, 0, none⟩ = some (.int .i64 K) := by simp [World.cell?, hblk]
  have g1 : w1.cell? ⟨w.heap.size, 1, none⟩ = some (.int .i64 M) := by simp [World.cell?, hblk]
  have g2 : w1.cell? ⟨w.heap.size, 2, none⟩ = some (.slice none 0 0) := by simp [World.cell?, hblk]
  have g3 : w1.frozen? ⟨w.heap.size, 2, none⟩ = false := by simp [World.frozen?, hblk]
  have hB2 := hB (w1.setCell ⟨w.heap.size, 2, none⟩ (.slice a n c)) (fun j hj => Below.heap_setCell _ _ _ _ (by show j ≠ w.heap.size; omega))
  have HCod : Hid (Cod (w1.setCell ⟨w.heap.size, 2, none⟩ (.slice a n c)) w.heap.size K M) := Lib.hid ⟨by rw [World.cell?_setCell_other _ _ _ _ (by simp)]; exact g0, by rw [World.cell?_setCell_other _ _ _ _ (by simp)]; exact g1, a, n, c, World.cell?_setCell_same _ _ _ g2, hB2⟩
  have HBW : Hid (Below w.heap.size w (w1.setCell ⟨w.heap.size, 2, none⟩ (.slice a n c))) := Lib.hid (hbw.setCell (Nat.le_refl _) _)
  clear hB2 hB hb hbw hblk g0 g1
  go_wp2
  go_ret2
  exact ⟨⟨_, rfl, HCod.out⟩, HBW.out⟩
end Go.Proofs.YtfgifndpglgjkaaGreatDoor
