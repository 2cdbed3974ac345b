/- rs: told, the deferred call; missing shards. -/
import Derived.Test.YtppgbapfmijboaaRsC
set_option maxRecDepth 100000
set_option linter.unusedVariables false
namespace Go.Proofs.Ytppgbapfmijboaa
open Go.RowKit Go.Deep

theorem told_tmps (a b v : Value) : (#[a, b] ++ (Array.replicate 16 undef).setIfInBounds 5 v) = #[a, b, undef, undef, undef, undef, undef, v, undef, undef, undef, undef, undef, undef, undef, undef, undef, undef] := by kernel_rfl
theorem wpS_plain {P : Program} {c : Code} {Q : Exit → Act → List Frame → World → Prop} {a : Act} {cs : List Frame} {w : World} (W : World)
    (h : c.wp P (fun e a' w' => e = .normal ∧ a'.defers = [] ∧ w' = W) a w) (k : ∀ a', a'.defers = [] → Q .normal a' cs W) : c.wpS P Q a cs w :=
  wpS_of_wp (Code.wp_mono (fun e a' w' ⟨h1, h2, h3⟩ => by subst h1; subst h3; exact k a' h2) h)
theorem told_idle (pe : Addr) (F : Nat) (cap : Array Value) (w : World) :
    CallsD Try.prog 27 #[.pointer (some pe), .func (.func F) #[] cap] .returning w fun e u' w' => e = .returned (.tuple #[]) ∧ u' = .returning ∧ w' = w := by
  refine callsD_of_wpS Try.func27 rfl fun c₀ cs hu => ?_
  apply wpS_seq
  apply wpS_region
  simp [wpOpsS, go_sem, recoverD, hu, Try.ntmps27, Exit.thenS]
  rw [told_tmps]
  refine wpS_plain w ?_ ?_
  · go_wp2
  · intro a' ha
    cases c₀
    simp_all [bodyPostS, results, Try.results27]

theorem errno_assert (er : Int) (w : World) : (Instr.typeAssert (.iface 25 (.int .i64 er)) 20 25 true).run Try.prog w = .ok (.tuple #[.int .i64 er, .bool true]) w := by
  simp [Instr.typeAssert, run_underlying Try.underlying25]
/-- The deferred function that lays a result's zero. -/
def ZeroF (F : Nat) (z : Value) : Prop := ∀ (po : Addr) (x : Value) (w : World), w.cell? po = some x → w.frozen? po = false → Calls Try.prog F #[.pointer (some po)] w fun e w' => e = .returned (.tuple #[]) ∧ w' = w.setCell po z

theorem told_err (pe po : Addr) (F : Nat) (z x : Value) (y er : Int) (w : World) (eg : Enters Try.prog F) (hF : ZeroF F z) (he : w.cell? pe = some (.int .i64 y)) (hf : w.frozen? pe = false)
    (ho : w.cell? po = some x) (hfo : w.frozen? po = false) (hne : po ≠ pe) :
    CallsD Try.prog 27 #[.pointer (some pe), .func (.func F) #[] #[.pointer (some po)]] (.panicking [errE er]) w fun e u' w' =>
      e = .returned (.tuple #[]) ∧ u' = .panicking [{ v := .iface 25 (.int .i64 er), recovered := true }] ∧ w' = (w.setCell pe (.int .i64 er)).setCell po z := by
  have eg' : ∀ (args : Array Value) (w : World), (callFunc F args).run Try.prog w = .ok (.enter F args) w := eg
  refine callsD_of_wpS Try.func27 rfl fun c₀ cs hu => ?_
  apply wpS_seq
  apply wpS_region
  simp [wpOpsS, go_sem, recoverD, hu, Try.ntmps27, Exit.thenS, errE]
  rw [told_tmps]
  refine wpS_plain ((w.setCell pe (.int .i64 er)).setCell po z) ?_ ?_
  · have ha := errno_assert er w
    have hz := Lib.hid (hF po x (w.setCell pe (.int .i64 er)) (by rw [World.cell?_setCell_other _ _ _ _ hne.symm]; exact ho) (by simpa using hfo))
    clear hF
    go_wp2_with (go_at_fn F; refine hz.out.mono ?_; rintro e w' ⟨rfl, rfl⟩)
  · intro a' ha
    cases c₀
    simp_all [bodyPostS, results, Try.results27]
set_option maxHeartbeats 1000000 in
theorem idxr_any (f : Nat) (cap : Array Value) (a : Option Addr) (n c : Nat) (v : Nat → Value) (p : Nat → Bool) (w : World) (eg : Enters Try.prog f) (hn : n ≤ 1000000000)
    (hrow : RowV w a n v) (hp : PredO w f cap n v p) :
    Calls Try.prog 50 #[.slice a n c, .func (.func f) #[] cap] w (IdxPost n p w) := by
  have eg' : ∀ (args : Array Value) (w : World), (callFunc f args).run Try.prog w = .ok (.enter f args) w := eg
  have HP := Lib.hid hp
  have HR := Lib.hid hrow
  clear hp hrow
  go_enter Try.func50, Try.ntmps50
  go_wp2
  go_loopw [8] (fun i wr => ∃ k q : Nat, k ≤ n ∧ i = .int .i64 k ∧ wr = w.drewN q ∧ Hid (∀ j, j < k → p j = false)) (fun i _ => n - (intOf i).toNat)
  case atStart => exact ⟨0, 0, by omega, rfl, rfl, Lib.hid (fun j hj => by omega)⟩
  case round =>
    obtain ⟨k, q, hk, rfl, rfl, hall⟩ := hrel
    by_cases hlt : k < n
    · obtain ⟨b, off, rfl, hc⟩ := HR.out k hlt
      generalize hvk : v k = vk at *
      have hcall := HP.out q k hlt
      rw [hvk] at hcall
      have HV := Lib.hid hvk
      clear hvk
      by_cases hpk : p k = true
      · rw [hpk] at hcall
        have HC := Lib.hid hcall
        clear hcall
        have HK := Lib.hid hpk
        clear hpk
        go_wp2_with (go_at_fn f; refine HC.out.mono ?_; rintro e w' ⟨rfl, q', rfl⟩)
        go_ret
        exact ⟨k, _, rfl, fst_at hlt HK.out hall.out, rfl⟩
      · have hpk : p k = false := by simpa using hpk
        rw [hpk] at hcall
        have HC := Lib.hid hcall
        clear hcall
        have HK := Lib.hid hpk
        clear hpk
        go_wp2_with (go_at_fn f; refine HC.out.mono ?_; rintro e w' ⟨rfl, q', rfl⟩)
        go_roundw
        case rel => exact ⟨k + 1, q', by omega, by go_num, rfl, Lib.hid (fun j hj => by
            by_cases e : j = k
            · rw [e]; exact HK.out
            · exact hall.out j (by omega))⟩
        case measure => simp [intOf]; omega
    · obtain rfl : k = n := by omega
      go_wp2
      go_ret
      exact ⟨-1, _, rfl, fst_none hall.out, rfl⟩


theorem Bss.take {w : World} {a : Option Addr} {n c : Nat} {ls : List (List UInt8)} (h : Bss w a n c ls) {k : Nat} (hk : k ≤ n) : Bss w a k c (ls.take k) := by
  refine ⟨by rw [List.length_take, h.1]; omega, by have := h.2.1; omega, h.2.2.1, fun i hi => ?_⟩
  rw [nth_take ls hi (by rw [h.1]; omega)]
  exact h.get (by omega)
theorem Bss.drop {w : World} {a : Option Addr} {n c : Nat} {ls : List (List UInt8)} (h : Bss w a n c ls) {k : Nat} (hk : k ≤ n) : Bss w (subA a c k) (n - k) (c - k) (ls.drop k) := by
  refine ⟨by rw [List.length_drop, h.1], by have := h.2.1; omega, by have := h.2.2.1; omega, fun i hi => ?_⟩
  rw [nth_drop (l := ls) (k := k) (i := i) (by rw [h.1]; omega)]
  obtain ⟨b, off, ai, ni, ci, rfl, h1, h2⟩ := h.get (i := k + i) (by omega)
  have := h.2.1
  refine ⟨b, off + k, ai, ni, ci, by unfold subA; rw [if_neg (by omega)]; simp [Addr.add_lit], by rw [Nat.add_assoc]; exact h1, h2⟩
theorem missing_any (a : Option Addr) (n c : Nat) (ls : List (List UInt8)) (w : World) (h : Bss w a n c ls) (hn : n ≤ 1000000000) :
    Calls Try.prog 30 #[.slice a n c] w fun e w' => ∃ (r : Int) (q : Nat), e = .returned (.int .i64 r) ∧ decide (r < 0) = Rs.full ls ∧ w' = w.drewN q := by
  obtain ⟨ai, ci, hv⟩ := h.vals
  have hl := h.1
  have hI := Lib.hid (idxr_any 51 #[] a n c (fun i => .slice (ai i) (nth ls i).length (ci i)) (fun i => decide ((nth ls i).length = 0)) w (enters_of Try.func51 (by kernel_rfl) rfl) hn
    (fun i hi => (hv i hi).1)
    (fun q i hi => (emptyElem _ _ _ _).mono fun e w' ⟨h1, h2⟩ => ⟨h1, q, h2.symm⟩))
  clear hv h
  go_enter Try.func30, Try.ntmps30
  go_wp2_with fail
  refine hI.out.mono ?_
  rintro e w' ⟨r, q, rfl, hf, rfl⟩
  have hr : decide (r < 0) = Rs.full ls := by
    rcases first_or n (fun i => decide ((nth ls i).length = 0)) with h0 | ⟨k, hk, h1, h2⟩
    · rw [hf.none h0, full_true (fun k hk => by have := h0 k (by omega); simpa using this)]; rfl
    · rw [hf.some k hk h1 h2, full_false (k := k) (by omega) (by simpa using h1)]; simp
  have HR := Lib.hid hr
  clear hr hf
  go_wp2
  go_ret
  exact ⟨r, q, rfl, HR.out, rfl⟩
end Go.Proofs.Ytppgbapfmijboaa
