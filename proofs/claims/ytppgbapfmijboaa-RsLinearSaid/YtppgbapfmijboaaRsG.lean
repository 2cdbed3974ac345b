/- rs: Parity. -/
import Derived.Test.YtppgbapfmijboaaRsF
set_option maxRecDepth 100000
set_option linter.unusedVariables false
namespace Go.Proofs.Ytppgbapfmijboaa
open Go.RowKit Go.Deep

def Rs.parOk (K : Nat) (ls : List (List UInt8)) : Bool := (Rs.alk K ls).isSome && Rs.full ls
def Rs.par (K M : Nat) (ls : List (List UInt8)) : List (List UInt8) := mat M (nth ls 0).length (Rs.tm (mat M K (Gf.cau K)) ls K)
def Rs.parL (K M : Nat) (ls : List (List UInt8)) : List (List UInt8) := if Rs.parOk K ls = true then Rs.par K M ls else []
def Rs.parE (K : Nat) (ls : List (List UInt8)) : Int := if Rs.parOk K ls = true then 0 else 1

theorem zero_par : ZeroF 42 (.slice none 0 0) := by
  intro po x w h1 h2
  go_enter Try.func42, Try.ntmps42
  go_wp2
  go_end0
  exact ⟨rfl, rfl⟩

theorem sc_inv (ls : List (List UInt8)) : ∀ (k : Nat), k ≤ ls.length → ∀ x, Rs.sc (ls.take k) = some x → ∀ i, i < k → (nth ls i).length = 0 ∨ (nth ls i).length = x
  | 0, _, _, _, i, hi => by omega
  | k + 1, hk, x, h, i, hi => by
    rw [sc_snoc ls (by omega)] at h
    cases hm : Rs.sc (ls.take k) with
    | none => rw [hm] at h; cases h
    | some m =>
      rw [hm] at h
      simp only [Rs.sc1] at h
      split at h
      · cases h
      · rename_i hc
        have hx : max m (nth ls k).length = x := by simpa using h
        by_cases e : i = k
        · subst e; omega
        · have := sc_inv ls k (by omega) m hm i (by omega)
          omega
theorem sc_len {ls : List (List UInt8)} {s : Nat} (h : Rs.sc ls = some s) {i : Nat} (hi : i < ls.length) : (nth ls i).length = 0 ∨ (nth ls i).length = s :=
  sc_inv ls ls.length (Nat.le_refl _) s (by rw [List.take_length]; exact h) i hi
theorem alk_some {K s : Nat} {ls : List (List UInt8)} (h : Rs.alk K ls = some s) : ls.length = K ∧ Rs.sc ls = some s := by
  unfold Rs.alk at h
  by_cases e : ls.length = K
  · rw [if_pos e] at h; exact ⟨e, h⟩
  · rw [if_neg e] at h; cases h
theorem cau_row {K M j : Nat} (h : j < M) : (nth (mat M K (Gf.cau K)) j).length = K := by rw [mat_row h]; simp

/-- The two results' variables. -/
structure Two (w w2 : World) (x y : Value) : Prop where
  out : Below w.heap.size w w2
  c1 : w2.cell? ⟨w.heap.size, 0, none⟩ = some x
  c2 : w2.cell? ⟨w.heap.size + 1, 0, none⟩ = some y
  f1 : w2.frozen? ⟨w.heap.size, 0, none⟩ = false
  f2 : w2.frozen? ⟨w.heap.size + 1, 0, none⟩ = false
theorem Two.start (w : World) (x y : Value) (t1 t2 : TypeId) : Two w ((w.alloc (.cells #[x] t1)).alloc (.cells #[y] t2)) x y := by
  have hb : Below w.heap.size w ((w.alloc (.cells #[x] t1)).alloc (.cells #[y] t2)) := (below_alloc w _).trans ((below_alloc _ _).mono (by simp))
  have h1 : (w.alloc (.cells #[x] t1)).heap.size = w.heap.size + 1 := by simp
  have g1 : ((w.alloc (.cells #[x] t1)).alloc (.cells #[y] t2)).heap[w.heap.size]? = some (.cells #[x] t1 (0, 0)) := ((below_alloc (w.alloc (.cells #[x] t1)) (.cells #[y] t2)).block w.heap.size (by omega)).trans (heap_alloc_last w _)
  have g2 : ((w.alloc (.cells #[x] t1)).alloc (.cells #[y] t2)).heap[w.heap.size + 1]? = some (.cells #[y] t2 (0, 0)) := by rw [← h1]; exact heap_alloc_last _ _
  exact ⟨hb, by unfold World.cell?; simp only [g1]; rfl, by unfold World.cell?; simp only [g2]; rfl, by unfold World.frozen?; simp only [g1]; rfl, by unfold World.frozen?; simp only [g2]; rfl⟩
theorem Two.lt {w w2 : World} {x y : Value} (h : Two w w2 x y) : w.heap.size + 1 < w2.heap.size := by
  have := h.c2
  by_cases e : w.heap.size + 1 < w2.heap.size
  · exact e
  · simp [World.cell?, Array.getElem?_eq_none (by omega : w2.heap.size ≤ w.heap.size + 1)] at this
theorem Two.later {w w2 w3 : World} {x y : Value} (h : Two w w2 x y) (k : Below w2.heap.size w2 w3) : Two w w3 x y := by
  have hlt : w.heap.size + 1 < w2.heap.size := by
    have := h.c2
    by_cases e : w.heap.size + 1 < w2.heap.size
    · exact e
    · simp [World.cell?, Array.getElem?_eq_none (by omega : w2.heap.size ≤ w.heap.size + 1)] at this
  have e1 := k.block w.heap.size (by omega)
  have e2 := k.block (w.heap.size + 1) hlt
  exact ⟨h.out.trans (k.mono h.out.size), (World.cell?_of_block e1).trans h.c1, (World.cell?_of_block e2).trans h.c2,
    by have := h.f1; unfold World.frozen? at *; rw [e1]; exact this, by have := h.f2; unfold World.frozen? at *; rw [e2]; exact this⟩
theorem makeFunc_run (fn : Fn) (first cap : Array Value) (w : World) : (Instr.makeFunc fn first cap).run Try.prog w = .ok (.func fn first cap) w := rfl

theorem Two.set {w w2 : World} {x y : Value} (h : Two w w2 x y) (er z : Value) : Two w ((w2.setCell ⟨w.heap.size + 1, 0, none⟩ er).setCell ⟨w.heap.size, 0, none⟩ z) z er := by
  have g1 : (w2.setCell ⟨w.heap.size + 1, 0, none⟩ er).cell? ⟨w.heap.size, 0, none⟩ = some x := by rw [World.cell?_setCell_other _ _ _ _ (by simp)]; exact h.c1
  refine ⟨(h.out.setCell (by simp) _).setCell (by simp) _, World.cell?_setCell_same _ _ _ g1, ?_, by simpa using h.f1, by simpa using h.f2⟩
  rw [World.cell?_setCell_other _ _ _ _ (by simp)]
  exact World.cell?_setCell_same _ _ _ h.c2
theorem Two.set' {w w2 : World} {x y : Value} (h : Two w w2 x y) (er z : Value) : Two w ((w2.setCell ⟨w.heap.size, 0, none⟩ z).setCell ⟨w.heap.size + 1, 0, none⟩ er) z er := by
  have g1 : (w2.setCell ⟨w.heap.size, 0, none⟩ z).cell? ⟨w.heap.size + 1, 0, none⟩ = some y := by rw [World.cell?_setCell_other _ _ _ _ (by simp)]; exact h.c2
  refine ⟨(h.out.setCell (by simp) _).setCell (by simp) _, ?_, World.cell?_setCell_same _ _ _ g1, by simpa using h.f1, by simpa using h.f2⟩
  rw [World.cell?_setCell_other _ _ _ _ (by simp)]
  exact World.cell?_setCell_same _ _ _ h.c1
/-- The results are read out of the two variables. -/
def Reads2 (fn : Func) (tmps : Array Value) (n : Nat) : Prop := ∀ (W : World) (v1 v2 : Value), W.cell? ⟨n, 0, none⟩ = some v1 → W.cell? ⟨n + 1, 0, none⟩ = some v2 → (results fn tmps).run Try.prog W = .ok (.tuple #[v1, v2]) W
def deferTold (n F : Nat) : Deferred := { target := .fn (.func 27) #[], args := #[.pointer (some ⟨n + 1, 0, none⟩), .func (.func F) #[] #[.pointer (some ⟨n, 0, none⟩)]] }
/-- The door, where an error was given up. -/
theorem door_err {fn : Func} {tmps : Array Value} {w w2 : World} {x z : Value} {y er : Int} {F : Nat} {R : Ending → World → Prop} (hr : Reads2 fn tmps w.heap.size) (hT : Two w w2 x (.int .i64 y)) (eg : Enters Try.prog F) (hF : ZeroF F z)
    (hR : ∀ W, Below w.heap.size w W → R (.returned (.tuple #[z, .int .i64 er])) W) : Leaves Try.prog fn tmps R [deferTold w.heap.size F] (.panicking [errE er]) w2 := by
  refine leaves_cons (f := 27) (args := #[.pointer (some ⟨w.heap.size + 1, 0, none⟩), .func (.func F) #[] #[.pointer (some ⟨w.heap.size, 0, none⟩)]]) (by simp) (by simp [go_sem]) ?_
  refine (told_err ⟨w.heap.size + 1, 0, none⟩ ⟨w.heap.size, 0, none⟩ F z x y er w2 eg hF hT.c2 hT.f2 hT.c1 hT.f1 (by simp)).mono ?_
  rintro e u' w'' ⟨rfl, rfl, rfl⟩
  have h := hT.set (.int .i64 er) z
  exact ⟨_, hr _ _ _ h.c1 h.c2, hR _ h.out⟩
/-- The door, where the function returns. -/
theorem door_ok {fn : Func} {tmps : Array Value} {w w2 : World} {x y : Value} {F : Nat} {R : Ending → World → Prop} (hr : Reads2 fn tmps w.heap.size) (hT : Two w w2 x y)
    (hR : R (.returned (.tuple #[x, y])) w2) : Leaves Try.prog fn tmps R [deferTold w.heap.size F] .returning w2 := by
  refine leaves_cons (f := 27) (args := #[.pointer (some ⟨w.heap.size + 1, 0, none⟩), .func (.func F) #[] #[.pointer (some ⟨w.heap.size, 0, none⟩)]]) (by simp) (by simp [go_sem]) ?_
  refine (told_idle _ _ _ _).mono ?_
  rintro e u' w'' ⟨rfl, rfl, rfl⟩
  exact ⟨_, hr _ _ _ hT.c1 hT.c2, hR⟩

set_option maxHeartbeats 2000000 in
theorem parity_any (b K M : Nat) (aq : Option Addr) (ns cs : Nat) (ls : List (List UInt8)) (w : World) (hc : Cod w b K M) (hs : Bss w aq ns cs ls) (h1 : 1 ≤ K) (h2 : K + M ≤ 255) (h3 : ns ≤ 1000000000) (h4 : ∀ i, i < ns → (nth ls i).length ≤ 100000000) :
    Calls Try.prog 21 #[.pointer (some ⟨b, 0, none⟩), .slice aq ns cs] w (MOwn (Rs.parL K M ls) (Rs.parE K ls) w) := by
  have hmf := makeFunc_run
  obtain ⟨w2, hw2⟩ : ∃ w2, (w.alloc (.cells #[.slice none 0 0] 28)).alloc (.cells #[.int .i64 0] 25) = w2 := ⟨_, rfl⟩
  have hT := Two.start w (.slice none 0 0) (.int .i64 0) 28 25
  rw [hw2] at hT
  have HC : Hid (∀ W, Below w.heap.size w W → Cod W b K M) := Lib.hid fun W h => hc.below h
  have HS : Hid (∀ W, Below w.heap.size w W → Bss W aq ns cs ls) := Lib.hid fun W h => hs.below h
  have HT := Lib.hid hT
  have HW := Lib.hid hw2
  have k1 := (HC.out w2 hT.out).k
  have k0 := k1
  rw [← hw2] at k0
  clear hc hs hT hw2
  go_enter_defers Try.func21, Try.ntmps21
  go_wp2_with fail
  rw [HW.out]
  clear k0 HW
  refine (alike_any _ K ns cs ls w2 (HS.out _ HT.out.out) (by omega)).mono ?_
  rintro e w3 ⟨rfl, rfl⟩
  cases hA : Rs.alk K ls with
  | none =>
    simp only [alkE]
    have e1 : Rs.parOk K ls = false := by unfold Rs.parOk; rw [hA]; rfl
    refine door_err (F := 42) (fun W v1 v2 g1 g2 => by simp [results, Try.results21, go_sem, g1, g2]) HT.out (enters_of Try.func42 (by kernel_rfl) rfl) zero_par (fun W hb => ?_)
    unfold Rs.parL Rs.parE
    rw [e1]
    exact nil_own rfl hb
  | some s =>
    simp only [alkE]
    go_wp2_with fail
    refine (missing_any _ _ _ ls w2 (HS.out _ HT.out.out) h3).mono ?_
    rintro e w3 ⟨r, q, rfl, hr, hq⟩
    have HT3 := Lib.hid (HT.out.later (hq ▸ below_drewN (Below.refl _ _) q))
    have HR := Lib.hid hr
    have HA := Lib.hid hA
    clear HT hq hr hA k1
    by_cases hf : Rs.full ls = true
    case neg =>
      have hf : Rs.full ls = false := by simpa using hf
      have hr0 : 0 ≤ r := by have := HR.out; rw [hf] at this; simpa using this
      have t1 : decide (0 ≤ r) = true := decide_eq_true hr0
      have e1 : Hid (Rs.parOk K ls = false) := Lib.hid (by unfold Rs.parOk; rw [hf]; simp)
      clear hr0 hf
      go_wp2_with (go_at_call 31; refine (give_any _ _).mono ?_; rintro e w' ⟨rfl, rfl⟩)
      refine door_err (F := 42) (fun W v1 v2 g1 g2 => by simp [results, Try.results21, go_sem, g1, g2]) HT3.out (enters_of Try.func42 (by kernel_rfl) rfl) zero_par (fun W hb => ?_)
      unfold Rs.parL Rs.parE
      rw [e1.out]
      exact nil_own rfl hb
    have hr0 : r < 0 := by have := HR.out; rw [hf] at this; simpa using this
    have t1 : decide (0 ≤ r) = false := decide_eq_false (by omega)
    have e1 : Hid (Rs.parOk K ls = true) := Lib.hid (by unfold Rs.parOk; rw [hf, HA.out]; rfl)
    obtain ⟨hlen, hsc⟩ := alk_some HA.out
    have hns := (HS.out _ HT3.out.out).1
    obtain rfl : ns = K := by omega
    have HL : Hid (∀ i, i < ns → (nth ls i).length = s) := Lib.hid fun i hi => by
      rcases sc_len hsc (i := i) (by omega) with h | h
      · exact absurd h (full_at hf (by omega))
      · exact h
    have hs4 : s ≤ 100000000 := by rw [← HL.out 0 (by omega)]; exact h4 0 (by omega)
    have hcd := HC.out _ HT3.out.out
    have k2 := hcd.m
    obtain ⟨ap, np, cp, k3, hp⟩ := hcd.p
    have HP := Lib.hid hp
    have c1 := HT3.out.c1
    have c2 := HT3.out.c2
    have f1 := HT3.out.f1
    have f2 := HT3.out.f2
    have HN := Lib.hid hns
    clear hr0 hf hcd hp hlen hsc HR hns h4
    have hE : Rs.parE ns ls = 0 := by unfold Rs.parE; rw [e1.out]; rfl
    by_cases hM : M = 0
    · subst hM
      have t2 : ((0 : Nat) : Int) == 0 := rfl
      have hLL : Hid (Rs.parL ns 0 ls = []) := Lib.hid (by unfold Rs.parL; rw [e1.out]; rfl)
      have hEE := Lib.hid hE
      clear hE
      go_wp2
      refine door_ok (F := 42) (fun W v1 v2 g1 g2 => by simp [results, Try.results21, go_sem, g1, g2]) (HT3.out.set' (.int .i64 0) (.slice none 0 0)) ?_
      rw [hLL.out, hEE.out]
      exact nil_own rfl (HT3.out.set' (.int .i64 0) (.slice none 0 0)).out
    · have t2 : ((M : Int) == 0) = false := by simp; omega
      have hLL : Hid (Rs.parL ns M ls = mat M s (Rs.tm (mat M ns (Gf.cau ns)) ls ns)) := Lib.hid (by unfold Rs.parL Rs.par; rw [e1.out, if_pos rfl, HL.out 0 (by omega)])
      have hEE := Lib.hid hE
      have hnp : np = M := by rw [← HP.out.1, mat_len]
      subst hnp
      clear hE hM c1 c2 f1 f2
      go_wp2_with fail
      refine (times_any' _ _ _ _ _ _ _ _ s w3 HP.out (HS.out _ HT3.out.out) (by omega) HL.out (fun j hj => by rw [cau_row hj]; exact Nat.le_refl _) (by omega) (by omega) (by omega)).mono ?_
      rintro e w4 ⟨⟨g, bl, rfl, hmx⟩, hb4⟩
      have HT4 := Lib.hid (HT3.out.later hb4)
      have c1 := HT4.out.c1
      have c2 := HT4.out.c2
      have f1 := HT4.out.f1
      have f2 := HT4.out.f2
      have hlt : w.heap.size + 1 < w3.heap.size := HT3.out.lt
      have HX : Hid (Mx ((w4.setCell ⟨w.heap.size, 0, none⟩ (.slice (some ⟨g, 0, none⟩) np np)).setCell ⟨w.heap.size + 1, 0, none⟩ (.int .i64 0)) w3.heap.size g np s bl (Rs.tm (mat np ns (Gf.cau ns)) ls ns)) :=
        Lib.hid (hmx.other fun j hj => (Below.heap_setCell _ _ _ _ (by show j ≠ w.heap.size + 1; omega)).trans (Below.heap_setCell _ _ _ _ (by show j ≠ w.heap.size; omega)))
      clear hmx hb4
      go_wp2
      refine door_ok (F := 42) (fun W v1 v2 g1 g2 => by simp [results, Try.results21, go_sem, g1, g2]) (HT4.out.set' (.int .i64 0) (.slice (some ⟨g, 0, none⟩) np np)) ?_
      rw [hLL.out, hEE.out]
      have hmy := HX.out.my (by simp only [maxLen]; omega)
      exact ⟨⟨_, _, _, rfl, hmy.bss (Nat.le_refl _) (by simp only [maxLen]; omega), .inr ⟨g, s, bl, _, _, rfl, hmy.mono (by omega), rfl⟩⟩, (HT4.out.set' (.int .i64 0) (.slice (some ⟨g, 0, none⟩) np np)).out⟩
end Go.Proofs.Ytppgbapfmijboaa
