/- rs: Check. -/
import Derived.Test.YtppgbapfmijboaaRsI
set_option maxRecDepth 100000
set_option linter.unusedVariables false
namespace Go.Proofs.Ytppgbapfmijboaa
open Go.RowKit Go.Deep

def Rs.chkOk (K M : Nat) (ls : List (List UInt8)) : Bool := (Rs.alk (K + M) ls).isSome && Rs.full ls
def Rs.chkB (K M : Nat) (ls : List (List UInt8)) : Bool := if Rs.chkOk K M ls = true then decide (Rs.parL K M (ls.take K) = ls.drop K) else false
def Rs.chkE (K M : Nat) (ls : List (List UInt8)) : Int := if Rs.chkOk K M ls = true then 0 else 1
def BRes (v : Bool) (er : Int) (w : World) (e : Ending) (w' : World) : Prop := e = .returned (.tuple #[.bool v, .int .i64 er]) ∧ Below w.heap.size w w'
theorem chk_bad {K M : Nat} {ls : List (List UInt8)} (h : Rs.chkOk K M ls = false) : Rs.chkB K M ls = false ∧ Rs.chkE K M ls = 1 := by
  unfold Rs.chkB Rs.chkE; rw [h]; exact ⟨rfl, rfl⟩
theorem chk_good {K M : Nat} {ls : List (List UInt8)} (h : Rs.chkOk K M ls = true) : Rs.chkB K M ls = decide (Rs.parL K M (ls.take K) = ls.drop K) ∧ Rs.chkE K M ls = 0 := by
  unfold Rs.chkB Rs.chkE; rw [if_pos h, if_pos h]; exact ⟨rfl, rfl⟩
theorem zero_chk : ZeroF 28 (.bool false) := by
  intro po x w h1 h2
  go_enter Try.func28, Try.ntmps28
  go_wp2
  go_end0
  exact ⟨rfl, rfl⟩
theorem alike_sum (K M : Nat) (aq : Option Addr) (ns cs : Nat) (ls : List (List UInt8)) (w : World) (h : Bss w aq ns cs ls) (hn : K + M ≤ 1000) :
    Calls Try.prog 29 #[.int .i64 ((K : Int) + (M : Int)), .slice aq ns cs] w fun e w' => e = alkE (Rs.alk (K + M) ls) ∧ w = w' := by
  have := alike_any aq (K + M) ns cs ls w h (by omega)
  rwa [Int.natCast_add] at this

theorem slicer_h (a : Option Addr) (n c : Nat) {hi : Int} {hi' : Nat} (hhi : hi = hi') (h2 : hi' ≤ c) (w : World) :
    (Instr.slice 28 (.slice a n c) none (some (.int .i64 hi)) none).run Try.prog w = .ok (.slice a hi' c) w := by
  obtain ⟨i, hi0, _, g1, _⟩ := info_parts infoSs
  exact run_slice_h Try.underlying28 hi0 g1 a n c hhi h2 w
theorem slicer_l (a : Option Addr) (n c : Nat) {lo : Int} {lo' : Nat} (hlo : lo = lo') (h1 : lo' ≤ n) (w : World) :
    (Instr.slice 28 (.slice a n c) (some (.int .i64 lo)) none none).run Try.prog w = .ok (.slice (subA a c lo') (n - lo') (c - lo')) w := by
  obtain ⟨i, hi0, _, g1, _⟩ := info_parts infoSs
  rw [run_slice_l Try.underlying28 hi0 g1 a n c hlo h1, subAn_one]
theorem full_take {ls : List (List UInt8)} (h : Rs.full ls = true) (k : Nat) : Rs.full (ls.take k) = true :=
  full_true fun j hj => by
    rw [List.length_take] at hj
    rw [nth_take ls (show j < k by omega) (by omega)]
    exact full_at h (by omega)
theorem sc_take {ls : List (List UInt8)} {s : Nat} (h : Rs.sc ls = some s) (k : Nat) : ∃ t, Rs.sc (ls.take k) = some t := by
  cases hk : Rs.sc (ls.take k) with
  | none => rw [sc_bad hk] at h; cases h
  | some t => exact ⟨t, rfl⟩

set_option maxHeartbeats 4000000 in
theorem check_any (b K M : Nat) (aq : Option Addr) (ns cs : Nat) (ls : List (List UInt8)) (w : World) (hc : Cod w b K M) (hs : Bss w aq ns cs ls) (h1 : 1 ≤ K) (h2 : K + M ≤ 255) (h3 : ns ≤ 1000000000) (h4 : ∀ i, i < ns → (nth ls i).length ≤ 100000000) :
    Calls Try.prog 10 #[.pointer (some ⟨b, 0, none⟩), .slice aq ns cs] w (BRes (Rs.chkB K M ls) (Rs.chkE K M ls) w) := by
  have hmf := makeFunc_run
  obtain ⟨w2, hw2⟩ : ∃ w2, (w.alloc (.cells #[.bool false] 4)).alloc (.cells #[.int .i64 0] 25) = w2 := ⟨_, rfl⟩
  have hT := Two.start w (.bool false) (.int .i64 0) 4 25
  rw [hw2] at hT
  have HC : Hid (∀ W, Below w.heap.size w W → Cod W b K M) := Lib.hid fun W h => hc.below h
  have HS : Hid (∀ W, Below w.heap.size w W → Bss W aq ns cs ls) := Lib.hid fun W h => hs.below h
  have HT := Lib.hid hT
  have HW := Lib.hid hw2
  have k1 := (HC.out w2 hT.out).k
  have k2 := (HC.out w2 hT.out).m
  clear hc hs hT hw2
  go_enter_defers Try.func10, Try.ntmps10
  go_wp2_with fail
  rw [HW.out]
  clear HW
  go_still_tail 10, (by kernel_rfl)
  go_wp2_with fail
  have hT2 := Lib.hid (HT.out.later (Below.refl _ _).drew)
  generalize w2.drew = w3 at *
  clear HT k1 k2
  refine (alike_sum K M aq ns cs ls w3 (HS.out _ hT2.out.out) (by omega)).mono ?_
  rintro e w4 ⟨rfl, rfl⟩
  have hreads : ∀ tmps : Array Value, tmps.getD 4 undef = .pointer (some ⟨w.heap.size, 0, none⟩) → tmps.getD 5 undef = .pointer (some ⟨w.heap.size + 1, 0, none⟩) → Reads2 Try.f10 tmps w.heap.size := fun tmps t4 t5 W v1 v2 g1 g2 => by
    simp [results, Try.results10, go_sem, g1, g2] at t4 t5 ⊢
    simp [t4, t5, asAddr, g1, g2, go_sem]
  have HRD := Lib.hid hreads
  clear hreads
  cases hA : Rs.alk (K + M) ls with
  | none =>
    obtain ⟨e1, e2⟩ := chk_bad (K := K) (M := M) (ls := ls) (by unfold Rs.chkOk; rw [hA]; rfl)
    simp only [alkE]
    refine door_err (F := 28) (HRD.out _ rfl rfl) hT2.out (enters_of Try.func28 (by kernel_rfl) rfl) zero_chk (fun W hb => ?_)
    rw [e1, e2]
    exact ⟨rfl, hb⟩
  | some s =>
    simp only [alkE]
    go_wp2_with fail
    refine (missing_any _ _ _ ls w3 (HS.out _ hT2.out.out) h3).mono ?_
    rintro e w5 ⟨r, q, rfl, hr, hq⟩
    have HT3 := Lib.hid (hT2.out.later (hq ▸ below_drewN (Below.refl _ _) q))
    have HR := Lib.hid hr
    have HA := Lib.hid hA
    clear hT2 hq hr hA
    by_cases hf : Rs.full ls = true
    case neg =>
      have hf : Rs.full ls = false := by simpa using hf
      have hr0 : 0 ≤ r := by have := HR.out; rw [hf] at this; simpa using this
      have t1 : decide (0 ≤ r) = true := decide_eq_true hr0
      have e1 := Lib.hid (chk_bad (K := K) (M := M) (ls := ls) (by unfold Rs.chkOk; rw [hf]; simp))
      clear hr0 hf
      go_wp2_with (go_at_call 31; refine (give_any _ _).mono ?_; rintro e w' ⟨rfl, rfl⟩)
      refine door_err (F := 28) (HRD.out _ rfl rfl) HT3.out (enters_of Try.func28 (by kernel_rfl) rfl) zero_chk (fun W hb => ?_)
      rw [e1.out.1, e1.out.2]
      exact ⟨rfl, hb⟩
    have hr0 : r < 0 := by have := HR.out; rw [hf] at this; simpa using this
    have t1 : decide (0 ≤ r) = false := decide_eq_false (by omega)
    have e1 := Lib.hid (chk_good (K := K) (M := M) (ls := ls) (by unfold Rs.chkOk; rw [hf, HA.out]; rfl))
    obtain ⟨hlen, hsc⟩ := alk_some HA.out
    have hbs := HS.out _ HT3.out.out
    have hns := hbs.1
    have hnc := hbs.2.1
    obtain rfl : ns = K + M := by omega
    have hpE : Hid (Rs.parE K (ls.take K) = 0) := Lib.hid (by
      obtain ⟨t, ht⟩ := sc_take hsc K
      have hal : Rs.alk K (ls.take K) = some t := by unfold Rs.alk; rw [if_pos (by rw [List.length_take]; omega)]; exact ht
      unfold Rs.parE Rs.parOk
      rw [full_take hf K, hal]; rfl)
    have hs1 := slicer_h aq (K + M) cs (hi := (K : Int)) (hi' := K) rfl (by omega)
    have hs2 := slicer_l aq (K + M) cs (lo := (K : Int)) (lo' := K) rfl (by omega)
    rw [Nat.add_sub_cancel_left] at hs2
    have HTK : Hid (∀ W, Below w.heap.size w W → Bss W aq K cs (ls.take K)) := Lib.hid fun W h => (HS.out W h).take (by omega)
    have HDR : Hid (∀ W, Below w.heap.size w W → Bss W (subA aq cs K) M (cs - K) (ls.drop K)) := Lib.hid fun W h => by have := (HS.out W h).drop (k := K) (by omega); rwa [Nat.add_sub_cancel_left] at this
    have HL4 : Hid (∀ i, i < K → (nth (ls.take K) i).length ≤ 100000000) := Lib.hid fun i hi => by rw [nth_take ls hi (by omega)]; exact h4 i (by omega)
    have k1 := (HC.out w5 HT3.out.out).k
    clear hr0 hf hbs hlen hsc HR HA h4
    go_wp2_with fail
    refine (parity_any b K M _ _ _ _ w5 (HC.out _ HT3.out.out) (HTK.out _ HT3.out.out) h1 h2 (by omega) HL4.out).mono ?_
    rintro e w6 ⟨⟨a6, n6, c6, rfl, hB6, _⟩, hb6⟩
    rw [hpE.out]
    have HT4 := Lib.hid (HT3.out.later hb6)
    have HB6 := Lib.hid hB6
    have k1' := (HC.out w6 HT4.out.out).k
    clear hb6 hB6 k1
    go_wp2_with fail
    refine (equalf_any _ _ _ _ _ _ _ _ w6 HB6.out (HDR.out _ HT4.out.out)).mono ?_
    rintro e w7 ⟨rfl, hb7⟩
    have HT5 := Lib.hid (HT4.out.later hb7)
    have c1 := HT5.out.c1
    have c2 := HT5.out.c2
    have f1 := HT5.out.f1
    have f2 := HT5.out.f2
    clear hb7 k1' hs1 hs2
    go_wp2
    refine door_ok (F := 28) (HRD.out _ rfl rfl) (HT5.out.set' (.int .i64 0) (.bool (decide (Rs.parL K M (ls.take K) = ls.drop K)))) ?_
    rw [e1.out.1, e1.out.2]
    exact ⟨rfl, (HT5.out.set' (.int .i64 0) (.bool (decide (Rs.parL K M (ls.take K) = ls.drop K)))).out⟩
end Go.Proofs.Ytppgbapfmijboaa
