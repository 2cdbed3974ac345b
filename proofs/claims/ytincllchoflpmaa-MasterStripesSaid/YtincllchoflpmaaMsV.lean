/- slices.Grow of nothing, slices.Concat of rows of ints. -/
import Derived.Test.YtincllchoflpmaaMsC
import Derived.Lib.AppendZerosOnto
namespace Go.Proofs.Ytincllchoflpmaa
open Go.RowKit
set_option linter.unusedVariables false

/-- Slices of ints that are read. -/
def Iss (w : World) (a : Option Addr) (n c : Nat) (ls : List (List Int)) : Prop :=
  ls.length = n ∧ n ≤ c ∧ c ≤ maxLen ∧ ∀ i, i < n → ∃ b off ai ni ci, a = some ⟨b, off, none⟩ ∧ w.cell? ⟨b, off + i, none⟩ = some (.slice ai ni ci) ∧ Is w ai ni ci (nth ls i)
theorem Iss.below {w w' : World} {a : Option Addr} {n c : Nat} {ls : List (List Int)} (h : Iss w a n c ls) (k : Below w.heap.size w w') : Iss w' a n c ls :=
  ⟨h.1, h.2.1, h.2.2.1, fun i hi => by obtain ⟨b, off, ai, ni, ci, h1, h2, h3⟩ := h.2.2.2 i hi; exact ⟨b, off, ai, ni, ci, h1, cell_later k h2, h3.below k⟩⟩
theorem Iss.le {w : World} {a : Option Addr} {n c : Nat} {ls : List (List Int)} (h : Iss w a n c ls) : n ≤ 9223372036854775807 ∧ c ≤ 9223372036854775807 := by
  have := h.2.1; have := h.2.2.1; simp only [maxLen] at *; omega
theorem Iss.get {w : World} {a : Option Addr} {n c : Nat} {ls : List (List Int)} (h : Iss w a n c ls) {i : Nat} (hi : i < n) :
    ∃ b off ai ni ci, a = some ⟨b, off, none⟩ ∧ w.cell? ⟨b, off + i, none⟩ = some (.slice ai ni ci) ∧ Is w ai ni ci (nth ls i) := h.2.2.2 i hi
def itot (ls : List (List Int)) : Nat := ls.flatten.length
theorem itot_snoc (ls : List (List Int)) {i : Nat} (hi : i < ls.length) : itot (ls.take (i + 1)) = itot (ls.take i) + (nth ls i).length := by
  unfold itot; rw [take_snoc ls hi]; simp
theorem itot_le (ls : List (List Int)) (i : Nat) : itot (ls.take i) ≤ itot ls := by
  have h := congrArg (fun l => l.flatten.length) (List.take_append_drop i ls)
  simp only [List.flatten_append, List.length_append] at h
  unfold itot; omega
/-- A slice of ints of the call's own is told. -/
def RetIs (w : World) (l : List Int) (e : Ending) (w' : World) : Prop := ∃ a n c, e = .returned (.slice a n c) ∧ AccI w' w.heap.size a n c l ∧ Below w.heap.size w w'
def GrowI (n : Nat) (w : World) (e : Ending) (w' : World) : Prop := ∃ a c, e = .returned (.slice a 0 c) ∧ AccI w' w.heap.size a 0 c [] ∧ Below w.heap.size w w'
theorem own_lowI {w : World} {B e s n c : Nat} {a : Option Addr} {cs : List Value} (h : w.ownsRow B e s (.slice a n c) n cs) : ∀ x, a = some x → B ≤ x.block := by
  intro x hx
  rcases h.2 with ⟨h1, _⟩ | ⟨g, cap, cur, h1, h2, _⟩
  · rw [hx] at h1; cases h1
  · rw [hx] at h1; cases h1; exact h2
theorem growi_own (w : World) (n : Nat) (hn : n ≤ 1000000000) (cs : Array Value) (hc : cs.size = grownCap w n 0 3) : GrowI n w (.returned (.slice (some ⟨w.heap.size, 0, none⟩) 0 (grownCap w n 0 3))) (w.drew.alloc (.cells cs 3)) := by
  refine ⟨_, _, rfl, ⟨rfl, ⟨rfl, .inr ⟨w.heap.size, _, cs, rfl, Nat.le_refl _, heap_alloc_new w.drew _, Nat.zero_le _, grownCap_le_maxLen w n 0 _ (by simp only [maxLen]; omega), by simp [hc], by simp [zv]⟩⟩, fun z hz => (by cases hz)⟩, (Below.refl _ _).drew.alloc (Nat.le_refl _) _⟩
set_option maxHeartbeats 1000000 in
theorem growi_any (n : Nat) (w : World) (hn : n ≤ 1000000000) :
    Calls Try.prog 92 #[.slice none 0 0, .int .i64 n] w (GrowI n w) := by
  have t1 : decide ((n : Int) < 0) = false := decide_eq_false (by omega)
  by_cases h0 : n = 0
  · subst h0
    have HP : Hid (GrowI 0 w (.returned (.slice none 0 0)) w) := Lib.hid ⟨none, 0, rfl, AccI.nil _ _, Below.refl _ _⟩
    go_enter Try.func92, Try.ntmps92
    go_wp2
    go_ret
    exact HP.out
  · obtain ⟨i, hi, hz, h1, h2⟩ := info_parts infoI
    have hg := grownCap_ge w n 0 3
    have hcm := grownCap_le_maxLen w n 0 3 (by simp only [maxLen]; omega)
    have hap : ∀ ty, (Builtin.append_ #[39, 3] ty #[.slice none 0 0, .int .i64 (n : Int)]).run Try.prog w =
        .ok (.slice (some ⟨w.heap.size, 0, none⟩) n (grownCap w n 0 3)) (w.drew.alloc (.cells (#[] ++ Builtin.zeroCells (Value.int .i64 0).cells n ++ Builtin.zeroCells (Value.int .i64 0).cells (grownCap w n 0 3 - n)) 3)) := by
      intro ty
      have := Lib.run_append_grow_zeros (P := Try.prog) w 39 3 ty 3 i (.int .i64 0) .i64 .i64 Try.underlying39 Try.underlying3 hi hz none 0 0 [] (run_firstCells_none _ _ _ _ _) n (by omega) (by omega) (by omega) (by omega) (by rw [h2]; omega)
        (by rw [Nat.zero_add]; exact growslice_fits (by omega) (by rw [h2]; omega))
      simpa using this
    have HP := Lib.hid (growi_own w n hn (#[] ++ Builtin.zeroCells (Value.int .i64 0).cells n ++ Builtin.zeroCells (Value.int .i64 0).cells (grownCap w n 0 3 - n)) (by simp [size_zeroCells, Value.cells]; omega))
    simp only [maxLen] at hcm
    generalize (#[] ++ Builtin.zeroCells (Value.int .i64 0).cells n ++ Builtin.zeroCells (Value.int .i64 0).cells (grownCap w n 0 3 - n)) = cs at *
    generalize grownCap w n 0 3 = C at *
    have hs := fun W => run_slice_h (P := Try.prog) (t := 39) Try.underlying39 hi h1 none 0 0 (show (0 : Int) = ((0 : Nat) : Int) from rfl) (Nat.le_refl _) W
    have hs2 := fun W => run_slice_h (P := Try.prog) (t := 39) Try.underlying39 hi h1 (some ⟨w.heap.size, 0, none⟩) n C (show (0 : Int) = ((0 : Nat) : Int) from rfl) (Nat.zero_le _) W
    have t2 : decide ((0 : Int) < (n : Int)) = true := decide_eq_true (by omega)
    have hC : C ≤ 9223372036854775807 := by omega
    have HAP := Lib.hid hap
    have t3 : decide (0 < n) = true := decide_eq_true (by omega)
    clear h0 hg hcm hi hz h1 h2 hap
    go_enter Try.func92, Try.ntmps92
    go_wp2_with (at_builtin; refine Lib.wpList_append_run _ rfl _ _ _ _ rfl _ _ rfl rfl _ _ (HAP.out _) ?_)
    go_ret
    exact HP.out
set_option maxHeartbeats 1000000 in
theorem concati_any (a : Option Addr) (n c : Nat) (ls : List (List Int)) (w : World) (h : Iss w a n c ls) (hf : itot ls ≤ 1000000000) :
    Calls Try.prog 68 #[.slice a n c] w (RetIs w ls.flatten) := by
  obtain ⟨i0, hi0, hz0, hz1, hz2⟩ := info_parts infoI
  have HI := Lib.hid (And.intro hi0 (And.intro hz0 (And.intro hz1 hz2)))
  clear hi0 hz0 hz1 hz2
  have hle := h.le.1
  have HL := Lib.hid h.1
  have HBs := Lib.hid h
  clear h
  go_enter Try.func68, Try.ntmps68
  go_wp2_with fail
  go_loop [3, 11] (fun s i => ∃ k : Nat, k ≤ n ∧ i = .int .i64 k ∧ s = .int .i64 (itot (ls.take k) : Nat)) (fun _ i => n - (intOf i).toNat)
  case atStart => exact ⟨0, by omega, rfl, by simp [itot]⟩
  case round =>
    obtain ⟨k, hk, rfl, rfl⟩ := hrel
    by_cases hlt : k < n
    · obtain ⟨b, off, ai, ni, ci, rfl, hc, hr⟩ := HBs.out.get hlt
      have ht := itot_snoc ls (i := k) (by rw [HL.out]; exact hlt)
      have h1 := itot_le ls (k + 1)
      rw [hr.1] at ht
      have HT := Lib.hid ht
      have hb : itot (ls.take k) + ni ≤ 1000000000 := by omega
      have t1 : decide (((itot (ls.take k) : Nat) : Int) + (ni : Int) < 0) = false := decide_eq_false (by omega)
      clear ht h1 hr hf
      generalize itot (ls.take k) = s at *
      go_wp2
      go_round
      case rel => exact ⟨k + 1, by omega, by go_num, by rw [HT.out]; go_num⟩
      case measure => simp [intOf]; omega
    · obtain rfl : k = n := by omega
      have e1 : ls.take k = ls := by rw [← HL.out, List.take_length]
      rw [e1]
      clear e1
      go_wp2_with fail
      refine (growi_any (itot ls) w hf).mono ?_
      rintro e w1 ⟨a1, c1, rfl, ho, hb⟩
      have HO := Lib.hid ho
      have HB := Lib.hid hb
      clear ho hb
      go_wp2_with fail
      go_loopw [6, 27] (fun v i wr => ∃ (j m cv : Nat) (av : Option Addr), j ≤ k ∧ i = .int .i64 j ∧ v = .slice av m cv ∧ AccI wr w.heap.size av m cv (ls.take j).flatten ∧ Below w.heap.size w wr) (fun _ i _ => k - (intOf i).toNat)
      case atStart => exact ⟨0, 0, c1, a1, by omega, rfl, rfl, HO.out, HB.out⟩
      case round =>
        obtain ⟨j, m, cv, av, hj, rfl, rfl, ho2, hb2⟩ := hrel
        by_cases hlt2 : j < k
        · obtain ⟨b, off, ai, ni, ci, rfl, hc, hr⟩ := (HBs.out.below hb2).get hlt2
          have hml := ho2.1
          have ht := itot_snoc ls (i := j) (by rw [HL.out]; exact hlt2)
          have h1 := itot_le ls (j + 1)
          rw [hr.1] at ht
          have hmt : m = itot (ls.take j) := hml.symm
          have hfl : (ls.take (j + 1)).flatten = (ls.take j).flatten ++ nth ls j := by rw [take_snoc ls (by rw [HL.out]; exact hlt2)]; simp
          have HF := Lib.hid hfl
          have HO2 := Lib.hid ho2
          have HB2 := Lib.hid hb2
          have HR := Lib.hid hr
          have HOL := Lib.hid (own_lowI ho2.2.1)
          have HAC : Hid (∀ a5 c5 w5, w5.ownsRow w.heap.size 3 1 (.slice a5 (m + ni) c5) (m + ni) (zv (ls.take j).flatten ++ zv (nth ls j)) → AccI w5 w.heap.size a5 (m + ni) c5 ((ls.take j).flatten ++ nth ls j)) := Lib.hid fun a5 c5 w5 h => ⟨by rw [List.length_append, hml, hr.1], by simpa [zv] using h, fun z hz => (List.mem_append.1 hz).elim (ho2.2.2 z) (hr.2.2.2.2 z)⟩
          have hmb : m + ni ≤ 1000000000 := by omega
          clear hml ht h1 hmt hfl ho2 hb2 hr hf
          go_wp2_with (at_builtin; refine wpList_app_own rfl _ _ 39 rfl w.heap.size 3 i0 (.int .i64 0) 1 8 Try.underlying39 HI.out.1 HI.out.2.1 HI.out.2.2.1 HI.out.2.2.2 rfl (by decide) av m cv (zv (ls.take j).flatten) rfl HO2.out.2.1 ai ni ci (zv (nth ls j)) rfl HR.out.2.2.2.1 (by rw [Nat.mul_one]; simp [zv, HR.out.1]) (zv_one _) (by omega) (by simp only [maxLen]; omega) HB2.out.size ?_; intro a5 c5 w5 h5' hev5; have hb5 := hev5.below (B := w.heap.size) HB2.out.size HOL.out; have h5 := HAC.out a5 c5 w5 h5'; clear h5' hev5)
          have hb6 := HB2.out.trans hb5
          have H5 := Lib.hid h5
          clear h5 hb5
          go_wp2
          go_roundw
          case rel => exact ⟨j + 1, m + ni, c5, a5, by omega, by go_num, rfl, by rw [HF.out]; exact H5.out, hb6⟩
          case measure => simp [intOf]; omega
        · obtain rfl : j = k := by omega
          have e1 : ls.take j = ls := by rw [← HL.out, List.take_length]
          rw [e1] at ho2
          have HP : Hid (RetIs w ls.flatten (.returned (.slice av m cv)) wr) := Lib.hid ⟨_, _, _, rfl, ho2, hb2⟩
          clear ho2 hb2 e1
          go_wp2
          go_ret
          exact HP.out
end Go.Proofs.Ytincllchoflpmaa
