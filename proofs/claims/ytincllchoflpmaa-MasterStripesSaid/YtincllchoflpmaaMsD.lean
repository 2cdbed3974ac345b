/- slices.BinarySearch of ints. -/
import Derived.Test.YtincllchoflpmaaMsC
namespace Go.Proofs.Ytincllchoflpmaa
open Go.RowKit
set_option linter.unusedVariables false

theorem snan_any (x : Int) (w : World) : Calls Try.prog 88 #[.int .i64 x] w fun e w' => e = .returned (.bool false) ∧ w' = w := by
  have t : (x != x) = false := by simp
  go_enter Try.func88, Try.ntmps88
  go_wp2
  go_ret
  exact ⟨rfl, rfl⟩
theorem cnan_any (x : Int) (w : World) : Calls Try.prog 112 #[.int .i64 x] w fun e w' => e = .returned (.bool false) ∧ w' = w := by
  have t : (x != x) = false := by simp
  go_enter Try.func112, Try.ntmps112
  go_wp2
  go_ret
  exact ⟨rfl, rfl⟩
set_option maxHeartbeats 1000000 in
theorem less_any (x y : Int) (w : World) : Calls Try.prog 87 #[.int .i64 x, .int .i64 y] w fun e w' => e = .returned (.bool (decide (x < y))) ∧ Below w.heap.size w w' := by
  go_enter Try.func87, Try.ntmps87
  go_wp2_with fail
  refine (cnan_any x w).mono ?_
  rintro e w' ⟨rfl, rfl⟩
  go_wp2
  go_ret
  exact ⟨rfl, Below.refl _ _⟩
theorem Ms.low_eq {l : List Int} {x : Int} {k : Nat} (hk : k ≤ l.length) (hlo : ∀ j, j < k → nth l j < x) (hat : k < l.length → x ≤ nth l k) : Ms.low l x = k := by
  unfold Ms.low
  rcases Nat.lt_or_ge k l.length with h | h
  · rw [List.findIdx_eq h]
    refine ⟨?_, fun j hj => ?_⟩
    · have := hat h
      rw [nth_eq _ h] at this
      simp
      omega
    · have := hlo j hj
      rw [nth_eq _ (by omega)] at this
      simp
      omega
  · obtain rfl : k = l.length := by omega
    rw [List.findIdx_eq_length]
    intro y hy
    obtain ⟨i, hi, rfl⟩ := List.mem_iff_getElem.1 hy
    have := hlo i hi
    rw [nth_eq _ hi] at this
    simp
    omega
theorem Ms.has_eq {l : List Int} {x : Int} {k : Nat} (h : Ms.low l x = k) : Ms.has l x = (decide (k < l.length) && decide (nth l k = x)) := by
  unfold Ms.has
  rw [h]
  rfl
set_option maxHeartbeats 2000000 in
theorem bsearch_any (a : Option Addr) (n c : Nat) (l : List Int) (x : Int) (w : World) (h : Is w a n c l) (hn : n ≤ 1000000000) (hs : l.Pairwise (· < ·)) :
    Calls Try.prog 58 #[.slice a n c, .int .i64 x] w fun e w' => e = .returned (.tuple #[.int .i64 (Ms.low l x : Nat), .bool (Ms.has l x)]) ∧ Below w.heap.size w w' := by
  have HN := Lib.hid h.1
  have HR := Lib.hid h
  have hp : ∀ i j, i < j → j < n → nth l i < nth l j := fun i j h1 h2 => by
    have h3 := h.1
    have := List.pairwise_iff_getElem.1 hs i j (by omega) (by omega) h1
    rwa [← nth_eq _ (by omega), ← nth_eq _ (by omega)] at this
  have HP := Lib.hid hp
  clear h hs hp
  go_enter Try.func58, Try.ntmps58
  go_wp2_with fail
  go_loopw [7, 8, 9] (fun s7 s8 s9 wr => ∃ lo hi : Nat, s7 = .int .i64 lo ∧ s8 = .int .i64 hi ∧ lo ≤ hi ∧ hi ≤ n ∧ Hid (∀ j, j < lo → nth l j < x) ∧ Hid (∀ j, hi ≤ j → j < n → x ≤ nth l j) ∧ Hid (Below w.heap.size w wr)) (fun s7 s8 _ _ => (intOf s8).toNat - (intOf s7).toNat)
  case atStart => exact ⟨0, n, rfl, rfl, Nat.zero_le _, Nat.le_refl _, Lib.hid (fun j hj => by omega), Lib.hid (fun j h1 h2 => by omega), Lib.hid (Below.refl _ _)⟩
  case round =>
    obtain ⟨lo, hi, rfl, rfl, hlh, hin, h1, h2, hb⟩ := hrel
    by_cases hlt : lo < hi
    · go_upto_region 5 with fail
      have hme : ((lo : Int) + (hi : Int)) / 2 = (((lo + hi) / 2 : Nat) : Int) := by omega
      rw [hme]
      clear hme
      obtain ⟨m, hm⟩ : ∃ m, m = (lo + hi) / 2 := ⟨_, rfl⟩
      rw [← hm]
      have hm1 : lo ≤ m := by omega
      have hm2 : m < hi := by omega
      clear hm
      obtain ⟨b, off, rfl, hc⟩ := (HR.out.below hb.out).get (i := m) (by omega)
      have HLT : Hid (nth l m < x → ∀ j, j < m + 1 → nth l j < x) := Lib.hid fun h j hj => by
        by_cases e : j = m
        · rw [e]; exact h
        · have := HP.out j m (by omega) (by omega)
          omega
      have HGE : Hid (¬ nth l m < x → ∀ j, m ≤ j → j < n → x ≤ nth l j) := Lib.hid fun h j h3 h4 => by
        by_cases e : j = m
        · rw [e]; omega
        · have := HP.out m j (by omega) h4
          omega
      obtain ⟨y, hy⟩ : ∃ y, y = nth l m := ⟨_, rfl⟩
      rw [← hy] at hc HLT HGE
      clear hy
      go_wp2_with fail
      refine (less_any y x wr).mono ?_
      rintro e w' ⟨rfl, hb'⟩
      have HB := Lib.hid (hb.out.trans (hb'.mono hb.out.size))
      clear hb'
      by_cases hyx : y < x
      · have t : decide (y < x) = true := decide_eq_true hyx
        have H1 := Lib.hid (HLT.out hyx)
        clear hyx HLT HGE
        go_wp2
        go_roundw
        case rel => exact ⟨m + 1, hi, by go_num, rfl, by omega, by omega, H1, h2, HB⟩
        case measure => simp [intOf]; omega
      · have t : decide (y < x) = false := decide_eq_false hyx
        have H2 := Lib.hid (HGE.out (by first | exact hyx | omega))
        clear hyx HLT HGE
        go_wp2
        go_roundw
        case rel => exact ⟨lo, m, rfl, rfl, by omega, by omega, h1, H2, HB⟩
        case measure => simp [intOf]; omega
    · obtain rfl : lo = hi := by omega
      have HLO : Hid (Ms.low l x = lo) := Lib.hid (Ms.low_eq (by rw [HN.out]; exact hin) h1.out (fun h => h2.out lo (Nat.le_refl _) (by rw [← HN.out]; exact h)))
      have HHA : Hid (Ms.has l x = (decide (lo < n) && decide (nth l lo = x))) := Lib.hid (by rw [Ms.has_eq HLO.out, HN.out])
      obtain ⟨hv, hhv⟩ : ∃ hv, hv = Ms.has l x := ⟨_, rfl⟩
      have HFI := Lib.hid (And.intro HLO.out hhv.symm)
      rw [← hhv] at HHA
      clear hhv
      by_cases hl2 : lo < n
      · have t1 : decide (lo < n) = true := decide_eq_true hl2
        obtain ⟨b, off, rfl, hc⟩ := (HR.out.below hb.out).get (i := lo) hl2
        obtain ⟨y, hy⟩ : ∃ y, y = nth l lo := ⟨_, rfl⟩
        rw [← hy] at hc HHA
        clear hy HLO
        by_cases hyx : y = x
        · have hve : hv = true := by rw [HHA.out, t1, decide_eq_true hyx]; rfl
          subst hve
          subst hyx
          have t2 : (y == y) = true := by simp
          go_wp2
          refine bodyPost_ret (v := .tuple #[.int .i64 (lo : Nat), .bool true]) (by simp [results, Try.results58, go_sem]) rfl ⟨by rw [HFI.out.1, HFI.out.2], hb.out⟩
        · have hve : hv = false := by rw [HHA.out, t1, decide_eq_false hyx]; rfl
          subst hve
          have t2 : (y == x) = false := by simp [hyx]
          clear hyx
          go_wp2_with fail
          refine (snan_any y wr).mono ?_
          rintro e w' ⟨rfl, rfl⟩
          go_wp2
          refine bodyPost_ret (v := .tuple #[.int .i64 (lo : Nat), .bool false]) (by simp [results, Try.results58, go_sem]) rfl ⟨by rw [HFI.out.1, HFI.out.2], hb.out⟩
      · have t1 : decide (lo < n) = false := decide_eq_false hl2
        have hve : hv = false := by rw [HHA.out, t1]; rfl
        subst hve
        clear HLO
        go_wp2
        refine bodyPost_ret (v := .tuple #[.int .i64 (lo : Nat), .bool false]) (by simp [results, Try.results58, go_sem]) rfl ⟨by rw [HFI.out.1, HFI.out.2], hb.out⟩
end Go.Proofs.Ytincllchoflpmaa
