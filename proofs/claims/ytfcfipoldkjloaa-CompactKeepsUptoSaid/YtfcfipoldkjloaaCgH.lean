/- Clone of bytes, apart, newest. -/
import Derived.Test.YtfcfipoldkjloaaCgG
import Derived.Test.YtfcfipoldkjloaaCgF
import Derived.Test.YtfcfipoldkjloaaMgP
import Derived.Lib.LazyBuf
set_option maxRecDepth 100000
set_option linter.unusedSimpArgs false
namespace Go.Proofs.Ytfcfipoldkjloaa
open Go.RowKit
set_option linter.unusedVariables false

set_option maxHeartbeats 400000 in
theorem clone_any (a : Option Addr) (n c : Nat) (l : List UInt8) (w : World) (h : Bs w a n c l) (hf : n ≤ 1000000000) :
    Calls Try.prog 80 #[.slice a n c] w (RetB w w.heap.size l) := by
  have hq := fun (w : World) => Lib.run_eql_slice_nil (P := Try.prog) w 31 5 a n c 0 0 Try.underlying31
  cases a with
  | none =>
    go_enter Try.func80, Try.ntmps80
    go_wp2
    go_ret
    have hl : l = [] := by
      cases l with
      | nil => rfl
      | cons b l => obtain ⟨_, _, h1, _⟩ := h.2.2.2 0 _ rfl; cases h1
    subst hl
    exact ⟨_, _, _, rfl, Own.nil _ _, Below.refl _ _⟩
  | some ad =>
    go_enter Try.func80, Try.ntmps80
    go_wp2_with (at_builtin; refine app_own rfl _ _ rfl w.heap.size rfl (Own.lit w w.heap.size [] (Nat.le_refl _) (by simp [maxLen])) rfl (h.below ((Below.refl _ _).alloc (Nat.le_refl _) _)) (by simp; omega) (le_alloc (Nat.le_refl _)) ?_; intro a'' c'' w' h1 h2 _)
    go_ret
    exact ⟨_, _, _, rfl, by simpa using h1, ((Below.refl _ _).alloc (Nat.le_refl _) _).trans h2⟩
/-- An entry is told; its bytes are the call's own. -/
def RetEv (e : Ent) (w : World) (en : Ending) (w' : World) : Prop := ∃ a c, en = .returned (ev e a c) ∧ Own w' w.heap.size a e.val.length c e.val ∧ Below w.heap.size w w'
set_option maxHeartbeats 1000000 in
theorem apart_any (e : Ent) (a : Option Addr) (c : Nat) (w : World) (h : Bs w a e.val.length c e.val) (hf : e.val.length ≤ 1000000000) :
    Calls Try.prog 50 #[ev e a c] w (RetEv e w) := by
  have hb := two_boxes w (.cells #[.string (bstr e.key), .int .u64 e.seq, .bool e.gone, .slice a e.val.length c] 33) (.cells #[.string ByteArray.empty, .int .u64 0, .bool false, .slice none 0 0] 33)
  have HB := Lib.hid hb
  have HV := Lib.hid (h.below hb)
  clear hb h
  unfold ev
  go_enter Try.func50, Try.ntmps50
  go_wp2_with fail
  refine (clone_any _ _ _ e.val _ HV.out hf).mono ?_
  rintro en w1 ⟨a1, n1, c1, rfl, ho, hb1⟩
  obtain rfl : n1 = e.val.length := by have := ho.bs.1; omega
  have hz : w.heap.size + 1 < w1.heap.size := by have := hb1.size; simp at this; omega
  have g0 : w1.heap[w.heap.size]? = some (.cells #[.string (bstr e.key), .int .u64 e.seq, .bool e.gone, .slice a e.val.length c] 33 (0, 0)) := by
    rw [hb1.block _ (by simp; omega)]
    exact (Below.heap_alloc _ _ _ (by simp)).trans (heap_alloc_new w _)
  have g1 : w1.heap[w.heap.size + 1]? = some (.cells #[.string ByteArray.empty, .int .u64 0, .bool false, .slice none 0 0] 33 (0, 0)) := by
    rw [hb1.block _ (by simp)]
    have := heap_alloc_new (w.alloc (.cells #[.string (bstr e.key), .int .u64 e.seq, .bool e.gone, .slice a e.val.length c] 33)) (.cells #[.string ByteArray.empty, .int .u64 0, .bool false, .slice none 0 0] 33)
    rwa [World.size_alloc] at this
  have f0 : ∀ o, w1.frozen? ⟨w.heap.size, o, none⟩ = false := fun o => by simp [World.frozen?, g0]
  have f1 : ∀ o, w1.frozen? ⟨w.heap.size + 1, o, none⟩ = false := fun o => by simp [World.frozen?, g1]
  have p0 := cell_of_row _ _ 0 _ _ _ g0
  have p1 := cell_of_row _ _ 1 _ _ _ g0
  have p2 := cell_of_row _ _ 2 _ _ _ g0
  have p3 := cell_of_row _ _ 3 _ _ _ g0
  have q0 := cell_of_row _ _ 0 _ _ _ g1
  have q1 := cell_of_row _ _ 1 _ _ _ g1
  have q2 := cell_of_row _ _ 2 _ _ _ g1
  have q3 := cell_of_row _ _ 3 _ _ _ g1
  simp at p0 p1 p2 p3 q0 q1 q2 q3
  have HO := Lib.hid ho
  have HB1 := Lib.hid hb1
  clear ho hb1 g0 g1
  go_wp2
  have hk : ∀ (v v0 v1 v2 v3 : Value) g, w.heap.size + 2 ≤ g → (((((w1.setCell ⟨w.heap.size, 3, none⟩ v).setCell ⟨w.heap.size + 1, 0, none⟩ v0).setCell ⟨w.heap.size + 1, 1, none⟩ v1).setCell ⟨w.heap.size + 1, 2, none⟩ v2).setCell ⟨w.heap.size + 1, 3, none⟩ v3).heap[g]? = w1.heap[g]? := by
    intro v v0 v1 v2 v3 g hg
    rw [Below.heap_setCell _ _ _ _ (by show g ≠ w.heap.size + 1; omega), Below.heap_setCell _ _ _ _ (by show g ≠ w.heap.size + 1; omega), Below.heap_setCell _ _ _ _ (by show g ≠ w.heap.size + 1; omega), Below.heap_setCell _ _ _ _ (by show g ≠ w.heap.size + 1; omega), Below.heap_setCell _ _ _ _ (by show g ≠ w.heap.size; omega)]
  refine bodyPost_ret (v := ev e a1 c1) (by simp [results, Try.results50, go_sem, ev, p0, p1, p2, q0, q1, q2, q3]) rfl ⟨a1, c1, rfl, ?_, ?_⟩
  · refine own_mono (own_keep (HO.out : World.ownsRow _ _ _ _ _ _ _) fun g hg => hk _ _ _ _ _ g (by simpa using hg)) (by simp; omega)
  · exact (((((HB.out.trans (HB1.out.mono HB.out.size)).setCell (p := ⟨w.heap.size, 3, none⟩) (Nat.le_refl _) _).setCell (p := ⟨w.heap.size + 1, 0, none⟩) (Nat.le_succ _) _).setCell (p := ⟨w.heap.size + 1, 1, none⟩) (Nat.le_succ _) _).setCell (p := ⟨w.heap.size + 1, 2, none⟩) (Nat.le_succ _) _).setCell (p := ⟨w.heap.size + 1, 3, none⟩) (Nat.le_succ _) _
theorem idx_at {l : List Ent} {up k : Nat} (hk : k < l.length) (h : (nth l k).seq ≤ up) (h2 : ∀ j, j < k → ¬ (nth l j).seq ≤ up) : Ent.idx up l = k := by
  unfold Ent.idx
  rw [List.findIdx_eq hk]
  refine ⟨by rw [← nth_eq]; simpa using h, fun j hj => ?_⟩
  have := h2 j hj
  rw [← nth_eq]
  simpa using this
theorem idx_none {l : List Ent} {up : Nat} (h2 : ∀ j, j < l.length → ¬ (nth l j).seq ≤ up) : Ent.idx up l = l.length := by
  unfold Ent.idx
  rw [List.findIdx_eq_length]
  intro x hx
  obtain ⟨j, hj, rfl⟩ := List.getElem_of_mem hx
  have := h2 j hj
  rw [nth_eq _ hj] at this
  simpa using this
set_option maxHeartbeats 1000000 in
theorem newest_any (a : Option Addr) (n c : Nat) (l : List Ent) (up : Nat) (w : World) (h : Es w a n c l) :
    Calls Try.prog 49 #[.slice a n c, .int .u64 up] w fun e w' => e = .returned (.int .i64 (Ent.idx up l : Nat)) ∧ Below w.heap.size w w' := by
  have hle := h.le.1
  have HN := Lib.hid h.1
  have HE := Lib.hid h
  clear h
  go_enter Try.func49, Try.ntmps49
  go_wp2
  go_loopw [9] (fun i wr => ∃ k : Nat, k ≤ n ∧ i = .int .i64 k ∧ Below w.heap.size w wr ∧ Hid (∀ j, j < k → ¬ (nth l j).seq ≤ up)) (fun i _ => n - (intOf i).toNat)
  case atStart => exact ⟨0, by omega, rfl, Below.refl _ _, Lib.hid (fun i h => by omega)⟩
  case round =>
    obtain ⟨k, hk, rfl, hb, hall⟩ := hrel
    by_cases hlt : k < n
    · obtain ⟨b1, o1, a1, d1, rfl, he1, hv1⟩ := (HE.out.below hb).vals hlt
      have p1 := he1.key
      have p2 := he1.seq
      have p3 := he1.gone
      have p4 := he1.val
      have HB := Lib.hid hb
      by_cases hs : (nth l k).seq ≤ up
      · have E := Lib.hid (idx_at (by rw [HN.out]; exact hlt) hs hall.out)
        have t1 : decide ((nth l k).seq ≤ up) = true := decide_eq_true hs
        clear he1 hv1 hb hs
        go_wp2
        go_ret
        exact ⟨by rw [E.out]; rfl, HB.out.alloc HB.out.size _⟩
      · have HA : Hid (∀ j, j < k + 1 → ¬ (nth l j).seq ≤ up) := Lib.hid (fun j hj => by
          by_cases e : j = k
          · rw [e]; exact hs
          · exact hall.out j (by omega))
        have t1 : decide ((nth l k).seq ≤ up) = false := decide_eq_false hs
        clear he1 hv1 hb hs
        go_wp2
        go_roundw
        case rel => exact ⟨k + 1, by omega, by go_num, HB.out.alloc HB.out.size _, HA⟩
        case measure => simp [intOf]; omega
    · obtain rfl : k = n := by omega
      have E := Lib.hid (idx_none (l := l) (up := up) (fun j hj => hall.out j (by rw [HN.out] at hj; exact hj)))
      have HB := Lib.hid hb
      clear hb
      go_wp2
      go_ret
      exact ⟨by rw [E.out, HN.out]; rfl, HB.out⟩
end Go.Proofs.Ytfcfipoldkjloaa
