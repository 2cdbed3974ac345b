/- A table's parts: cost, tower. -/
import Derived.Test.YtgcealgkhlbgmaaMmS
import Derived.Test.YtgcealgkhlbgmaaInts
namespace Go.Proofs.Ytgcealgkhlbgmaa
open Go.RowKit
set_option linter.unusedVariables false

theorem cost_any (e : Ent) (a : Option Addr) (c : Nat) (w : World) (hk : e.key.length ≤ 1000000000) (hv : e.val.length ≤ 1000000000) :
    Calls Try.prog 35 #[ev e a c] w fun r w' => r = .returned (.int .i64 (e.key.length + e.val.length + 16 : Nat)) ∧ Below w.heap.size w w' := by
  have hs : (bstr e.key).size = e.key.length := by simp [bstr, ByteArray.size]
  unfold ev
  go_enter Try.func35, Try.ntmps35
  go_wp2
  go_ret
  exact ⟨by go_num, below_alloc1 _ _⟩
/-- How high the next node is. -/
def tower (ld : List Int) (n : Nat) : Nat := if ld.length = 0 then 1 else 1 + (max (nth ld (n % ld.length)) 0).toNat % 12
theorem tower_any (tb : Nat) (ad : Option Addr) (nd cd n : Nat) (ld : List Int) (w : World) (hd : w.cell? ⟨tb, 8, none⟩ = some (.slice ad nd cd)) (hc : w.cell? ⟨tb, 7, none⟩ = some (.int .i64 n)) (h : Is w ad nd cd ld) (hn : n ≤ 1000000000) :
    Calls Try.prog 34 #[.pointer (some ⟨tb, 0, none⟩)] w fun r w' => r = .returned (.int .i64 (tower ld n : Nat)) ∧ Below w.heap.size w w' := by
  have hl := h.le.1
  have hlen := h.1
  by_cases h0 : nd = 0
  · have E : Hid (tower ld n = 1) := Lib.hid (by unfold tower; rw [if_pos (by omega)])
    subst h0
    clear h hlen
    go_enter Try.func34, Try.ntmps34
    go_wp2
    go_ret
    exact ⟨by rw [E.out]; rfl, Below.refl _ _⟩
  · have hlt : n % nd < nd := Nat.mod_lt _ (by omega)
    obtain ⟨b, off, rfl, hcell⟩ := h.get hlt
    have E : Hid (tower ld n = 1 + (max (nth ld (n % nd)) 0).toNat % 12) := Lib.hid (by unfold tower; rw [if_neg (by omega), hlen])
    have t1 : ((nd : Int) == 0) = false := by simp; omega
    clear h hlen
    generalize nth ld (n % nd) = z at *
    generalize hr : n % nd = r at *
    go_enter Try.func34, Try.ntmps34
    go_wp2_with fail
    have hm : (n : Int) % (nd : Int) = (r : Int) := by rw [← hr]; omega
    have hm2 : Int.tmod (n : Int) (nd : Int) = (r : Int) := by rw [← hm]; exact Int.tmod_eq_emod_of_nonneg (by omega)
    have hnd : (nd : Int) ≠ 0 := by omega
    clear hr
    refine wp_region_class (w0 := w) (by kernel_rfl) (by kernel_rfl) (Below.refl _ _) ?_
    replace hd := BW.cell hd
    replace hc := BW.cell hc
    replace hcell := BW.cell hcell
    repeat (first | go_big_quiet_step (fail))
    refine wpQuiet_nil ?_
    intro w9 hb9; replace hb9 := BW.of hb9
    clear hd hc hcell
    go_wp2
    all_goals
      go_ret
      refine ⟨?_, hb9⟩
      rw [E.out]
      show Ending.returned (Value.int .i64 _) = Ending.returned (Value.int .i64 _)
      congr 2
      omega
end Go.Proofs.Ytgcealgkhlbgmaa
