/- plus, the reference's scale and mix; the closures of gf's Inverse. -/
import Derived.Test.YtfgifndpglgjkaaGreatDoorZQRgb
import Derived.Deep.RegionHeld3
set_option linter.unusedVariables false
set_option linter.unusedSimpArgs false
set_option linter.unusedVariables false
set_option linter.unusedSimpArgs false
set_option maxRecDepth 100000
namespace Go.Proofs.YtfgifndpglgjkaaGreatDoor
open Go.RowKit Go.Deep

set_option maxHeartbeats 1000000 in
theorem plus_any (b C cb b2 cb2 : Nat) (F E : Nat → UInt8) (x : UInt8) (w : World) (h : rowTo w b 5 C (fun j => .int .u8 (n8 (F j)))) (h2 : rowTo w b2 5 C (fun j => .int .u8 (n8 (E j)))) (hne : b2 ≠ b) (hC : C ≤ 255) :
    Calls Tryz.prog 138 #[.slice (some ⟨b, 0, none⟩) C cb, .slice (some ⟨b2, 0, none⟩) C cb2, .int .u8 (n8 x)] w (RowP b C (fun j => F j ^^^ Gf.mul (E j) x) w) := by
  have H := Lib.hid h
  have H2 := Lib.hid h2
  clear h h2
  go_enter Tryz.func138, Tryz.ntmps138
  go_wp2
  go_loopw [9] (fun i wr => ∃ k : Nat, k ≤ C ∧ i = .int .i64 k ∧ Onl w wr (· = b) ∧ rowTo wr b 5 C (fun j => .int .u8 (n8 (turning k F (fun j => F j ^^^ Gf.mul (E j) x) j)))) (fun i _ => C - (intOf i).toNat)
  case atStart => exact ⟨0, by omega, rfl, Onl.refl _ _, H.out.congr (fun j _ => by rw [turning_zero])⟩
  case round =>
    obtain ⟨k, hk, rfl, ho, hr⟩ := hrel
    by_cases hlt : k < C
    · have c1 := hr.cell hlt
      rw [turning_at] at c1
      have c2 := hr.frozen k
      have c3 := (H2.out.onl ho hne).cell hlt
      have HR := Lib.hid (turning_step hr)
      have HO := Lib.hid (ho.set (a := ⟨b, k, none⟩) rfl (.int .u8 (n8 (F k ^^^ Gf.mul (E k) x))))
      clear hr ho
      go_wp2_with fail
      refine wp_region_still_tail 14 (by kernel_rfl) (by kernel_rfl) ?_
      simp only [List.take_succ_cons, List.take_zero, List.drop_succ_cons, List.drop_zero]
      repeat still_step
      still_call (mul_q _ _ _)
      repeat still_step
      still_call (add_q _ _ _)
      repeat still_step
      refine wpStill_nil ?_
      go_wp2
      go_roundw
      case rel => exact ⟨k + 1, by omega, by go_num, HO.out.drew, HR.out.below (Below.refl _ _).drew⟩
      case measure => simp [intOf]; omega
    · obtain rfl : k = C := by omega
      have HP : Hid (RowP b k (fun j => F j ^^^ Gf.mul (E j) x) w (.returned (.tuple #[])) wr) := Lib.hid ⟨rfl, ho, hr.congr (fun j hj => by rw [turning_all _ _ hj])⟩
      clear hr ho
      go_wp2
      go_end0
      exact HP.out
/-- A matrix is another one behind a call that tells nothing; only its blocks are changed. -/
def DoP (B g n C : Nat) (bl : Nat → Nat) (Y : Nat → Nat → UInt8) (w : World) (e : Ending) (w' : World) : Prop :=
  e = .returned (.tuple #[]) ∧ ∃ bl' cp', My w' B g n C bl' cp' Y ∧ Onl w w' (fun k => k = g ∨ ∃ i, i < n ∧ k = bl i) ∧ ∀ i, i < n → ∃ j, j < n ∧ bl' i = bl j
theorem swap_place (k p : Nat) (n : Nat) (bl : Nat → Nat) (hk : k < n) (hp : p < n) : ∀ i, i < n → ∃ j, j < n ∧ (if i = p then bl k else if i = k then bl p else bl i) = bl j := by
  intro i hi
  by_cases e : i = p
  · exact ⟨k, hk, by rw [if_pos e]⟩
  · by_cases e2 : i = k
    · exact ⟨p, hp, by rw [if_neg e, if_pos e2]⟩
    · exact ⟨i, hi, by rw [if_neg e, if_neg e2]⟩
theorem swap_do {B g n C : Nat} {bl cp : Nat → Nat} {Z : Nat → Nat → UInt8} {w w' : World} (h : My w B g n C bl cp Z) {i p : Nat} (hi : i < n) (hp : p < n)
    (hw : w' = ((w.setCell ⟨g, i, none⟩ (.slice (some ⟨bl p, 0, none⟩) C (cp p))).setCell ⟨g, p, none⟩ (.slice (some ⟨bl i, 0, none⟩) C (cp i))).drew) :
    DoP B g n C bl (Gf.swapR Z i p) w (.returned (.tuple #[])) w' := by
  have ho : Onl w w' (· = g) := by
    rw [hw]
    exact (Onl.set (S := (· = g)) (Onl.set (S := (· = g)) (Onl.refl _ _) (a := ⟨g, i, none⟩) rfl _) (a := ⟨g, p, none⟩) rfl _).drew
  refine ⟨rfl, _, _, h.swap hi hp ho ?_, ho.mono (fun k e => .inl e), swap_place i p n bl hi hp⟩
  rw [hw]
  exact ((h.top.set i _).set p _).below (Below.refl _ _).drew
theorem turn_do {B g n C : Nat} {bl cp : Nat → Nat} {Z : Nat → Nat → UInt8} {w w' : World} (h : My w B g n C bl cp Z) {i : Nat} (hi : i < n) {F : Nat → UInt8} {e : Ending} (hr : RowP (bl i) C F w e w') :
    DoP B g n C bl (fun r => if r = i then F else Z r) w e w' :=
  ⟨hr.1, bl, cp, h.turn hi hr.2.1 hr.2.2, hr.2.1.mono (fun k e => .inr ⟨i, hi, e⟩), fun i hi => ⟨i, hi, rfl⟩⟩

set_option maxHeartbeats 2000000 in
theorem doSwap (B g n c C : Nat) (bl cp : Nat → Nat) (Z : Nat → Nat → UInt8) (k p bk bp : Nat) (w : World) (h : My w B g n C bl cp Z) (hk : k < n) (hkp : k + p < n) (hn : n ≤ 255) (hbk : bk ≠ g) (hbp : bp ≠ g)
    (ck : w.cell? ⟨bk, 0, none⟩ = some (.int .i64 k)) (cp' : w.cell? ⟨bp, 0, none⟩ = some (.int .i64 p)) :
    Calls Tryz.prog 134 #[.slice (some ⟨g, 0, none⟩) n c, .pointer (some ⟨bk, 0, none⟩), .pointer (some ⟨bp, 0, none⟩)] w (DoP B g n C bl (Gf.swapR Z k (k + p)) w) := by
  have c1 := h.top.cell hk
  have c2 := h.top.cell hkp
  have c3 := h.top.frozen k
  have c4 := h.top.frozen (k + p)
  obtain ⟨v2, hv2⟩ : ∃ v2, (w.setCell ⟨g, k, none⟩ (.slice (some ⟨bl (k + p), 0, none⟩) C (cp (k + p)))).cell? ⟨g, k + p, none⟩ = some v2 := ⟨_, (h.top.set k _).cell hkp⟩
  have hv3 : (w.setCell ⟨g, k, none⟩ (.slice (some ⟨bl (k + p), 0, none⟩) C (cp (k + p)))).frozen? ⟨g, k + p, none⟩ = false := (h.top.set k _).frozen (k + p)
  have HH := Lib.hid h
  have hk2 : k ≤ 255 := by omega
  have hp2 : p ≤ 255 := by omega
  clear h
  go_enter Tryz.func134, Tryz.ntmps134
  have w1 : IntKind.i64.wrap ((k : Int) + (p : Int)) = (k : Int) + (p : Int) := by rw [IntKind.wrap_i64]; omega
  have w2 : (0 : Int) ≤ (k : Int) + (p : Int) := by omega
  have w3 : ((k : Int) + (p : Int)).toNat = k + p := by omega
  have w4 : (k : Int) + (p : Int) < (n : Int) := by omega
  go_wp2_with fail
  have nk : ∀ (W : World) (j : Nat) (v : Value), W.cell? ⟨bk, 0, none⟩ = some (.int .i64 k) → (W.setCell ⟨g, j, none⟩ v).cell? ⟨bk, 0, none⟩ = some (.int .i64 k) := fun W j v h => by
    rw [← h]; exact World.cell?_of_block (Below.heap_setCell _ _ _ _ hbk)
  have np : ∀ (W : World) (j : Nat) (v : Value), W.cell? ⟨bp, 0, none⟩ = some (.int .i64 p) → (W.setCell ⟨g, j, none⟩ v).cell? ⟨bp, 0, none⟩ = some (.int .i64 p) := fun W j v h => by
    rw [← h]; exact World.cell?_of_block (Below.heap_setCell _ _ _ _ hbp)
  have nk1 := nk w k (.slice (some ⟨bl (k + p), 0, none⟩) C (cp (k + p))) ck
  have np1 := np w k (.slice (some ⟨bl (k + p), 0, none⟩) C (cp (k + p))) cp'
  clear nk np
  go_region
  all_goals (go_end0; exact swap_do HH.out hk hkp rfl)
end Go.Proofs.YtfgifndpglgjkaaGreatDoor
