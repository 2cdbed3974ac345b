/- Rows that are turned in place: scale, plus, mix. -/
import Derived.Test.YtppgbapfmijboaaRgR
import Derived.Test.YtppgbapfmijboaaOnl
namespace Go.Proofs.Ytppgbapfmijboaa
open Go.RowKit Go.Deep

theorem rowTo.onl {w w' : World} {b : Nat} {t : TypeId} {n : Nat} {f : Nat → Value} {S : Nat → Prop} (h : rowTo w b t n f) (k : Onl w w' S) (hb : ¬ S b) : rowTo w' b t n f := h.of_block (k.block b h.lt hb)
namespace My
variable {w w' : World} {B g n C : Nat} {bl cp : Nat → Nat} {Z : Nat → Nat → UInt8} {S : Nat → Prop}
theorem onl (h : My w B g n C bl cp Z) (k : Onl w w' S) (hg : ¬ S g) (hr : ∀ i, i < n → ¬ S (bl i)) : My w' B g n C bl cp Z :=
  ⟨h.base, h.top.onl k hg, fun i hi => ⟨(h.row i hi).1, (h.row i hi).2.1, (h.row i hi).2.2.onl k (hr i hi)⟩, h.cap, h.apart⟩
/-- One row is another one. -/
theorem turn (h : My w B g n C bl cp Z) {i : Nat} (hi : i < n) (k : Onl w w' (· = bl i)) {F : Nat → UInt8} (hF : rowTo w' (bl i) 5 C (fun j => .int .u8 (n8 (F j)))) :
    My w' B g n C bl cp (fun r => if r = i then F else Z r) := by
  refine ⟨h.base, h.top.onl k (fun e => (h.row i hi).2.1 e.symm), fun r hr => ⟨(h.row r hr).1, (h.row r hr).2.1, ?_⟩, h.cap, h.apart⟩
  by_cases e : r = i
  · subst e
    simp only [if_true]
    exact hF
  · simp only [if_neg e]
    exact (h.row r hr).2.2.onl k (fun e' => e (h.apart r i hr hi e'))
/-- Two rows change places. -/
theorem swap (h : My w B g n C bl cp Z) {i p : Nat} (hi : i < n) (hp : p < n) (k : Onl w w' (· = g))
    (hF : rowTo w' g 22 n (fun r => if r = p then .slice (some ⟨bl i, 0, none⟩) C (cp i) else if r = i then .slice (some ⟨bl p, 0, none⟩) C (cp p) else .slice (some ⟨bl r, 0, none⟩) C (cp r))) :
    My w' B g n C (fun r => if r = p then bl i else if r = i then bl p else bl r) (fun r => if r = p then cp i else if r = i then cp p else cp r) (Gf.swapR Z i p) := by
  refine ⟨h.base, hF.congr (fun r _ => by split <;> (try split) <;> rfl), fun r hr => ?_, fun r hr => ?_, fun r s hr hs e => ?_⟩
  · have g1 := h.row r hr
    have g2 := h.row i hi
    have g3 := h.row p hp
    simp only [Gf.swapR]
    by_cases e1 : r = p
    · subst e1
      by_cases e2 : r = i
      · subst e2; simp only [if_true]; exact ⟨g1.1, g1.2.1, g1.2.2.onl k g1.2.1⟩
      · simp only [if_true, if_neg e2]; exact ⟨g2.1, g2.2.1, g2.2.2.onl k g2.2.1⟩
    · by_cases e2 : r = i
      · subst e2; simp only [if_true, if_neg e1]; exact ⟨g3.1, g3.2.1, g3.2.2.onl k g3.2.1⟩
      · simp only [if_neg e1, if_neg e2]; exact ⟨g1.1, g1.2.1, g1.2.2.onl k g1.2.1⟩
  · split
    · exact h.cap i hi
    · split
      · exact h.cap p hp
      · exact h.cap r hr
  · have er : ∀ r, (if r = p then bl i else if r = i then bl p else bl r) = bl (if r = p then i else if r = i then p else r) := by
      intro r; split
      · rfl
      · split <;> rfl
    have sb : ∀ r, r < n → (if r = p then i else if r = i then p else r) < n := by
      intro r hr; split
      · exact hi
      · split
        · exact hp
        · exact hr
    have e2 := h.apart _ _ (sb r hr) (sb s hs) (by rw [← er r, ← er s]; exact e)
    split at e2 <;> split at e2 <;> (try split at e2) <;> (try split at e2) <;> omega
end My

/-- A row while it is turned. -/
def turning (k : Nat) (F G : Nat → UInt8) : Nat → UInt8 := fun j => if j < k then G j else F j
theorem turning_step {w : World} {b k C : Nat} {F G : Nat → UInt8} (h : rowTo w b 5 C (fun j => .int .u8 (n8 (turning k F G j)))) :
    rowTo (w.setCell ⟨b, k, none⟩ (.int .u8 (n8 (G k)))) b 5 C (fun j => .int .u8 (n8 (turning (k + 1) F G j))) := by
  refine (h.set k _).congr fun j hj => ?_
  show (if j = k then _ else Value.int .u8 (n8 (if j < k then G j else F j))) = .int .u8 (n8 (if j < k + 1 then G j else F j))
  by_cases e : j = k
  · simp [e]
  · by_cases e2 : j < k
    · rw [if_neg e, if_pos e2, if_pos (by omega)]
    · rw [if_neg e, if_neg e2, if_neg (by omega)]
theorem turning_zero (F G : Nat → UInt8) (j : Nat) : turning 0 F G j = F j := by simp [turning]
theorem turning_all {C : Nat} (F G : Nat → UInt8) {j : Nat} (h : j < C) : turning C F G j = G j := by simp [turning, h]
theorem turning_at {k : Nat} (F G : Nat → UInt8) : turning k F G k = F k := by simp [turning]
def RowP (b C : Nat) (G : Nat → UInt8) (w : World) (e : Ending) (w' : World) : Prop :=
  e = .returned (.tuple #[]) ∧ Onl w w' (· = b) ∧ rowTo w' b 5 C (fun j => .int .u8 (n8 (G j)))

set_option maxHeartbeats 1000000 in
theorem scale_any (b C cb : Nat) (F : Nat → UInt8) (x : UInt8) (w : World) (h : rowTo w b 5 C (fun j => .int .u8 (n8 (F j)))) (hC : C ≤ 255) :
    Calls Try.prog 70 #[.slice (some ⟨b, 0, none⟩) C cb, .int .u8 (n8 x)] w (RowP b C (fun j => Gf.mul (F j) x) w) := by
  have H := Lib.hid h
  clear h
  go_enter Try.func70, Try.ntmps70
  go_wp2
  go_loopw [7] (fun i wr => ∃ k : Nat, k ≤ C ∧ i = .int .i64 k ∧ Onl w wr (· = b) ∧ rowTo wr b 5 C (fun j => .int .u8 (n8 (turning k F (fun j => Gf.mul (F j) x) j)))) (fun i _ => C - (intOf i).toNat)
  case atStart => exact ⟨0, by omega, rfl, Onl.refl _ _, H.out.congr (fun j _ => by rw [turning_zero])⟩
  case round =>
    obtain ⟨k, hk, rfl, ho, hr⟩ := hrel
    by_cases hlt : k < C
    · have c1 := hr.cell hlt
      rw [turning_at] at c1
      have c2 := hr.frozen k
      have HR := Lib.hid (turning_step hr)
      have HO := Lib.hid (ho.set (a := ⟨b, k, none⟩) rfl (.int .u8 (n8 (Gf.mul (F k) x))))
      clear hr ho
      go_wp2_with (go_at_call 61; refine (mul_any _ _ _).mono ?_; rintro e w' ⟨rfl, rfl⟩)
      go_roundw
      case rel => exact ⟨k + 1, by omega, by go_num, HO.out, HR.out⟩
      case measure => simp [intOf]; omega
    · obtain rfl : k = C := by omega
      have HP : Hid (RowP b k (fun j => Gf.mul (F j) x) w (.returned (.tuple #[])) wr) := Lib.hid ⟨rfl, ho, hr.congr (fun j hj => by rw [turning_all _ _ hj])⟩
      clear hr ho
      go_wp2
      go_end0
      exact HP.out
end Go.Proofs.Ytppgbapfmijboaa
