/- gf's Inverse: the closures scale, plus, both, the pivot. -/
import Derived.Test.YtppgbapfmijboaaRgU
set_option maxRecDepth 100000
namespace Go.Proofs.Ytppgbapfmijboaa
open Go.RowKit Go.Deep

theorem DoP.from_drew {B g n C : Nat} {bl : Nat → Nat} {Y : Nat → Nat → UInt8} {w w' : World} {e : Ending} (h : DoP B g n C bl Y w.drew e w') : DoP B g n C bl Y w e w' := by
  obtain ⟨h1, bl', cp', h2, h3, h4⟩ := h
  exact ⟨h1, bl', cp', h2, (Onl.of_below (Below.refl _ _).drew).trans h3, h4⟩
set_option maxHeartbeats 1000000 in
theorem doScale (B g n c C : Nat) (bl cp : Nat → Nat) (Z : Nat → Nat → UInt8) (x : UInt8) (k bk bx : Nat) (w : World) (h : My w B g n C bl cp Z) (hk : k < n) (hn : n ≤ 255) (hC : C ≤ 255)
    (ck : w.cell? ⟨bk, 0, none⟩ = some (.int .i64 k)) (cx : w.cell? ⟨bx, 0, none⟩ = some (.int .u8 (n8 x))) :
    Calls Try.prog 69 #[.slice (some ⟨g, 0, none⟩) n c, .pointer (some ⟨bk, 0, none⟩), .pointer (some ⟨bx, 0, none⟩)] w (DoP B g n C bl (Gf.scaleR Z k x) w) := by
  have c1 := h.top.cell hk
  have HR := Lib.hid (h.row k hk).2.2
  have HH := Lib.hid h
  have hk2 : k ≤ 255 := by omega
  clear h
  go_enter Try.func69, Try.ntmps69
  go_wp2_with fail
  go_still_tail 5, (by kernel_rfl)
  go_wp2_with (go_at_call 70; refine (scale_any _ _ _ _ x _ (HR.out.below (Below.refl _ _).drew) hC).mono ?_; rintro e w1 hr; obtain rfl := hr.1; have HP := Lib.hid (turn_do (HH.out.below (Below.refl _ _).drew) hk hr).from_drew; clear hr)
  go_end0
  exact HP.out
set_option maxHeartbeats 1000000 in
theorem doPlus (B g n c C : Nat) (bl cp : Nat → Nat) (Z : Nat → Nat → UInt8) (x : UInt8) (i k bi bk bx : Nat) (w : World) (h : My w B g n C bl cp Z) (hi : i < n) (hk : k < n) (hik : i ≠ k) (hn : n ≤ 255) (hC : C ≤ 255)
    (ci : w.cell? ⟨bi, 0, none⟩ = some (.int .i64 i)) (ck : w.cell? ⟨bk, 0, none⟩ = some (.int .i64 k)) (cx : w.cell? ⟨bx, 0, none⟩ = some (.int .u8 (n8 x))) :
    Calls Try.prog 71 #[.slice (some ⟨g, 0, none⟩) n c, .pointer (some ⟨bi, 0, none⟩), .pointer (some ⟨bk, 0, none⟩), .pointer (some ⟨bx, 0, none⟩)] w (DoP B g n C bl (Gf.mixR Z i k x) w) := by
  have c1 := h.top.cell hk
  have c2 := h.top.cell hi
  have HR := Lib.hid (h.row k hk).2.2
  have HI := Lib.hid (h.row i hi).2.2
  have HN := Lib.hid (show bl k ≠ bl i from fun e => hik (h.apart k i hk hi e).symm)
  have HH := Lib.hid h
  have hk2 : k ≤ 255 ∧ i ≤ 255 := by omega
  clear h
  go_enter Try.func71, Try.ntmps71
  go_wp2_with fail
  go_still_tail 9, (by kernel_rfl)
  go_wp2_with (go_at_call 72; refine (plus_any _ _ _ _ _ _ _ x _ (HI.out.below (Below.refl _ _).drew) (HR.out.below (Below.refl _ _).drew) HN.out hC).mono ?_; rintro e w1 hr; obtain rfl := hr.1; have HP := Lib.hid (turn_do (HH.out.below (Below.refl _ _).drew) hi hr).from_drew; clear hr)
  go_end0
  exact HP.out
theorem both_any (f : Nat) (cap : Array Value) (va vo : Value) (ba bo : Nat) (w : World) (eg : Enters Try.prog f) (P Q : World → Prop) (ca : w.cell? ⟨ba, 0, none⟩ = some va)
    (h1 : Calls Try.prog f (#[va] ++ cap) w fun e w1 => e = .returned (.tuple #[]) ∧ P w1) (hc : ∀ w1, P w1 → w1.cell? ⟨bo, 0, none⟩ = some vo)
    (h2 : ∀ w1, P w1 → Calls Try.prog f (#[vo] ++ cap) w1 fun e w2 => e = .returned (.tuple #[]) ∧ Q w2) :
    Calls Try.prog 65 #[.func (.func f) #[] cap, .pointer (some ⟨ba, 0, none⟩), .pointer (some ⟨bo, 0, none⟩)] w fun e w2 => e = .returned (.tuple #[]) ∧ Q w2 := by
  have eg' : ∀ (args : Array Value) (w : World), (callFunc f args).run Try.prog w = .ok (.enter f args) w := eg
  have H1 := Lib.hid h1
  have H2 := Lib.hid h2
  have HC := Lib.hid hc
  clear h1 h2 hc
  go_enter Try.func65, Try.ntmps65
  go_wp2_with fail
  go_at_fn f
  refine H1.out.mono ?_
  rintro e w1 ⟨rfl, hp⟩
  have c2 := HC.out w1 hp
  have HP := Lib.hid hp
  clear hp
  go_wp2_with fail
  go_at_fn f
  refine (H2.out w1 HP.out).mono ?_
  rintro e w2 ⟨rfl, hq⟩
  have HQ := Lib.hid hq
  clear hq
  go_wp2
  go_end0
  exact ⟨rfl, HQ.out⟩
theorem n8_bne0 (a : UInt8) : (n8 a != (0 : Int)) = !(a == 0) := by
  show (!(n8 a == (0 : Int))) = _
  rw [n8_beq_0]
theorem pivElem (ai : Option Addr) (C ci : Nat) (F : Nat → UInt8) (k b bk : Nat) (w : World) (hai : ai = some ⟨b, 0, none⟩) (h : rowTo w b 5 C (fun j => .int .u8 (n8 (F j)))) (hk : k < C) (hC : C ≤ 255) (ck : w.cell? ⟨bk, 0, none⟩ = some (.int .i64 k)) :
    Calls Try.prog 67 #[.slice ai C ci, .pointer (some ⟨bk, 0, none⟩)] w fun e w' => e = .returned (.bool (!(F k == 0))) ∧ ∃ q, w' = w.drewN q := by
  subst hai
  have c1 := h.cell hk
  have hk2 : k ≤ 255 := by omega
  have t := n8_bne0 (F k)
  clear h
  go_enter Try.func67, Try.ntmps67
  generalize F k = x at *
  by_cases hx : x = 0
  · subst hx
    have t2 : ((n8 0 != (0 : Int))) = false := rfl
    have e1 : (!((0 : UInt8) == 0)) = false := rfl
    rw [e1]
    clear t
    go_wp2
    go_ret
    exact ⟨rfl, 0, rfl⟩
  · have hx2 : (x == 0) = false := by simpa using hx
    rw [hx2] at t ⊢
    clear hx
    go_wp2
    go_ret
    exact ⟨rfl, 0, rfl⟩
theorem copyElem (i j : Nat) (am : Option Addr) (nm cm : Nat) (lm : List (List UInt8)) (b : Nat) (C : Nat) (w : World) (hm : Bss w am nm cm lm) (c2 : w.cell? ⟨b, 0, none⟩ = some (.slice am nm cm)) (hi : i < nm) (hj : j < C) (hb : nm ≤ 255) (hC : C ≤ 255) (hl : (nth lm i).length = C) :
    Calls Try.prog 64 #[.int .i64 i, .int .i64 j, .pointer (some ⟨b, 0, none⟩)] w fun e w' => e = .returned (.int .u8 (n8 (at2 lm i j))) ∧ ∃ q, w' = w.drewN q := by
  obtain ⟨x1, o1, k1, y1, p1, rfl, d1, d2⟩ := hm.at2 hi (j := j) (by rw [hl]; exact hj)
  rw [hl] at d1
  have hi2 : i ≤ 255 ∧ j ≤ 255 := by omega
  clear hm hl
  go_enter Try.func64, Try.ntmps64
  go_wp2
  go_ret
  exact ⟨rfl, 0, rfl⟩
end Go.Proofs.Ytppgbapfmijboaa
