/- Add, Pow, Div, Log; the reference's. -/
import Derived.Test.YtfgifndpglgjkaaGreatDoorZGfA
import Derived.Shelf.Abstract
import Derived.Lib.LazyBuf
import Derived.BigQuiet
import Derived.Deep.QuietTactic
import Derived.Deep.RegionWith
import Derived.Test.YtfgifndpglgjkaaGreatDoorZGfG
set_option linter.unusedVariables false
set_option linter.unusedSimpArgs false
set_option linter.unusedVariables false
set_option linter.unusedSimpArgs false
namespace Go.Proofs.YtfgifndpglgjkaaGreatDoor
open Go.RowKit

theorem add_any (a b : UInt8) (w : World) :
    Calls Tryz.prog 93 #[.int .u8 (n8 a), .int .u8 (n8 b)] w fun e w' => e = .returned (.int .u8 (n8 (a ^^^ b))) ∧ w = w' := by
  go_enter Tryz.func93, Tryz.ntmps93
  go_wp2
  go_ret
  exact ⟨rfl, rfl⟩

theorem inverse_any (a : UInt8) (w : World) :
    Calls Tryz.prog 127 #[.int .u8 (n8 a)] w fun e w' => e = .returned (.int .u8 (n8 (Gf.inv a))) ∧ w = w' := by
  go_enter Tryz.func127, Tryz.ntmps127
  go_wp2
  go_loop [3, 4] (fun p i => ∃ k : Nat, k ≤ 254 ∧ i = .int .i64 k ∧ p = .int .u8 (n8 (Gf.pw a k))) (fun _ i => 254 - (intOf i).toNat)
  case atStart => exact ⟨0, by omega, rfl, rfl⟩
  case round =>
    obtain ⟨k, hk, rfl, rfl⟩ := hrel
    by_cases hlt : k < 254
    · have t0 : decide ((k : Int) < 254) = true := decide_eq_true (by omega)
      go_wp2_with (go_at_call 109; refine (refmul_any _ _ _).mono ?_; rintro e w' ⟨rfl, rfl⟩)
      go_round
      case rel => exact ⟨k + 1, by omega, by go_num, rfl⟩
      case measure => simp [intOf]; omega
    · have t0 : decide ((k : Int) < 254) = false := decide_eq_false (by omega)
      have hk2 : Hid (k = 254) := Lib.hid (by omega)
      clear hlt hk
      go_wp2
      go_ret
      exact ⟨by rw [hk2.out]; rfl, rfl⟩

/-- Which power, out of the exponent. -/
def expo (n : Int) : Nat := (n % 255).toNat
structure Gf.PowOf (a : UInt8) (n : Int) (p : UInt8) (e : Nat) : Prop where
  zero : a = 0 → (n = 0 → p = 1 ∧ e = 0) ∧ (n < 0 → p = 0 ∧ e = 1) ∧ (0 < n → p = 0 ∧ e = 0)
  some : a ≠ 0 → p = Gf.pw a (expo n) ∧ e = 0
def Gf.pow (a : UInt8) (n : Int) : UInt8 := if a = 0 then (if n = 0 then 1 else 0) else Gf.pw a (expo n)
def Gf.powE (a : UInt8) (n : Int) : Nat := if a = 0 ∧ n < 0 then 1 else 0

theorem tmod_lo {n : Int} (h : Int.tmod n 255 < 0) : Int.tmod n 255 + 255 = (expo n : Int) := by
  unfold expo; rw [Int.tmod_eq_emod] at *; split at h <;> split <;> simp_all <;> omega
theorem tmod_hi {n : Int} (h : ¬ Int.tmod n 255 < 0) : Int.tmod n 255 = (expo n : Int) := by
  unfold expo; rw [Int.tmod_eq_emod] at *; split at h <;> split <;> simp_all <;> omega
theorem expo_lt (n : Int) : expo n < 255 := by unfold expo; omega

set_option maxHeartbeats 400000 in
theorem pow_any (a : UInt8) (n : Int) (hn : -9223372036854775808 ≤ n ∧ n ≤ 9223372036854775807) (w : World) :
    Calls Tryz.prog 114 #[.int .u8 (n8 a), .int .i64 n] w fun e w' => e = .returned (.tuple #[.int .u8 (n8 (Gf.pow a n)), .int .i64 (Gf.powE a n)]) ∧ w = w' := by
  go_enter Tryz.func114, Tryz.ntmps114
  by_cases h0 : n = 0
  · subst h0
    have e1 : Gf.pow a 0 = 1 := by unfold Gf.pow; split <;> first | rfl | simp [expo, Gf.pw]
    have e2 : Gf.powE a 0 = 0 := by unfold Gf.powE; simp
    rw [e1, e2]
    go_wp2
    go_ret2
    exact ⟨rfl, rfl⟩
  have t0 : (n == 0) = false := by simpa using h0
  by_cases ha : a = 0
  · subst ha
    by_cases h1 : n < 0
    · have t1 : decide (n < 0) = true := decide_eq_true h1
      have e1 : Gf.pow 0 n = 0 := by unfold Gf.pow; simp [h0]
      have e2 : Gf.powE 0 n = 1 := by unfold Gf.powE; simp [h1]
      have t2 : ((0 : UInt8) == 0) = true := rfl
      rw [e1, e2]
      clear hn
      go_wp2
      go_ret2
      exact ⟨rfl, rfl⟩
    · have t1 : decide (n < 0) = false := decide_eq_false h1
      have e1 : Gf.pow 0 n = 0 := by unfold Gf.pow; simp [h0]
      have e2 : Gf.powE 0 n = 0 := by unfold Gf.powE; simp [h1]
      have t2 : ((0 : UInt8) == 0) = true := rfl
      rw [e1, e2]
      clear hn
      go_wp2
      go_ret2
      exact ⟨rfl, rfl⟩
  have t2 : (a == 0) = false := by simpa using ha
  have e1 : Gf.pow a n = Gf.pw a (expo n) := by unfold Gf.pow; simp [ha]
  have e2 : Gf.powE a n = 0 := by unfold Gf.powE; simp [ha]
  have hlo := tmod_lo (n := n)
  have hhi := tmod_hi (n := n)
  have hx := expo_lt n
  rw [e1, e2]
  generalize expo n = x at *
  go_wp2_with fail
  all_goals
    go_loop [6, 27] (fun p i => ∃ k : Nat, k ≤ x ∧ i = .int .i64 k ∧ p = .int .u8 (n8 (Gf.pw a k))) (fun _ i => x - (intOf i).toNat)
    case atStart => exact ⟨0, by omega, rfl, rfl⟩
    case round =>
      obtain ⟨k, hk, rfl, rfl⟩ := hrel
      by_cases hlt : k < x
      · go_wp2_with (go_at_call 115; refine (mul_any _ _ _).mono ?_; rintro e w' ⟨rfl, rfl⟩)
        go_round
        case rel => exact ⟨k + 1, by omega, by go_num, rfl⟩
        case measure => simp [intOf]; omega
      · obtain rfl : k = x := by omega
        go_wp2
        go_ret2
        exact ⟨rfl, rfl⟩
/-- Which power of 2, or the error. -/
def Gf.log (a : UInt8) : Nat := if a = 0 then 0 else Gf.lg a
def Gf.logE (a : UInt8) : Nat := if a = 0 then 1 else 0
def Gf.div (a b : UInt8) : UInt8 := if b = 0 then 0 else Gf.mul a (Gf.inv b)
def Gf.divE (b : UInt8) : Nat := if b = 0 then 1 else 0
theorem pow_inv {b : UInt8} (h : b ≠ 0) : Gf.pow b (-1) = Gf.inv b ∧ Gf.powE b (-1) = 0 := by
  unfold Gf.pow Gf.powE
  rw [if_neg h, if_neg (by simp [h])]
  exact ⟨rfl, rfl⟩
set_option maxHeartbeats 400000 in
theorem div_any (a b : UInt8) (w : World) :
    Calls Tryz.prog 92 #[.int .u8 (n8 a), .int .u8 (n8 b)] w fun e w' => e = .returned (.tuple #[.int .u8 (n8 (Gf.div a b)), .int .i64 (Gf.divE b)]) ∧ w = w' := by
  go_enter Tryz.func92, Tryz.ntmps92
  by_cases hb : b = 0
  · subst hb
    have t2 : ((0 : UInt8) == 0) = true := rfl
    have e1 : Gf.div a 0 = 0 := rfl
    have e2 : Gf.divE 0 = 1 := rfl
    rw [e1, e2]
    go_wp2
    go_ret2
    exact ⟨rfl, rfl⟩
  have t2 : (b == 0) = false := by simpa using hb
  have e1 : Gf.div a b = Gf.mul a (Gf.inv b) := by unfold Gf.div; rw [if_neg hb]
  have e2 : Gf.divE b = 0 := by unfold Gf.divE; rw [if_neg hb]
  obtain ⟨p1, p2⟩ := pow_inv hb
  rw [e1, e2]
  go_wp2_with (first | (go_at_call 114; refine (pow_any _ (-1) (by omega) _).mono ?_; rintro e w' ⟨rfl, rfl⟩; rw [p1, p2]) | (go_at_call 115; refine (mul_any _ _ _).mono ?_; rintro e w' ⟨rfl, rfl⟩))
  go_ret2
  exact ⟨rfl, rfl⟩
end Go.Proofs.YtfgifndpglgjkaaGreatDoor

/- gf.made: a matrix, element by element, by whatever function. -/
namespace Go.Proofs.YtfgifndpglgjkaaGreatDoor
open Go.RowKit Go.Deep

/-- The outer row when k rows are made. -/
def topK (N C k : Nat) : Nat → Value := fun i => if i < k then .slice (some ⟨N + 1 + i, 0, none⟩) C C else .slice none 0 0
structure MadeO (w wr : World) (R C k : Nat) (Z : Nat → Nat → UInt8) : Prop where
  below : Below w.heap.size w wr
  size : wr.heap.size = w.heap.size + 1 + k
  top : wr.rowIs w.heap.size 25 R (topK w.heap.size C k)
  done : ∀ i, i < k → wr.rowIs (w.heap.size + 1 + i) 5 C (fun j => .int .u8 (n8 (Z i j)))
structure MadeI (w wi : World) (R C k c : Nat) (Z : Nat → Nat → UInt8) : Prop where
  below : Below w.heap.size w wi
  size : wi.heap.size = w.heap.size + 1 + k + 1
  top : wi.rowIs w.heap.size 25 R (topK w.heap.size C (k + 1))
  done : ∀ i, i < k → wi.rowIs (w.heap.size + 1 + i) 5 C (fun j => .int .u8 (n8 (Z i j)))
  cur : wi.rowIs (w.heap.size + 1 + k) 5 C (fun j => if j < c then .int .u8 (n8 (Z k j)) else .int .u8 0)
theorem madeO_start (w : World) (R C : Nat) (Z : Nat → Nat → UInt8) : MadeO w (w.alloc (.cells (madeCells #[.slice none 0 0] R) 25)) R C 0 Z :=
  ⟨(Below.refl _ _).alloc (Nat.le_refl _) _, by simp, (World.rowIs_made w _ R _).congr (fun j _ => by simp [topK]), fun j hj => absurd hj (Nat.not_lt_zero _)⟩
theorem madeI_start {w wr : World} {R C k : Nat} {Z : Nat → Nat → UInt8} (h : MadeO w wr R C k Z) :
    MadeI w ((wr.alloc (.cells (madeCells #[.int .u8 0] C) 5)).setCell ⟨w.heap.size, k, none⟩ (.slice (some ⟨w.heap.size + 1 + k, 0, none⟩) C C)) R C k 0 Z := by
  have hnew := World.rowIs_made wr (.int .u8 0) C 5
  rw [h.size] at hnew
  refine ⟨(h.below.alloc (by rw [h.size]; omega) _).setCell (Nat.le_refl _) _, by simp [h.size], ((h.top.alloc _).set k _).congr (fun j _ => ?_), fun j hj => ((h.done j hj).alloc _).setOther (by show w.heap.size + 1 + j ≠ w.heap.size; omega) _,
    (hnew.setOther (by show w.heap.size + 1 + k ≠ w.heap.size; omega) _).congr (fun i _ => by simp)⟩
  simp only [topK]
  by_cases e : j = k
  · subst e; simp
  · rw [if_neg e]
    by_cases hlt : j < k
    · rw [if_pos hlt, if_pos (by omega)]
    · rw [if_neg hlt, if_neg (by omega)]
theorem MadeI.drewN {w wi : World} {R C k c : Nat} {Z : Nat → Nat → UInt8} (h : MadeI w wi R C k c Z) (q : Nat) : MadeI w (wi.drewN q) R C k c Z :=
  ⟨below_drewN h.below q, h.size, h.top, h.done, h.cur⟩
theorem MadeI.drew {w wi : World} {R C k c : Nat} {Z : Nat → Nat → UInt8} (h : MadeI w wi R C k c Z) : MadeI w wi.drew R C k c Z :=
  ⟨h.below.drew, h.size, h.top, h.done, h.cur⟩
theorem madeI_step {w wi : World} {R C k c : Nat} {Z : Nat → Nat → UInt8} (h : MadeI w wi R C k c Z) :
    MadeI w (wi.setCell ⟨w.heap.size + 1 + k, c, none⟩ (.int .u8 (n8 (Z k c)))) R C k (c + 1) Z := by
  refine ⟨h.below.setCell (by show w.heap.size ≤ w.heap.size + 1 + k; omega) _, by simp [h.size], h.top.setOther (by show w.heap.size ≠ w.heap.size + 1 + k; omega) _,
    fun j hj => (h.done j hj).setOther (by show w.heap.size + 1 + j ≠ w.heap.size + 1 + k; omega) _, (h.cur.set c _).congr (fun i _ => ?_)⟩
  by_cases e : i = c
  · subst e; simp
  · rw [if_neg e]
    by_cases hlt : i < c
    · rw [if_pos hlt, if_pos (by omega)]
    · rw [if_neg hlt, if_neg (by omega)]
theorem madeI_done {w wi : World} {R C k : Nat} {Z : Nat → Nat → UInt8} (h : MadeI w wi R C k C Z) : MadeO w wi R C (k + 1) Z :=
  ⟨h.below, by rw [h.size]; omega, h.top, fun j hj => by
    by_cases e : j = k
    · subst e
      exact h.cur.congr (fun i hi => by rw [if_pos hi])
    · exact h.done j (by omega)⟩
theorem madeO_mx {w wr : World} {R C : Nat} {Z : Nat → Nat → UInt8} (h : MadeO w wr R C R Z) : Mx wr w.heap.size w.heap.size R C (fun i => w.heap.size + 1 + i) Z :=
  ⟨Nat.le_refl _, (rowTo.of_is h.top).congr (fun i hi => by simp [topK, hi]), fun i hi => ⟨by omega, by omega, rowTo.of_is (h.done i hi)⟩, fun i j _ _ e => by omega⟩

/-- What is asked of the function that tells the elements. -/
def Elem (w : World) (f : Nat) (cap : Array Value) (R C : Nat) (Z : Nat → Nat → UInt8) : Prop :=
  ∀ (W : World) (i j : Nat), Below w.heap.size w W → i < R → j < C → Calls Tryz.prog f (#[.int .i64 i, .int .i64 j] ++ cap) W fun e w' => e = .returned (.int .u8 (n8 (Z i j))) ∧ ∃ q, w' = W.drewN q

set_option maxHeartbeats 4000000 in
theorem made_any (f : Nat) (cap : Array Value) (R C : Nat) (Z : Nat → Nat → UInt8) (w : World) (eg : Enters Tryz.prog f) (hR : R ≤ 256) (hC : C ≤ 256) (hel : Elem w f cap R C Z) :
    Calls Tryz.prog 90 #[.int .i64 R, .int .i64 C, .func (.func f) #[] cap] w fun e w' =>
      e = .returned (.slice (some ⟨w.heap.size, 0, none⟩) R R) ∧ Mx w' w.heap.size w.heap.size R C (fun i => w.heap.size + 1 + i) Z ∧ Below w.heap.size w w' := by
  have hmk1 := run_make_row' (P := Tryz.prog) 97 25 (.slice none 0 0) 24 Tryz.underlying97 infoBs rfl .i64 .i64 R (by omega) (by omega)
  have eg' : ∀ (args : Array Value) (w : World), (callFunc f args).run Tryz.prog w = .ok (.enter f args) w := eg
  have HR := Lib.hid hR
  have HC := Lib.hid hC
  clear hR hC
  go_enter Tryz.func90, Tryz.ntmps90
  go_wp2
  clear hmk1
  go_loopw [14] (fun i wr => ∃ k : Nat, k ≤ R ∧ i = .int .i64 k ∧ MadeO w wr R C k Z) (fun i _ => R - (intOf i).toNat)
  case atStart => exact ⟨0, Nat.zero_le _, rfl, madeO_start w R C Z⟩
  case round =>
    obtain ⟨k, hk, rfl, hO⟩ := hrel
    by_cases hlt : k < R
    · have hsize := hO.size
      have hmk2 := run_make_row' (P := Tryz.prog) 25 5 (.int .u8 0) 1 Tryz.underlying25 info8 rfl .i64 .i64 C (by have := HC.out; omega) (by have := HC.out; omega)
      have hst1 : ∀ o, (wr.alloc o).cell? ⟨w.heap.size, k, none⟩ = some (topK w.heap.size C k k) := fun o => (hO.top.alloc o).cell hlt
      have hst2 : ∀ o, (wr.alloc o).frozen? ⟨w.heap.size, k, none⟩ = false := fun o => (hO.top.alloc o).frozen k
      go_wp2
      have hI0 := madeI_start hO
      clear hst1 hst2 hmk2 hsize hO
      generalize (wr.alloc (Obj.cells (madeCells #[Value.int IntKind.u8 0] C) 5)).setCell ⟨w.heap.size, k, none⟩ (Value.slice (some ⟨w.heap.size + 1 + k, 0, none⟩) C C) = wi0 at *
      go_loopw [27] (fun i wi => ∃ c : Nat, c ≤ C ∧ i = .int .i64 c ∧ MadeI w wi R C k c Z) (fun i _ => C - (intOf i).toNat)
      case atStart => exact ⟨0, Nat.zero_le _, rfl, hI0⟩
      case round =>
        obtain ⟨c, hc, rfl, hI⟩ := hrel
        clear hI0
        have hkb : k ≤ 1000 := by have := HR.out; omega
        have hcb : c ≤ 1000 := by have := HC.out; omega
        by_cases hlc : c < C
        · have g1 : wr.cell? ⟨w.heap.size, k, none⟩ = some (.slice (some ⟨w.heap.size + 1 + k, 0, none⟩) C C) := by simpa [topK] using hI.top.cell hlt
          have g4 : wr.cell? ⟨w.heap.size + 1 + k, c, none⟩ = some (.int .u8 0) := by simpa using hI.cur.cell hlc
          have g5 : wr.frozen? ⟨w.heap.size + 1 + k, c, none⟩ = false := hI.cur.frozen c
          have HI := Lib.hid hI
          clear hI
          have hcall : ∀ q, Calls Tryz.prog f (#[.int .i64 k, .int .i64 c] ++ cap) (wr.drewN q) fun e w' => e = .returned (.int .u8 (n8 (Z k c))) ∧ ∃ q, w' = wr.drewN q :=
            fun q => (hel (wr.drewN q) k c (below_drewN HI.out.below q) hlt hlc).mono fun e w' ⟨h1, q', h2⟩ => ⟨h1, q + q', by rw [h2, World.drewN_drewN]⟩
          go_wp2_with fail
          go_region_with (go_at_fn f; refine (hcall 1).mono ?_; rintro e w' ⟨rfl, q, rfl⟩)
          all_goals go_wp2
          all_goals go_roundw
          all_goals first | (simp [intOf]; omega) | (refine ⟨c + 1, by omega, by go_num, ?_⟩; first | exact ((madeI_step HI.out).drewN _) | exact (madeI_step (HI.out.drewN _)))
        · have hcc : c = C := by omega
          subst hcc
          go_wp2
          go_roundw
          case rel => exact ⟨k + 1, by omega, by go_num, madeI_done hI⟩
          case measure => simp [intOf]; omega
    · have hkk : k = R := by omega
      subst hkk
      go_wp2
      go_ret
      exact ⟨rfl, madeO_mx hO, hO.below⟩
theorem made_ex (f : Nat) (cap : Array Value) (R C : Nat) (Z : Nat → Nat → UInt8) (w : World) (eg : Enters Tryz.prog f) (hR : R ≤ 256) (hC : C ≤ 256) (hel : Elem w f cap R C Z) :
    Calls Tryz.prog 90 #[.int .i64 R, .int .i64 C, .func (.func f) #[] cap] w fun e w' => ∃ g bl,
      e = .returned (.slice (some ⟨g, 0, none⟩) R R) ∧ Mx w' w.heap.size g R C bl Z ∧ Below w.heap.size w w' :=
  (made_any f cap R C Z w eg hR hC hel).mono fun _ _ ⟨h1, h2, h3⟩ => ⟨_, _, h1, h2, h3⟩
end Go.Proofs.YtfgifndpglgjkaaGreatDoor

/- gf.Cauchy, gf.Unit; the chapter's examples. -/
namespace Go.Proofs.YtfgifndpglgjkaaGreatDoor
open Go.RowKit Go.Deep

def Gf.cau (C i j : Nat) : UInt8 := Gf.div 1 ((UInt8.ofNat C + UInt8.ofNat i) ^^^ UInt8.ofNat j)
set_option maxHeartbeats 400000 in
theorem cauElem (C i j : Nat) (hC : C ≤ 256) (hi : i ≤ 256) (hj : j ≤ 256) (b : Nat) (w : World) (hb : w.cell? ⟨b, 0, none⟩ = some (.int .i64 C)) :
    Calls Tryz.prog 91 #[.int .i64 i, .int .i64 j, .pointer (some ⟨b, 0, none⟩)] w fun e w' => e = .returned (.int .u8 (n8 (Gf.cau C i j))) ∧ ∃ q, w' = w.drewN q := by
  go_enter Tryz.func91, Tryz.ntmps91
  have E1 : Hid (Value.int .u8 (((C : Int) + i) % 256) = .int .u8 (n8 (UInt8.ofNat (C + i))) ) := Lib.hid (by have h := to8 (C + i); rwa [Int.natCast_add] at h)
  go_wp2_with (first | (go_at_call 93; rw [E1.out]; refine (add_any _ _ _).mono ?_; rintro e w' ⟨rfl, rfl⟩) | (go_at_call 92; refine (div_any 1 _ _).mono ?_; rintro e w' ⟨rfl, rfl⟩))
  go_ret
  exact ⟨rfl, 0, rfl⟩

/-- Sizes of Cauchy's matrix. -/
structure Gf.CauFit (r c : Int) : Prop where
  r1 : 1 ≤ r
  c1 : 1 ≤ c
  le : r + c ≤ 256
set_option maxHeartbeats 1000000 in
theorem cauchy_any (R C : Nat) (w : World) (hR : 1 ≤ R) (hC : 1 ≤ C) (hRC : R + C ≤ 256) :
    Calls Tryz.prog 56 #[.int .i64 R, .int .i64 C] w fun e w' => (∃ g bl, e = .returned (.tuple #[.slice (some ⟨g, 0, none⟩) R R, .int .i64 0]) ∧ Mx w' w.heap.size g R C bl (Gf.cau C)) ∧ Below w.heap.size w w' := by
  have t1 : decide ((R : Int) < 1) = false := decide_eq_false (by omega)
  have t2 : decide ((C : Int) < 1) = false := decide_eq_false (by omega)
  have t3 : decide ((256 : Int) < R) = false := decide_eq_false (by omega)
  have t4 : decide ((256 : Int) < C) = false := decide_eq_false (by omega)
  have t5 : decide ((256 : Int) < (R : Int) + C) = false := decide_eq_false (by omega)
  have HRC := Lib.hid hRC
  have hR2 : R ≤ 1000 := by omega
  have hC2 : C ≤ 1000 := by omega
  clear hRC hR hC
  have hel : Elem (w.alloc (.cells #[.int .i64 C] 3)) 91 #[.pointer (some ⟨w.heap.size, 0, none⟩)] R C (Gf.cau C) := by
    intro W i j hb hi hj
    have := HRC.out
    refine cauElem C i j (by omega) (by omega) (by omega) w.heap.size W ?_
    rw [hb.cell (by simp)]
    rw [cell_of_row _ _ _ #[.int .i64 C] _ _ (heap_alloc_new w _)]
    rfl
  have HE := Lib.hid hel
  clear hel
  go_enter Tryz.func56, Tryz.ntmps56
  go_wp2_with (go_at_call 90; refine (made_ex 91 _ R C (Gf.cau C) _ (enters_of Tryz.func91 (by kernel_rfl) rfl) (by have := HRC.out; omega) (by have := HRC.out; omega) HE.out).mono ?_; rintro e w' ⟨g, bl, rfl, hm, hb⟩)
  go_ret2
  exact ⟨⟨_, _, rfl, hm.mono (le_alloc (Nat.le_refl _))⟩, ((Below.refl _ _).alloc (Nat.le_refl _) _).trans (hb.mono (le_alloc (Nat.le_refl _)))⟩

set_option maxHeartbeats 1000000 in
theorem cauchy_err (r c : Int) (w : World) (h : ¬ Gf.CauFit r c) (hr : -9223372036854775808 ≤ r ∧ r ≤ 9223372036854775807) (hc : -9223372036854775808 ≤ c ∧ c ≤ 9223372036854775807) :
    Calls Tryz.prog 56 #[.int .i64 r, .int .i64 c] w fun e w' => e = .returned (.tuple #[.slice none 0 0, .int .i64 1]) ∧ Below w.heap.size w w' := by
  have HW : Hid (Below w.heap.size w (w.alloc (.cells #[.int .i64 c] 3))) := Lib.hid ((Below.refl _ _).alloc (Nat.le_refl _) _)
  by_cases h1 : r < 1
  · have t1 : decide (r < 1) = true := decide_eq_true h1
    clear hr hc h h1
    go_enter Tryz.func56, Tryz.ntmps56
    go_wp2
    go_ret2
    exact ⟨rfl, HW.out⟩
  have t1 : decide (r < 1) = false := decide_eq_false h1
  by_cases h2 : c < 1
  · have t2 : decide (c < 1) = true := decide_eq_true h2
    clear hr hc h h1 h2
    go_enter Tryz.func56, Tryz.ntmps56
    go_wp2
    go_ret2
    exact ⟨rfl, HW.out⟩
  have t2 : decide (c < 1) = false := decide_eq_false h2
  by_cases h3 : 256 < r
  · have t3 : decide (256 < r) = true := decide_eq_true h3
    clear hr hc h h1 h2 h3
    go_enter Tryz.func56, Tryz.ntmps56
    go_wp2
    go_ret2
    exact ⟨rfl, HW.out⟩
  have t3 : decide (256 < r) = false := decide_eq_false h3
  by_cases h4 : 256 < c
  · have t4 : decide (256 < c) = true := decide_eq_true h4
    clear hr hc h h1 h2 h3 h4
    go_enter Tryz.func56, Tryz.ntmps56
    go_wp2
    go_ret2
    exact ⟨rfl, HW.out⟩
  have t4 : decide (256 < c) = false := decide_eq_false h4
  have t5 : decide (256 < r + c) = true := decide_eq_true (by
    rcases Int.lt_or_le 256 (r + c) with h5 | h5
    · exact h5
    · exact absurd ⟨by omega, by omega, by omega⟩ h)
  have hb1 : 0 ≤ r ∧ r ≤ 1000 ∧ 0 ≤ c ∧ c ≤ 1000 := by omega
  clear hr hc h h1 h2 h3 h4
  go_enter Tryz.func56, Tryz.ntmps56
  go_wp2
  go_ret2
  exact ⟨rfl, HW.out⟩

def Gf.one (i j : Nat) : UInt8 := if i = j then 1 else 0
set_option maxHeartbeats 400000 in
theorem unitElem (i j : Nat) (hi : i ≤ 256) (hj : j ≤ 256) (w : World) :
    Calls Tryz.prog 128 #[.int .i64 i, .int .i64 j] w fun e w' => e = .returned (.int .u8 (n8 (Gf.one i j))) ∧ ∃ q, w' = w.drewN q := by
  go_enter Tryz.func128, Tryz.ntmps128
  by_cases h : i = j
  · have t : ((i : Int) == (j : Int)) = true := by simp [h]
    have e1 : Gf.one i j = 1 := by unfold Gf.one; rw [if_pos h]
    rw [e1]
    clear h
    go_wp2
    go_ret
    exact ⟨rfl, 0, rfl⟩
  · have t : ((i : Int) == (j : Int)) = false := by simp; omega
    have e1 : Gf.one i j = 0 := by unfold Gf.one; rw [if_neg h]
    rw [e1]
    clear h
    go_wp2
    go_ret
    exact ⟨rfl, 0, rfl⟩
set_option maxHeartbeats 1000000 in
theorem unit_any (R : Nat) (w : World) (hR : 1 ≤ R) (hR2 : R ≤ 255) :
    Calls Tryz.prog 112 #[.int .i64 R] w fun e w' => (∃ g bl, e = .returned (.tuple #[.slice (some ⟨g, 0, none⟩) R R, .int .i64 0]) ∧ Mx w' w.heap.size g R R bl Gf.one) ∧ Below w.heap.size w w' := by
  have t1 : decide ((R : Int) < 1) = false := decide_eq_false (by omega)
  have t3 : decide ((255 : Int) < R) = false := decide_eq_false (by omega)
  have HR := Lib.hid hR2
  have hR2 : R ≤ 1000 := by omega
  clear hR
  have hel : Elem w 128 #[] R R Gf.one := by
    intro W i j hb hi hj
    have := HR.out
    exact unitElem i j (by omega) (by omega) W
  have HE := Lib.hid hel
  clear hel
  go_enter Tryz.func112, Tryz.ntmps112
  go_wp2_with (go_at_call 90; refine (made_ex 128 _ R R Gf.one _ (enters_of Tryz.func128 (by kernel_rfl) rfl) (by have := HR.out; omega) (by have := HR.out; omega) HE.out).mono ?_; rintro e w' ⟨g, bl, rfl, hm, hb⟩)
  go_ret2
  exact ⟨⟨_, _, rfl, hm⟩, hb⟩
theorem unit_err (r : Int) (w : World) (h : ¬ (1 ≤ r ∧ r ≤ 255)) :
    Calls Tryz.prog 112 #[.int .i64 r] w fun e w' => e = .returned (.tuple #[.slice none 0 0, .int .i64 1]) ∧ w = w' := by
  go_enter Tryz.func112, Tryz.ntmps112
  by_cases h1 : r < 1
  · have t1 : decide (r < 1) = true := decide_eq_true h1
    clear h h1
    go_wp2
    go_ret2
    exact ⟨rfl, rfl⟩
  · have t1 : decide (r < 1) = false := decide_eq_false h1
    have t2 : decide (255 < r) = true := decide_eq_true (by omega)
    clear h h1
    go_wp2
    go_ret2
    exact ⟨rfl, rfl⟩
end Go.Proofs.YtfgifndpglgjkaaGreatDoor

/- Matrices that are read: few, Same, gf.Right and the reference's. -/
namespace Go.Proofs.YtfgifndpglgjkaaGreatDoor
open Go.RowKit Go.Deep


theorem bstr_bne (l m : List UInt8) : ((bstr l).toList != (bstr m).toList) = !decide (l = m) := by rw [← bstr_beq]; rfl
theorem list_ext_nth {l m : List (List UInt8)} (hl : l.length = m.length) (h : ∀ k, k < l.length → nth l k = nth m k) : l = m := by
  apply List.ext_getElem hl
  intro i h1 h2
  have := h i h1
  rwa [nth_eq _ h1, nth_eq _ h2] at this

end Go.Proofs.YtfgifndpglgjkaaGreatDoor

/- gf.Right and the reference's. -/
namespace Go.Proofs.YtfgifndpglgjkaaGreatDoor
open Go.RowKit Go.Deep

def Gf.right (ls : List (List UInt8)) : Bool := decide (1 ≤ ls.length ∧ ls.length ≤ 255 ∧ 1 ≤ (nth ls 0).length ∧ (nth ls 0).length ≤ 255 ∧ ∀ k, k < ls.length → (nth ls k).length = (nth ls 0).length)
/-- The first place at which something holds; -1: there is none. -/
structure Fst (n : Nat) (p : Nat → Bool) (r : Int) : Prop where
  none : (∀ i, i < n → p i = false) → r = -1
  some : ∀ k, k < n → p k = true → (∀ j, j < k → p j = false) → r = k
theorem first_or (n : Nat) (p : Nat → Bool) : (∀ i, i < n → p i = false) ∨ ∃ k, k < n ∧ p k = true ∧ ∀ j, j < k → p j = false := by
  induction n with
  | zero => exact .inl fun i hi => by omega
  | succ n ih =>
    rcases ih with h | ⟨k, hk, h1, h2⟩
    · by_cases e : p n = true
      · exact .inr ⟨n, by omega, e, h⟩
      · exact .inl fun i hi => by
          by_cases e' : i = n
          · subst e'; simpa using e
          · exact h i (by omega)
    · exact .inr ⟨k, by omega, h1, h2⟩
theorem fst_at {n k : Nat} {p : Nat → Bool} (hk : k < n) (h1 : p k = true) (h2 : ∀ j, j < k → p j = false) : Fst n p k := by
  refine ⟨fun h => ?_, fun j hj g1 g2 => ?_⟩
  · have := h k hk
    rw [h1] at this
    cases this
  · rcases Nat.lt_trichotomy j k with h | h | h
    · have := h2 j h
      rw [g1] at this
      cases this
    · rw [h]
    · have := g2 k h
      rw [h1] at this
      cases this
theorem fst_none {n : Nat} {p : Nat → Bool} (h : ∀ j, j < n → p j = false) : Fst n p (-1) := by
  refine ⟨fun _ => rfl, fun j hj g1 g2 => ?_⟩
  have := h j hj
  rw [g1] at this
  cases this
theorem ex_false {n : Nat} {p : Nat → Bool} (h : ∀ j, j < n → p j = false) : false = true ↔ ∃ k, k < n ∧ p k = true := by
  constructor
  · intro h; cases h
  · rintro ⟨k, hk, h'⟩
    rw [h k hk] at h'
    cases h'
def IdxPost (n : Nat) (p : Nat → Bool) (w : World) (e : Ending) (w' : World) : Prop := ∃ r q, e = .returned (.int .i64 r) ∧ Fst n p r ∧ w' = w.drewN q
/-- What is asked of a function that is asked of each element. -/
def PredO (w : World) (f : Nat) (cap : Array Value) (n : Nat) (v : Nat → Value) (p : Nat → Bool) : Prop :=
  ∀ (q i : Nat), i < n → Calls Tryz.prog f (#[v i] ++ cap) (w.drewN q) fun e w' => e = .returned (.bool (p i)) ∧ ∃ q, w' = w.drewN q
def RowV (w : World) (a : Option Addr) (n : Nat) (v : Nat → Value) : Prop := ∀ i, i < n → ∃ b off, a = some ⟨b, off, none⟩ ∧ w.cell? ⟨b, off + i, none⟩ = some (v i)

set_option maxHeartbeats 1000000 in
theorem idx_any (f : Nat) (cap : Array Value) (a : Option Addr) (n c : Nat) (v : Nat → Value) (p : Nat → Bool) (w : World) (eg : Enters Tryz.prog f) (hn : n ≤ 1000000000)
    (hrow : RowV w a n v) (hp : PredO w f cap n v p) :
    Calls Tryz.prog 132 #[.slice a n c, .func (.func f) #[] cap] w (IdxPost n p w) := by
  have eg' : ∀ (args : Array Value) (w : World), (callFunc f args).run Tryz.prog w = .ok (.enter f args) w := eg
  have HP := Lib.hid hp
  have HR := Lib.hid hrow
  clear hp hrow
  go_enter Tryz.func132, Tryz.ntmps132
  go_wp2
  go_loopw [8] (fun i wr => ∃ k q : Nat, k ≤ n ∧ i = .int .i64 k ∧ wr = w.drewN q ∧ Hid (∀ j, j < k → p j = false)) (fun i _ => n - (intOf i).toNat)
  case atStart => exact ⟨0, 0, by omega, rfl, rfl, Lib.hid (fun j hj => by omega)⟩
  case round =>
    obtain ⟨k, q, hk, rfl, rfl, hall⟩ := hrel
    by_cases hlt : k < n
    · obtain ⟨b, off, rfl, hc⟩ := HR.out k hlt
      generalize hvk : v k = vk at *
      have hcall := HP.out q k hlt
      rw [hvk] at hcall
      have HV := Lib.hid hvk
      clear hvk
      by_cases hpk : p k = true
      · rw [hpk] at hcall
        have HC := Lib.hid hcall
        clear hcall
        have HK := Lib.hid hpk
        clear hpk
        go_wp2_with (go_at_fn f; refine HC.out.mono ?_; rintro e w' ⟨rfl, q', rfl⟩)
        go_ret
        exact ⟨k, _, rfl, fst_at hlt HK.out hall.out, rfl⟩
      · have hpk : p k = false := by simpa using hpk
        rw [hpk] at hcall
        have HC := Lib.hid hcall
        clear hcall
        have HK := Lib.hid hpk
        clear hpk
        go_wp2_with (go_at_fn f; refine HC.out.mono ?_; rintro e w' ⟨rfl, q', rfl⟩)
        go_roundw
        case rel => exact ⟨k + 1, q', by omega, by go_num, rfl, Lib.hid (fun j hj => by
            by_cases e : j = k
            · rw [e]; exact HK.out
            · exact hall.out j (by omega))⟩
        case measure => simp [intOf]; omega
    · obtain rfl : k = n := by omega
      go_wp2
      go_ret
      exact ⟨-1, _, rfl, fst_none hall.out, rfl⟩

def ConPost (n : Nat) (p : Nat → Bool) (w : World) (e : Ending) (w' : World) : Prop := ∃ (r : Bool) (q : Nat), e = .returned (.bool r) ∧ (r = true ↔ ∃ k, k < n ∧ p k = true) ∧ w' = w.drewN q
theorem con_any (f : Nat) (cap : Array Value) (a : Option Addr) (n c : Nat) (v : Nat → Value) (p : Nat → Bool) (w : World) (eg : Enters Tryz.prog f) (hn : n ≤ 1000000000)
    (hrow : RowV w a n v) (hp : PredO w f cap n v p) :
    Calls Tryz.prog 141 #[.slice a n c, .func (.func f) #[] cap] w (ConPost n p w) := by
  have HP := Lib.hid hp
  have HR := Lib.hid hrow
  clear hp hrow
  go_enter Tryz.func141, Tryz.ntmps141
  go_wp2_with fail
  refine (idx_any f cap a n c v p w eg hn HR.out HP.out).mono ?_
  rintro e w' ⟨r, q, rfl, hf, rfl⟩
  rcases first_or n p with h | ⟨k, hk, h1, h2⟩
  · obtain rfl := hf.none h
    go_wp2
    go_ret
    exact ⟨_, q, rfl, ex_false h, rfl⟩
  · obtain rfl := hf.some k hk h1 h2
    have HH := Lib.hid (show ∃ k, k < n ∧ p k = true from ⟨k, hk, h1⟩)
    clear h1 h2 hf
    go_wp2
    go_ret
    exact ⟨true, q, rfl, ⟨fun _ => HH.out, fun _ => rfl⟩, rfl⟩

set_option maxHeartbeats 400000 in
theorem rightElem (ai a a0 : Option Addr) (ni ci n c n0 c0 : Nat) (b : Nat) (w : World) (hb : w.cell? ⟨b, 0, none⟩ = some (.slice a n c)) (hn : 0 < n)
    (h0 : ∃ b off, a = some ⟨b, off, none⟩ ∧ w.cell? ⟨b, off + 0, none⟩ = some (.slice a0 n0 c0)) :
    Calls Tryz.prog 142 #[.slice ai ni ci, .pointer (some ⟨b, 0, none⟩)] w fun e w' => e = .returned (.bool (!decide (ni = n0))) ∧ ∃ q, w' = w.drewN q := by
  obtain ⟨bo, off, rfl, h0⟩ := h0
  rw [Nat.add_zero] at h0
  go_enter Tryz.func142, Tryz.ntmps142
  by_cases h : ni = n0
  · subst h
    have t : ((ni : Int) != (ni : Int)) = false := by simp
    have e : (!decide (ni = ni)) = false := by simp
    rw [e]
    go_wp2
    go_ret
    exact ⟨rfl, 0, rfl⟩
  · have t : ((ni : Int) != (n0 : Int)) = true := by simp; omega
    have e : (!decide (ni = n0)) = true := by simp [h]
    rw [e]
    clear h
    go_wp2
    go_ret
    exact ⟨rfl, 0, rfl⟩
theorem right_ne {ls : List (List UInt8)} {n : Nat} (hl : ls.length = n) (h : ¬ (1 ≤ n ∧ n ≤ 255 ∧ 1 ≤ (nth ls 0).length ∧ (nth ls 0).length ≤ 255)) : Gf.right ls = false := by
  unfold Gf.right; rw [hl]; exact decide_eq_false (fun k => h ⟨k.1, k.2.1, k.2.2.1, k.2.2.2.1⟩)
/-- Rows as values. -/
theorem Bss.vals {w : World} {a : Option Addr} {n c : Nat} {ls : List (List UInt8)} (h : Bss w a n c ls) :
    ∃ (ai : Nat → Option Addr) (ci : Nat → Nat), ∀ i, i < n → (∃ b off, a = some ⟨b, off, none⟩ ∧ w.cell? ⟨b, off + i, none⟩ = some (.slice (ai i) (nth ls i).length (ci i))) ∧ Bs w (ai i) (nth ls i).length (ci i) (nth ls i) := by
  have : ∀ i, ∃ q : Option Addr × Nat, i < n → (∃ b off, a = some ⟨b, off, none⟩ ∧ w.cell? ⟨b, off + i, none⟩ = some (.slice q.1 (nth ls i).length q.2)) ∧ Bs w q.1 (nth ls i).length q.2 (nth ls i) := by
    intro i
    by_cases hi : i < n
    · obtain ⟨b, off, ai, ni, ci, h1, h2, h3⟩ := h.get hi
      have := h3.1
      subst this
      exact ⟨(ai, ci), fun _ => ⟨⟨b, off, h1, h2⟩, h3⟩⟩
    · exact ⟨(none, 0), fun h => absurd h hi⟩
  exact ⟨fun i => (Classical.choose (this i)).1, fun i => (Classical.choose (this i)).2, fun i hi => Classical.choose_spec (this i) hi⟩

set_option maxHeartbeats 2000000 in
theorem right_any (a : Option Addr) (n c : Nat) (ls : List (List UInt8)) (w : World) (h : Bss w a n c ls) :
    Calls Tryz.prog 129 #[.slice a n c] w fun e w' => e = .returned (.bool (Gf.right ls)) ∧ Below w.heap.size w w' := by
  have HW : Hid (Below w.heap.size w (w.alloc (.cells #[.slice a n c] 97))) := Lib.hid ((Below.refl _ _).alloc (Nat.le_refl _) _)
  have hl := h.1
  have hle := h.le.1
  obtain ⟨ai, ci, hv⟩ := h.vals
  by_cases h1 : n < 1
  · have t1 : decide ((n : Int) < 1) = true := decide_eq_true (by omega)
    rw [right_ne hl (by omega)]
    clear hv h1 hl
    go_enter Tryz.func129, Tryz.ntmps129
    go_wp2
    go_ret
    exact ⟨rfl, HW.out⟩
  have t1 : decide ((n : Int) < 1) = false := decide_eq_false (by omega)
  by_cases h2 : 255 < n
  · have t2 : decide ((255 : Int) < (n : Int)) = true := decide_eq_true (by omega)
    rw [right_ne hl (by omega)]
    clear hv h1 h2 hl
    go_enter Tryz.func129, Tryz.ntmps129
    go_wp2
    go_ret
    exact ⟨rfl, HW.out⟩
  have t2 : decide ((255 : Int) < (n : Int)) = false := decide_eq_false (by omega)
  have h0 := (hv 0 (by omega)).1
  have hB : ∀ {b o v}, w.cell? ⟨b, o, none⟩ = some v → (w.alloc (.cells #[.slice a n c] 97)).cell? ⟨b, o, none⟩ = some v := fun h => cell_later HW.out h
  obtain ⟨bo, off, e0, c0⟩ := h0
  subst e0
  rw [Nat.add_zero] at c0
  have c0' := hB c0
  have hn0 : 0 < n := by omega
  generalize hn0' : (nth ls 0).length = n0 at *
  by_cases h3 : n0 < 1
  · have t3 : decide ((n0 : Int) < 1) = true := decide_eq_true (by omega)
    rw [right_ne hl (by omega)]
    clear hv h1 h2 h3 hl hB c0 hn0'
    go_enter Tryz.func129, Tryz.ntmps129
    go_wp2
    go_ret
    exact ⟨rfl, HW.out⟩
  have t3 : decide ((n0 : Int) < 1) = false := decide_eq_false (by omega)
  by_cases h4 : 255 < n0
  · have t4 : decide ((255 : Int) < (n0 : Int)) = true := decide_eq_true (by omega)
    rw [right_ne hl (by omega)]
    clear hv h1 h2 h3 h4 hl hB c0 hn0'
    go_enter Tryz.func129, Tryz.ntmps129
    go_wp2
    go_ret
    exact ⟨rfl, HW.out⟩
  have t4 : decide ((255 : Int) < (n0 : Int)) = false := decide_eq_false (by omega)
  have HC := Lib.hid (con_any 142 #[.pointer (some ⟨w.heap.size, 0, none⟩)] (some ⟨bo, off, none⟩) n c (fun i => .slice (ai i) (nth ls i).length (ci i)) (fun i => !decide ((nth ls i).length = n0))
    (w.alloc (.cells #[.slice (some ⟨bo, off, none⟩) n c] 97)) (enters_of Tryz.func142 (by kernel_rfl) rfl) (by omega)
    (fun i hi => by obtain ⟨b, o, e1, e2⟩ := (hv i hi).1; exact ⟨b, o, e1, hB e2⟩)
    (fun q i hi => (rightElem (ai i) _ (ai 0) (nth ls i).length (ci i) n c n0 (ci 0) w.heap.size _ (by
      refine cell_later (below_drewN (Below.refl _ _) q) ?_
      rw [cell_of_row _ _ _ #[.slice (some ⟨bo, off, none⟩) n c] _ _ (heap_alloc_new w _)]
      rfl) hn0 ⟨bo, off, rfl, by rw [Nat.add_zero]; exact cell_later (below_drewN (Below.refl _ _) q) c0'⟩).mono fun e w' ⟨g1, q', g2⟩ => ⟨g1, q' + q, by rw [g2, World.drewN_drewN, Nat.add_comm]⟩))
  have HF : Hid (∀ r : Bool, (r = true ↔ ∃ k, k < n ∧ (!decide ((nth ls k).length = n0)) = true) → Gf.right ls = !r) := Lib.hid (fun r hr => by
    unfold Gf.right
    rw [hl, hn0']
    cases r with
    | true =>
      obtain ⟨k, hk, h'⟩ := hr.1 rfl
      exact decide_eq_false (fun g => by have := g.2.2.2.2 k hk; simp [this] at h')
    | false =>
      refine decide_eq_true ⟨by omega, by omega, by omega, by omega, fun k hk => ?_⟩
      by_cases e : (nth ls k).length = n0
      · exact e
      · have := hr.2 ⟨k, hk, by simp [e]⟩
        cases this)
  clear hv hl hn0' hB c0 h1 h2 h3 h4
  go_enter Tryz.func129, Tryz.ntmps129
  go_wp2_with fail
  refine HC.out.mono ?_
  rintro e w' ⟨r, q, rfl, hr, rfl⟩
  have E := Lib.hid (HF.out r hr)
  clear hr
  go_wp2
  go_ret
  exact ⟨by rw [E.out]; rfl, below_drewN HW.out q⟩
end Go.Proofs.YtfgifndpglgjkaaGreatDoor
