/- Payloads that are read: ReadFrame, ReadBytes, the reference's. -/
import Derived.Test.YtjigfinpbdglnaaGreatDoorZScF
import Derived.Test.YtjigfinpbdglnaaGreatDoorZBase
import Derived.BigQuiet
import Derived.Deep.QuietTactic
import Derived.StillTailTactics
import Derived.RangeFuncNested
import Derived.RangeFuncBound
import Derived.RangeFuncBox
import Derived.RangeFuncCalls
import Derived.RangeFuncLeaves
import Derived.Shelf.Abstract
import Derived.WalkKit
import Derived.OwnWalkIn
import Derived.TacticsInMore
import Derived.LoopNIn
import Derived.LoopIn
set_option linter.unusedVariables false
set_option linter.unusedSimpArgs false
section
namespace Go.Proofs.YtjigfinpbdglnaaGreatDoor
open Go.RowKit

/-- What a reader hands back: bytes, a place, an error. -/
def RetR (w : World) (r : List UInt8 × Nat × Nat) (e : Ending) (w' : World) : Prop := ∃ a n c, e = .returned (.tuple #[.slice a n c, .int .i64 r.2.1, .int .i64 r.2.2]) ∧ Bs w' a n c r.1 ∧ Below w.heap.size w w'

set_option maxHeartbeats 1000000 in
theorem readframe_any (a : Option Addr) (n c : Nat) (l : List UInt8) (w : World) (h : Bs w a n c l) (hf : Fits n) :
    Calls Tryz.prog 47 #[.slice a n c] w (RetR w (Codec.rdFrame l)) := by
  have hle := h.le.1
  have hlc := h.2.1
  have HL := Lib.hid h.1
  by_cases h0 : (Codec.decFrame l).2.2 = 0
  · obtain ⟨v, k, hd, _, hv4, _, hdf, _, hle4⟩ := Codec.decFrame_ok h0
    have hr : Codec.rdFrame l = ((l.drop (k + 4)).take v, k + 4 + v, 0) := by
      unfold Codec.rdFrame; rw [if_pos h0, hdf]; simp
    rw [HL.out] at hv4 hle4
    have hc4 : k + 4 + v ≤ c := by omega
    have HR := Lib.hid hr
    have HD := Lib.hid hdf
    clear hd hdf h0 hr
    have hs := fun w => slice_lh a n c (lo := (k : Int) + 4) (hi := (k : Int) + 4 + (v : Int)) (lo' := k + 4) (hi' := k + 4 + v) (by omega) (by omega) (by omega) hc4 w
    rw [show k + 4 + v - (k + 4) = v by omega] at hs
    have hp := h.sub (lo := k + 4) (hi := k + 4 + v) (by omega) (by omega)
    rw [show k + 4 + v - (k + 4) = v by omega] at hp
    go_enter Tryz.func47, Tryz.ntmps47
    go_wp2_with fail
    refine (frameread_any _ _ _ l _ h).mono ?_
    rintro e w1 ⟨rfl, hb1⟩
    rw [HD.out]
    go_wp2_with fail
    refine (clone_any _ _ _ _ _ (hp.below hb1) ⟨by have := hf.le; omega⟩).mono ?_
    rintro e w2 ⟨a2, n2, c2, rfl, ho2, hb2⟩
    go_wp2
    go_ret3
    exact ⟨_, _, _, by rw [HR.out]; rfl, by rw [HR.out]; exact ho2.bs, hb1.trans (hb2.mono hb1.size)⟩
  · have hr : Codec.rdFrame l = ([], 0, (Codec.decFrame l).2.2) := by unfold Codec.rdFrame; rw [if_neg h0]
    have hz : (Codec.decFrame l).1 = 0 ∧ (Codec.decFrame l).2.1 = 0 := by
      unfold Codec.decFrame at h0 ⊢
      split
      · exact ⟨rfl, rfl⟩
      · split
        · exact ⟨rfl, rfl⟩
        · split
          · exact ⟨rfl, rfl⟩
          · split
            · rename_i g1 g2 g3 g4; rw [if_neg g1, if_neg g2, if_neg g3, if_pos g4] at h0; exact absurd rfl h0
            · exact ⟨rfl, rfl⟩
    obtain ⟨er, hd⟩ : ∃ er, Codec.decFrame l = (0, 0, er) := ⟨(Codec.decFrame l).2.2, Prod.ext hz.1 (Prod.ext hz.2 rfl)⟩
    rw [hd] at hr h0
    have HR := Lib.hid hr
    have HD := Lib.hid hd
    have t1 : ((er : Int) != 0) = true := by simp; simpa using h0
    clear hr hz h0 hd
    go_enter Tryz.func47, Tryz.ntmps47
    go_wp2_with fail
    refine (frameread_any _ _ _ l _ h).mono ?_
    rintro e w1 ⟨rfl, hb1⟩
    rw [HD.out]
    go_wp2
    go_ret3
    exact ⟨_, _, _, by rw [HR.out]; rfl, by rw [HR.out]; exact Bs.nil _, hb1⟩

set_option maxHeartbeats 1000000 in
theorem readbytes_any (a : Option Addr) (n c : Nat) (l : List UInt8) (most : Int) (w : World) (h : Bs w a n c l) (hf : Fits n) (hm1 : -9223372036854775808 ≤ most) (hm2 : most ≤ 9223372036854775807) :
    Calls Tryz.prog 103 #[.slice a n c, .int .i64 most] w (RetR w (Codec.rdBytes l most)) := by
  have hle := h.le.1
  have hlc := h.2.1
  have HL := Lib.hid h.1
  obtain ⟨v, k, er, hd⟩ : ∃ v k er, Codec.dec l = (v, k, er) := ⟨_, _, _, rfl⟩
  have HD := Lib.hid hd
  have hmx : (if most < 0 then (0 : Int) else most) = ((most.toNat : Nat) : Int) := by split <;> omega
  by_cases h1 : er = 0
  · subst h1
    have hb := Codec.dec_back hd
    rw [HL.out] at hb
    obtain ⟨_, hk0, hkn, hk10, hv64⟩ := hb
    have HV := Lib.hid hv64
    clear hv64
    by_cases h2 : most.toNat < v
    · have hr : Codec.rdBytes l most = ([], 0, 3) := by unfold Codec.rdBytes; rw [HD.out]; simp [h2]
      have HR := Lib.hid hr
      have t2 : decide (most.toNat < v) = true := by simp; omega
      clear hd hr
      go_enter Tryz.func103, Tryz.ntmps103
      go_wp2_with fail
      refine (readnum_any _ _ _ l _ h).mono ?_
      rintro e w1 ⟨rfl, rfl⟩
      rw [HD.out]
      go_wp2
      go_ret3
      exact ⟨_, _, _, by rw [HR.out]; rfl, by rw [HR.out]; exact Bs.nil _, Below.refl _ _⟩
    · have t2 : decide (most.toNat < v) = false := by simp; omega
      by_cases h3 : n - k < v
      · have hr : Codec.rdBytes l most = ([], 0, 11) := by unfold Codec.rdBytes; rw [HD.out, HL.out]; simp [h2, h3]
        have HR := Lib.hid hr
        have t3 : decide ((n : Int) - (k : Int) < (v : Int)) = true := by simp; omega
        clear hd hr
        go_enter Tryz.func103, Tryz.ntmps103
        go_wp2_with fail
        refine (readnum_any _ _ _ l _ h).mono ?_
        rintro e w1 ⟨rfl, rfl⟩
        rw [HD.out]
        go_wp2
        go_ret3
        exact ⟨_, _, _, by rw [HR.out]; rfl, by rw [HR.out]; exact Bs.nil _, Below.refl _ _⟩
      · have t3 : decide ((n : Int) - (k : Int) < (v : Int)) = false := by simp; omega
        have hr : Codec.rdBytes l most = ((l.drop k).take v, k + v, 0) := by unfold Codec.rdBytes; rw [HD.out, HL.out]; simp [h2, h3]
        have HR := Lib.hid hr
        have hc4 : k + v ≤ c := by omega
        clear hd hr
        have hs := fun w => slice_lh a n c (lo := (k : Int)) (hi := (k : Int) + (v : Int)) (lo' := k) (hi' := k + v) rfl (by omega) (by omega) hc4 w
        rw [show k + v - k = v by omega] at hs
        have hp := h.sub (lo := k) (hi := k + v) (by omega) (by omega)
        rw [show k + v - k = v by omega] at hp
        go_enter Tryz.func103, Tryz.ntmps103
        go_wp2_with fail
        refine (readnum_any _ _ _ l _ h).mono ?_
        rintro e w1 ⟨rfl, rfl⟩
        rw [HD.out]
        go_wp2_with fail
        refine (clone_any _ _ _ _ _ hp ⟨by have := hf.le; omega⟩).mono ?_
        rintro e w2 ⟨a2, n2, c2, rfl, ho2, hb2⟩
        go_wp2
        go_ret3
        exact ⟨_, _, _, by rw [HR.out]; rfl, by rw [HR.out]; exact ho2.bs, hb2⟩
  · have hr : Codec.rdBytes l most = ([], 0, er) := by unfold Codec.rdBytes; rw [HD.out]; simp [h1]
    have HR := Lib.hid hr
    have t1 : ((er : Int) != 0) = true := by simp; omega
    clear hd hr
    go_enter Tryz.func103, Tryz.ntmps103
    go_wp2_with fail
    refine (readnum_any _ _ _ l _ h).mono ?_
    rintro e w1 ⟨rfl, rfl⟩
    rw [HD.out]
    go_wp2
    go_ret3
    exact ⟨_, _, _, by rw [HR.out]; rfl, by rw [HR.out]; exact Bs.nil _, Below.refl _ _⟩

end Go.Proofs.YtjigfinpbdglnaaGreatDoor
end

section
namespace Go.Proofs.YtjigfinpbdglnaaGreatDoor
open Go.RowKit

/-- An entry: the key's bytes, the number, whether it is gone, the value's bytes. -/
structure Ent where
  key : List UInt8
  seq : Nat
  gone : Bool
  val : List UInt8
instance : Inhabited Ent := ⟨⟨[], 0, false, []⟩⟩
theorem Ent.ext' {a b : Ent} (h1 : a.key = b.key) (h2 : a.seq = b.seq) (h3 : a.gone = b.gone) (h4 : a.val = b.val) : a = b := by cases a; cases b; simp_all
instance : DecidableEq Ent := fun a b => decidable_of_iff (a.key = b.key ∧ a.seq = b.seq ∧ a.gone = b.gone ∧ a.val = b.val) ⟨fun h => Ent.ext' h.1 h.2.1 h.2.2.1 h.2.2.2, fun h => by subst h; exact ⟨rfl, rfl, rfl, rfl⟩⟩
namespace Ent
/-- Keys in order. -/
abbrev klt (a b : List UInt8) : Bool := Op.bytesLess a b
theorem klt_irrefl : ∀ a : List UInt8, klt a a = false
  | [] => rfl
  | a :: l => by simp [Op.bytesLess, klt_irrefl l]
theorem klt_cons (a b : UInt8) (x y : List UInt8) : klt (a :: x) (b :: y) = (decide (a < b) || (a == b && klt x y)) := rfl
theorem klt_trans : ∀ {a b c : List UInt8}, klt a b = true → klt b c = true → klt a c = true
  | [], b, [], _, h2 => by cases b <;> cases h2
  | [], _, _ :: _, _, _ => rfl
  | _ :: _, [], _, h1, _ => by cases h1
  | _ :: _, _ :: _, [], _, h2 => by cases h2
  | a :: x, b :: y, c :: z, h1, h2 => by
    rw [klt_cons] at h1 h2 ⊢
    simp only [Bool.or_eq_true, Bool.and_eq_true, decide_eq_true_eq, beq_iff_eq] at h1 h2 ⊢
    rcases h1 with h1 | ⟨e1, h1⟩ <;> rcases h2 with h2 | ⟨e2, h2⟩
    · exact .inl (UInt8.lt_trans h1 h2)
    · exact .inl (e2 ▸ h1)
    · exact .inl (e1 ▸ h2)
    · exact .inr ⟨e1.trans e2, klt_trans h1 h2⟩
theorem klt_total : ∀ (a b : List UInt8), klt a b = true ∨ a = b ∨ klt b a = true
  | [], [] => .inr (.inl rfl)
  | [], _ :: _ => .inl rfl
  | _ :: _, [] => .inr (.inr rfl)
  | a :: x, b :: y => by
    rw [klt_cons, klt_cons]
    simp only [Bool.or_eq_true, Bool.and_eq_true, decide_eq_true_eq, beq_iff_eq]
    by_cases h : a = b
    · subst h
      rcases klt_total x y with h | h | h
      · exact .inl (.inr ⟨rfl, h⟩)
      · exact .inr (.inl (by rw [h]))
      · exact .inr (.inr (.inr ⟨rfl, h⟩))
    · rcases UInt8.lt_or_lt_of_ne h with h | h
      · exact .inl (.inl h)
      · exact .inr (.inr (.inl h))
theorem klt_asymm {a b : List UInt8} (h : klt a b = true) : klt b a = false := by
  cases e : klt b a with
  | false => rfl
  | true => have := klt_trans h e; rw [klt_irrefl] at this; cases this
theorem klt_ne {a b : List UInt8} (h : klt a b = true) : a ≠ b := fun e => by rw [e, klt_irrefl] at h; cases h

/-- The order: by key, then the newest first. -/
def cmp (a b : Ent) : Int := if klt a.key b.key = true then -1 else if klt b.key a.key = true then 1 else if b.seq < a.seq then -1 else if a.seq < b.seq then 1 else 0
def lt (a b : Ent) : Prop := klt a.key b.key = true ∨ a.key = b.key ∧ b.seq < a.seq
def eqv (a b : Ent) : Prop := a.key = b.key ∧ a.seq = b.seq
theorem cmp_lt {a b : Ent} : cmp a b = -1 ↔ lt a b := by
  unfold cmp lt
  rcases klt_total a.key b.key with h | h | h
  · simp [h]
  · rw [h, klt_irrefl]
    simp only [Bool.false_eq_true, if_false, true_and, false_or]
    by_cases h1 : b.seq < a.seq
    · simp [h1]
    · by_cases h2 : a.seq < b.seq <;> simp [h1, h2]
  · have h1 := klt_asymm h
    have h2 := klt_ne h
    rw [h1, h]
    simp [Ne.symm h2]
theorem cmp_gt {a b : Ent} : cmp a b = 1 ↔ lt b a := by
  unfold cmp lt
  rcases klt_total a.key b.key with h | h | h
  · have h1 := klt_asymm h
    have h2 := klt_ne h
    rw [h, h1]
    simp [Ne.symm h2]
  · rw [h, klt_irrefl]
    simp only [Bool.false_eq_true, if_false, true_and, false_or]
    by_cases h1 : b.seq < a.seq
    · simp [h1]; omega
    · by_cases h2 : a.seq < b.seq <;> simp [h1, h2]
  · have h1 := klt_asymm h
    rw [h1, h]
    simp
theorem cmp_cases (a b : Ent) : cmp a b = -1 ∨ cmp a b = 0 ∨ cmp a b = 1 := by
  unfold cmp
  split
  · exact .inl rfl
  · split
    · exact .inr (.inr rfl)
    · split
      · exact .inl rfl
      · split
        · exact .inr (.inr rfl)
        · exact .inr (.inl rfl)
theorem cmp_eq {a b : Ent} : cmp a b = 0 ↔ eqv a b := by
  unfold cmp eqv
  rcases klt_total a.key b.key with h | h | h
  · simp [h, klt_ne h]
  · rw [h, klt_irrefl]
    simp only [Bool.false_eq_true, if_false, true_and]
    by_cases h1 : b.seq < a.seq
    · simp [h1]; omega
    · by_cases h2 : a.seq < b.seq
      · simp [h1, h2]; omega
      · simp [h1, h2]; omega
  · have h1 := klt_asymm h
    rw [h1, h]
    simp [Ne.symm (klt_ne h)]
theorem lt_trans {a b c : Ent} (h : lt a b) (k : lt b c) : lt a c := by
  rcases h with h | ⟨h1, h2⟩ <;> rcases k with k | ⟨k1, k2⟩
  · exact .inl (klt_trans h k)
  · exact .inl (k1 ▸ h)
  · exact .inl (h1 ▸ k)
  · exact .inr ⟨h1.trans k1, by omega⟩
theorem lt_irrefl (a : Ent) : ¬ lt a a := by
  rintro (h | ⟨_, h⟩)
  · rw [klt_irrefl] at h; cases h
  · omega
theorem eqv_lt {a b c : Ent} (h : eqv a b) (k : lt b c) : lt a c := by
  unfold lt eqv at *
  rw [h.1, h.2]; exact k
theorem lt_eqv {a b c : Ent} (h : lt a b) (k : eqv b c) : lt a c := by
  unfold lt eqv at *
  rw [← k.1, ← k.2]; exact h
theorem tri (a b : Ent) : lt a b ∨ eqv a b ∨ lt b a := by
  rcases cmp_cases a b with h | h | h
  · exact .inl (cmp_lt.1 h)
  · exact .inr (.inl (cmp_eq.1 h))
  · exact .inr (.inr (cmp_gt.1 h))
/-- An entry may be. -/
def fine (e : Ent) : Prop := ¬ (e.gone = true ∧ 0 < e.val.length)
/-- Lists that are right. -/
def Right (l : List Ent) : Prop := (∀ e ∈ l, fine e) ∧ l.Pairwise lt
end Ent
end Go.Proofs.YtjigfinpbdglnaaGreatDoor
end

section
set_option linter.unusedVariables false
set_option linter.unusedSimpArgs false
namespace Go.Proofs.YtjigfinpbdglnaaGreatDoor
open Go.RowKit

/-- Worlds in which all that there was is as it was. -/
structure BW (w0 : World) where
  w : World
  b : Below w0.heap.size w0 w
instance (w0 : World) : Nonempty (BW w0) := ⟨⟨w0, Below.refl _ _⟩⟩
instance (w0 : World) : Inhabited (BW w0) := ⟨⟨w0, Below.refl _ _⟩⟩
theorem BW.cell {w0 : World} {a : Addr} {v : Value} (h : w0.cell? a = some v) (W : BW w0) : W.w.cell? a = some v := cell_later W.b h
theorem BW.of {w0 w' : World} (h : ∃ W : BW w0, w' = W.w) : Below w0.heap.size w0 w' := by obtain ⟨W, rfl⟩ := h; exact W.b
section
variable {P : Program}
theorem wp_region_class {w0 w : World} {id : Nat} {Q : Exit → Act → World → Prop} {a : Act} {l : List Oper} (hm : P.follows .mixedOrders = true) (hB : Region.lexB .any l.toArray = true) (h0 : Below w0.heap.size w0 w)
    (h : wpQuiet P l.toArray (fun w' => ∃ W : BW w0, w' = W.w) (fun a' => ∀ w', (∃ W : BW w0, w' = W.w) → Q .normal a' w') l a) : (Code.region id l.toArray true).wp P Q a w :=
  wp_region_quiet (C := fun w' => ∃ W : BW w0, w' = W.w) hm hB ⟨⟨w.drew, h0.drew⟩, rfl⟩ (by simpa using h)
theorem calls_class {w0 : World} {f : FuncId} {args : Array Value} {W : BW w0} {v : Value} (h : Calls P f args W.w fun e w' => e = .returned v ∧ Below W.w.heap.size W.w w') :
    Calls P f args W.w fun e w'' => e = .returned v ∧ ∃ W' : BW w0, w'' = W'.w :=
  h.mono fun _ w' ⟨he, hb⟩ => ⟨he, ⟨w', W.b.trans (hb.mono W.b.size)⟩, rfl⟩
theorem calls_class_q {w0 : World} {f : FuncId} {args : Array Value} {W : BW w0} {v : Value} (h : Calls P f args W.w fun e w' => e = .returned v ∧ ∃ q, w' = W.w.drewN q) :
    Calls P f args W.w fun e w'' => e = .returned v ∧ ∃ W' : BW w0, w'' = W'.w :=
  calls_class (h.mono fun _ _ ⟨he, q, hq⟩ => ⟨he, hq ▸ below_drewN (Below.refl _ _) q⟩)
theorem calls_class_s {w0 : World} {f : FuncId} {args : Array Value} {W : BW w0} {v : Value} (h : Calls P f args W.w fun e w' => e = .returned v ∧ W.w = w') :
    Calls P f args W.w fun e w'' => e = .returned v ∧ ∃ W' : BW w0, w'' = W'.w :=
  calls_class (h.mono fun _ _ ⟨he, hq⟩ => ⟨he, hq ▸ Below.refl _ _⟩)
/-- A piece of code whose ways all end alike. -/
theorem code_one {c : Code} {Q : Exit → Act → World → Prop} {a w} (A : Act) (W : World) (h : c.wp P (fun e a w => e = .normal ∧ a = A ∧ w = W) a w) (k : Q .normal A W) : c.wp P Q a w :=
  Code.wp_mono (fun e a w ⟨h1, h2, h3⟩ => by subst h1; subst h2; subst h3; exact k) h
end
end Go.Proofs.YtjigfinpbdglnaaGreatDoor
end

section
namespace Go.Proofs.YtjigfinpbdglnaaGreatDoor
open Go.RowKit

/-- An entry as a value; its bytes lie at 'a'. -/
def ev (e : Ent) (a : Option Addr) (c : Nat) : Value := .agg #[.string (bstr e.key), .int .u64 e.seq, .bool e.gone, .slice a e.val.length c]
theorem bstr_ex (s : ByteArray) : ∃ l, s = bstr l := ⟨s.data.toList, by cases s; rfl⟩
theorem bstr_list (l : List UInt8) : (bstr l).toList = l := by simp [bstr]

/-- The five ways of two entries. -/
inductive Ways (x y : Ent) : Prop
  | less (h1 : Op.bytesLess (bstr x.key).toList (bstr y.key).toList = true) (e : Ent.cmp x y = -1)
  | more (h1 : Op.bytesLess (bstr x.key).toList (bstr y.key).toList = false) (h2 : decide (x.key = y.key) = false) (h3 : ((bstr x.key).toList == (bstr y.key).toList) = false) (e : Ent.cmp x y = 1)
  | newer (h1 : Op.bytesLess (bstr x.key).toList (bstr y.key).toList = false) (h2 : decide (x.key = y.key) = true) (h3 : ((bstr x.key).toList == (bstr y.key).toList) = true) (h4 : y.seq < x.seq) (e : Ent.cmp x y = -1)
  | elder (h1 : Op.bytesLess (bstr x.key).toList (bstr y.key).toList = false) (h2 : decide (x.key = y.key) = true) (h3 : ((bstr x.key).toList == (bstr y.key).toList) = true) (h4 : x.seq < y.seq) (e : Ent.cmp x y = 1)
  | same (h1 : Op.bytesLess (bstr x.key).toList (bstr y.key).toList = false) (h2 : decide (x.key = y.key) = true) (h3 : ((bstr x.key).toList == (bstr y.key).toList) = true) (h4 : x.seq = y.seq) (e : Ent.cmp x y = 0)
theorem ways (x y : Ent) : Ways x y := by
  have hk : ∀ {a b : List UInt8}, ((bstr a).toList == (bstr b).toList) = decide (a = b) := fun {a b} => by rw [bstr_beq]
  rcases Ent.klt_total x.key y.key with h | h | h
  · exact .less (by rw [bstr_list, bstr_list]; exact h) (Ent.cmp_lt.2 (.inl h))
  · have h1 : Op.bytesLess (bstr x.key).toList (bstr y.key).toList = false := by rw [bstr_list, bstr_list, h]; exact Ent.klt_irrefl _
    have h2 : decide (x.key = y.key) = true := decide_eq_true h
    have h3 : ((bstr x.key).toList == (bstr y.key).toList) = true := by rw [hk]; exact h2
    rcases Nat.lt_trichotomy x.seq y.seq with hs | hs | hs
    · exact .elder h1 h2 h3 hs (Ent.cmp_gt.2 (.inr ⟨h.symm, hs⟩))
    · exact .same h1 h2 h3 hs (Ent.cmp_eq.2 ⟨h, hs⟩)
    · exact .newer h1 h2 h3 hs (Ent.cmp_lt.2 (.inr ⟨h, hs⟩))
  · have h2 : decide (x.key = y.key) = false := decide_eq_false (Ne.symm (Ent.klt_ne h))
    exact .more (by rw [bstr_list, bstr_list]; exact Ent.klt_asymm h) h2 (by rw [hk]; exact h2) (Ent.cmp_gt.2 (.inl h))
theorem two_boxes (w : World) (o p : Obj) : Below w.heap.size w ((w.alloc o).alloc p) := ((Below.refl _ _).alloc (Nat.le_refl _) _).alloc (le_alloc (Nat.le_refl _)) _
set_option maxHeartbeats 1000000 in
theorem refcmp_any (x y : Ent) (ax ay : Option Addr) (cx cy : Nat) (w : World) :
    Calls Tryz.prog 67 #[ev x ax cx, ev y ay cy] w fun e w' => e = .returned (.int .i64 (Ent.cmp x y)) ∧ Below w.heap.size w w' := by
  unfold ev
  rcases ways x y with ⟨h1, e⟩ | ⟨h1, h2, h3, e⟩ | ⟨h1, h2, h3, h4, e⟩ | ⟨h1, h2, h3, h4, e⟩ | ⟨h1, h2, h3, h4, e⟩
  · rw [e]
    clear e
    go_enter Tryz.func67, Tryz.ntmps67
    go_wp2
    go_ret
    exact ⟨rfl, two_boxes _ _ _⟩
  · rw [e]
    clear e
    go_enter Tryz.func67, Tryz.ntmps67
    go_wp2
    go_ret
    exact ⟨rfl, two_boxes _ _ _⟩
  · rw [e]
    have t1 : decide (y.seq < x.seq) = true := decide_eq_true h4
    clear e h4
    go_enter Tryz.func67, Tryz.ntmps67
    go_wp2
    go_ret
    exact ⟨rfl, two_boxes _ _ _⟩
  · rw [e]
    have t1 : decide (y.seq < x.seq) = false := decide_eq_false (by omega)
    have t2 : decide (x.seq < y.seq) = true := decide_eq_true h4
    clear e h4
    go_enter Tryz.func67, Tryz.ntmps67
    go_wp2
    go_ret
    exact ⟨rfl, two_boxes _ _ _⟩
  · rw [e]
    have t1 : decide (y.seq < x.seq) = false := decide_eq_false (by omega)
    have t2 : decide (x.seq < y.seq) = false := decide_eq_false (by omega)
    clear e h4
    go_enter Tryz.func67, Tryz.ntmps67
    go_wp2
    go_ret
    exact ⟨rfl, two_boxes _ _ _⟩
end Go.Proofs.YtjigfinpbdglnaaGreatDoor
end

section
set_option maxRecDepth 100000
set_option linter.unusedVariables false
set_option linter.unusedSimpArgs false
namespace Go.Proofs.YtjigfinpbdglnaaGreatDoor
open Go.RowKit

theorem nanS (s : ByteArray) (w : World) : Calls Tryz.prog 101 #[.string s] w fun e w' => e = .returned (.bool false) ∧ w = w' := by
  go_enter Tryz.func101, Tryz.ntmps101
  have t : (s.toList != s.toList) = false := by simp
  go_wp2
  go_ret
  exact ⟨by simp, rfl⟩
theorem nanU (z : Int) (w : World) : Calls Tryz.prog 102 #[.int .u64 z] w fun e w' => e = .returned (.bool false) ∧ w = w' := by
  go_enter Tryz.func102, Tryz.ntmps102
  have t : (z != z) = false := by simp
  go_wp2
  go_ret
  exact ⟨by simp, rfl⟩
def Ent.kcmp (a b : List UInt8) : Int := if Ent.klt a b = true then -1 else if Ent.klt b a = true then 1 else 0
def Ent.ncmp (a b : Nat) : Int := if a < b then -1 else if b < a then 1 else 0
def Ent.or2 (p q : Int) : Int := if p = 0 then q else p
theorem cmp_parts (x y : Ent) : Ent.cmp x y = Ent.or2 (Ent.kcmp x.key y.key) (Ent.ncmp y.seq x.seq) := by
  unfold Ent.or2 Ent.cmp Ent.kcmp Ent.ncmp
  split
  · simp
  · split <;> simp
set_option maxHeartbeats 1000000 in
theorem cmpS_any (l m : List UInt8) (w : World) : Calls Tryz.prog 92 #[.string (bstr l), .string (bstr m)] w fun e w' => e = .returned (.int .i64 (Ent.kcmp l m)) ∧ w' = w := by
  have hk : ((bstr l).toList == (bstr m).toList) = decide (l = m) := bstr_beq l m
  rcases Ent.klt_total l m with h | h | h
  · have e : Ent.kcmp l m = -1 := by unfold Ent.kcmp; rw [if_pos h]
    have h1 : Op.bytesLess (bstr l).toList (bstr m).toList = true := by rw [bstr_list, bstr_list]; exact h
    rw [e]
    clear e h hk
    go_enter Tryz.func92, Tryz.ntmps92
    go_wp2_with (go_at_call 101; refine (nanS _ _).mono ?_; rintro e w' ⟨rfl, rfl⟩)
    go_ret
    exact ⟨rfl, rfl⟩
  · have e : Ent.kcmp l m = 0 := by unfold Ent.kcmp; rw [h, Ent.klt_irrefl]; rfl
    have h1 : Op.bytesLess (bstr l).toList (bstr m).toList = false := by rw [bstr_list, bstr_list, h]; exact Ent.klt_irrefl _
    have h2 : decide (l = m) = true := decide_eq_true h
    rw [h2] at hk
    rw [e]
    clear e h
    go_enter Tryz.func92, Tryz.ntmps92
    go_wp2_with (go_at_call 101; refine (nanS _ _).mono ?_; rintro e w' ⟨rfl, rfl⟩)
    go_ret
    exact ⟨rfl, rfl⟩
  · have e : Ent.kcmp l m = 1 := by unfold Ent.kcmp; rw [Ent.klt_asymm h, h]; rfl
    have h1 : Op.bytesLess (bstr l).toList (bstr m).toList = false := by rw [bstr_list, bstr_list]; exact Ent.klt_asymm h
    have h2 : decide (l = m) = false := decide_eq_false (Ne.symm (Ent.klt_ne h))
    rw [h2] at hk
    rw [e]
    clear e h
    go_enter Tryz.func92, Tryz.ntmps92
    go_wp2_with (go_at_call 101; refine (nanS _ _).mono ?_; rintro e w' ⟨rfl, rfl⟩)
    go_ret
    exact ⟨rfl, rfl⟩
set_option maxHeartbeats 1000000 in
theorem cmpU_any (a b : Nat) (w : World) : Calls Tryz.prog 93 #[.int .u64 a, .int .u64 b] w fun e w' => e = .returned (.int .i64 (Ent.ncmp a b)) ∧ w' = w := by
  rcases Nat.lt_trichotomy a b with h | h | h
  · have e : Ent.ncmp a b = -1 := by unfold Ent.ncmp; rw [if_pos h]
    have t1 : decide (a < b) = true := decide_eq_true h
    rw [e]
    clear e h
    go_enter Tryz.func93, Tryz.ntmps93
    go_wp2_with (go_at_call 102; refine (nanU _ _).mono ?_; rintro e w' ⟨rfl, rfl⟩)
    go_ret
    exact ⟨rfl, rfl⟩
  · have e : Ent.ncmp a b = 0 := by unfold Ent.ncmp; rw [if_neg (by omega), if_neg (by omega)]
    have t1 : decide (a < b) = false := decide_eq_false (by omega)
    have t2 : decide (b < a) = false := decide_eq_false (by omega)
    rw [e]
    clear e h
    go_enter Tryz.func93, Tryz.ntmps93
    go_wp2_with (go_at_call 102; refine (nanU _ _).mono ?_; rintro e w' ⟨rfl, rfl⟩)
    go_ret
    exact ⟨rfl, rfl⟩
  · have e : Ent.ncmp a b = 1 := by unfold Ent.ncmp; rw [if_neg (by omega), if_pos h]
    have t1 : decide (a < b) = false := decide_eq_false (by omega)
    have t2 : decide (b < a) = true := decide_eq_true h
    rw [e]
    clear e h
    go_enter Tryz.func93, Tryz.ntmps93
    go_wp2_with (go_at_call 102; refine (nanU _ _).mono ?_; rintro e w' ⟨rfl, rfl⟩)
    go_ret
    exact ⟨rfl, rfl⟩
set_option maxHeartbeats 1000000 in
theorem or2_any (p q : Int) (b : Nat) (w : World) (c0 : w.cell? ⟨b, 0, none⟩ = some (.int .i64 p)) (c1 : w.cell? ⟨b, 1, none⟩ = some (.int .i64 q)) :
    Calls Tryz.prog 91 #[.slice (some ⟨b, 0, none⟩) 2 2] w fun e w' => e = .returned (.int .i64 (Ent.or2 p q)) ∧ w = w' := by
  go_enter Tryz.func91, Tryz.ntmps91
  go_wp2_with fail
  go_loop [8] (fun i => i = .int .i64 0 ∨ (i = .int .i64 1 ∧ p = 0) ∨ (i = .int .i64 2 ∧ p = 0 ∧ q = 0)) (fun i => 2 - (intOf i).toNat)
  case atStart => exact .inl rfl
  case round =>
    rcases hrel with rfl | ⟨rfl, hp⟩ | ⟨rfl, hp, hq⟩
    · by_cases h : p = 0
      · have t : (p != 0) = false := by simp [h]
        have H := Lib.hid h
        clear h
        go_wp2
        go_round
        case rel => exact .inr (.inl ⟨rfl, H.out⟩)
        case measure => simp [intOf]
      · have t : (p != 0) = true := by simp [h]
        have E : Hid (Ent.or2 p q = p) := Lib.hid (if_neg h)
        clear h
        go_wp2
        go_ret
        exact ⟨by rw [E.out]; rfl, rfl⟩
    · have H := Lib.hid hp
      have E : Hid (Ent.or2 p q = q) := Lib.hid (if_pos hp)
      clear hp
      by_cases h : q = 0
      · have t : (q != 0) = false := by simp [h]
        have H2 := Lib.hid h
        clear h
        go_wp2
        go_round
        case rel => exact .inr (.inr ⟨rfl, H.out, H2.out⟩)
        case measure => simp [intOf]
      · have t : (q != 0) = true := by simp [h]
        clear h
        go_wp2
        go_ret
        exact ⟨by rw [E.out]; rfl, rfl⟩
    · have E : Hid (Ent.or2 p q = 0) := Lib.hid (by unfold Ent.or2; rw [if_pos hp, hq])
      clear hp hq
      go_wp2
      go_ret
      exact ⟨by rw [E.out]; rfl, rfl⟩
set_option maxHeartbeats 1000000 in
theorem cmp_any (x y : Ent) (ax ay : Option Addr) (cx cy : Nat) (w : World) :
    Calls Tryz.prog 73 #[ev x ax cx, ev y ay cy] w fun e w' => e = .returned (.int .i64 (Ent.cmp x y)) ∧ Below w.heap.size w w' := by
  rw [cmp_parts]
  unfold ev
  generalize hW : (w.alloc (.cells #[.string (bstr x.key), .int .u64 x.seq, .bool x.gone, .slice ax x.val.length cx] 37)).alloc (.cells #[.string (bstr y.key), .int .u64 y.seq, .bool y.gone, .slice ay y.val.length cy] 37) = w0
  have hb : Below w.heap.size w w0 := by rw [← hW]; exact two_boxes _ _ _
  have hz : w0.heap.size = w.heap.size + 2 := by rw [← hW]; simp
  have x0 : w0.cell? ⟨w.heap.size, 0, none⟩ = some (.string (bstr x.key)) := by
    rw [← hW]; exact cell_later ((Below.refl _ _).alloc (Nat.le_refl _) _) (cell_of_row _ _ 0 #[.string (bstr x.key), .int .u64 x.seq, .bool x.gone, .slice ax x.val.length cx] 37 (0, 0) (heap_alloc_new w _))
  have x1 : w0.cell? ⟨w.heap.size, 1, none⟩ = some (.int .u64 x.seq) := by
    rw [← hW]; exact cell_later ((Below.refl _ _).alloc (Nat.le_refl _) _) (cell_of_row _ _ 1 #[.string (bstr x.key), .int .u64 x.seq, .bool x.gone, .slice ax x.val.length cx] 37 (0, 0) (heap_alloc_new w _))
  have hs1 : (w.alloc (.cells #[.string (bstr x.key), .int .u64 x.seq, .bool x.gone, .slice ax x.val.length cx] 37)).heap.size = w.heap.size + 1 := by simp
  have y0 : w0.cell? ⟨w.heap.size + 1, 0, none⟩ = some (.string (bstr y.key)) := by
    rw [← hW, ← hs1]; exact cell_of_row _ _ 0 #[.string (bstr y.key), .int .u64 y.seq, .bool y.gone, .slice ay y.val.length cy] 37 (0, 0) (heap_alloc_new _ _)
  have y1 : w0.cell? ⟨w.heap.size + 1, 1, none⟩ = some (.int .u64 y.seq) := by
    rw [← hW, ← hs1]; exact cell_of_row _ _ 1 #[.string (bstr y.key), .int .u64 y.seq, .bool y.gone, .slice ay y.val.length cy] 37 (0, 0) (heap_alloc_new _ _)
  have HW := Lib.hid hW
  have HB := Lib.hid hb
  have HZ := Lib.hid hz
  clear hW hb hz hs1
  go_enter Tryz.func73, Tryz.ntmps73
  go_wp2_with fail
  rw [HW.out]
  refine wp_region_still_tail 10 (by kernel_rfl) (by kernel_rfl) ?_
  simp only [List.take_succ_cons, List.take_zero, List.drop_succ_cons, List.drop_zero]
  repeat still_step
  still_call (cmpS_any _ _ _)
  repeat still_step
  still_call (cmpU_any _ _ _)
  repeat still_step
  refine wpStill_nil ?_
  go_wp2_with fail
  refine (or2_any (Ent.kcmp x.key y.key) (Ent.ncmp y.seq x.seq) w0.heap.size (w0.alloc (.cells #[.int .i64 (Ent.kcmp x.key y.key), .int .i64 (Ent.ncmp y.seq x.seq)] 3)).drew (cell_of_row _ _ 0 #[.int .i64 (Ent.kcmp x.key y.key), .int .i64 (Ent.ncmp y.seq x.seq)] 3 (0, 0) (heap_alloc_new w0 _)) (cell_of_row _ _ 1 #[.int .i64 (Ent.kcmp x.key y.key), .int .i64 (Ent.ncmp y.seq x.seq)] 3 (0, 0) (heap_alloc_new w0 _))).mono ?_
  rintro e w' ⟨rfl, rfl⟩
  go_wp2
  go_ret
  exact ⟨rfl, (HB.out.alloc HB.out.size _).drew⟩
end Go.Proofs.YtjigfinpbdglnaaGreatDoor
end

section
set_option maxRecDepth 100000
set_option linter.unusedVariables false
set_option linter.unusedSimpArgs false
namespace Go.Proofs.YtjigfinpbdglnaaGreatDoor
open Go.RowKit

/-- The cells of an entry. -/
structure EntAt (w : World) (b o : Nat) (e : Ent) (a : Option Addr) (c : Nat) : Prop where
  key : w.cell? ⟨b, o, none⟩ = some (.string (bstr e.key))
  seq : w.cell? ⟨b, o + 1, none⟩ = some (.int .u64 e.seq)
  gone : w.cell? ⟨b, o + 2, none⟩ = some (.bool e.gone)
  val : w.cell? ⟨b, o + 3, none⟩ = some (.slice a e.val.length c)
theorem EntAt.below {w w' : World} {b o : Nat} {e : Ent} {a : Option Addr} {c : Nat} (h : EntAt w b o e a c) (k : Below w.heap.size w w') : EntAt w' b o e a c :=
  ⟨cell_later k h.key, cell_later k h.seq, cell_later k h.gone, cell_later k h.val⟩
/-- A slice of entries that is read. -/
def Es (w : World) (a : Option Addr) (n c : Nat) (l : List Ent) : Prop :=
  l.length = n ∧ n ≤ c ∧ c ≤ maxLen ∧ ∀ i, i < n → ∃ b off ai ci, a = some ⟨b, off, none⟩ ∧ EntAt w b (off + i * 4) (nth l i) ai ci ∧ Bs w ai (nth l i).val.length ci (nth l i).val
theorem Es.below {w w' : World} {a : Option Addr} {n c : Nat} {l : List Ent} (h : Es w a n c l) (k : Below w.heap.size w w') : Es w' a n c l :=
  ⟨h.1, h.2.1, h.2.2.1, fun i hi => by obtain ⟨b, off, ai, ci, h1, h2, h3⟩ := h.2.2.2 i hi; exact ⟨b, off, ai, ci, h1, h2.below k, h3.below k⟩⟩
theorem Es.le {w : World} {a : Option Addr} {n c : Nat} {l : List Ent} (h : Es w a n c l) : n ≤ 9223372036854775807 ∧ c ≤ 9223372036854775807 := by
  have := h.2.1; have := h.2.2.1; simp only [maxLen] at *; omega
theorem Es.nil (w : World) : Es w none 0 0 [] := ⟨rfl, Nat.le_refl _, by simp [maxLen], fun i hi => by omega⟩

def Ent.tot (l : List Ent) : Nat := (l.map fun e => e.key.length + e.val.length).sum
theorem Ent.tot_snoc (l : List Ent) {i : Nat} (hi : i < l.length) : Ent.tot (l.take (i + 1)) = Ent.tot (l.take i) + ((nth l i).key.length + (nth l i).val.length) := by
  unfold Ent.tot; rw [take_snoc l hi]; simp
theorem Ent.tot_le (l : List Ent) (i : Nat) : Ent.tot (l.take i) ≤ Ent.tot l := by
  unfold Ent.tot
  conv => rhs; rw [← List.take_append_drop i l]
  simp only [List.map_append, List.sum_append]
  omega
set_option maxHeartbeats 2000000 in
theorem efew_any (a : Option Addr) (n c : Nat) (l : List Ent) (most : Nat) (w : World) (h : Es w a n c l) (hf : Ent.tot l + n ≤ 1000000000) (hm : most ≤ 1000) :
    Calls Tryz.prog 8 #[.slice a n c, .int .i64 most] w fun e w' => e = .returned (.bool (decide (n ≤ most ∧ Ent.tot l ≤ 131072))) ∧ ∃ q, w' = w.drewN q := by
  have hle := h.le.1
  have HN := Lib.hid h.1
  have HE := Lib.hid h
  clear h
  go_enter Tryz.func8, Tryz.ntmps8
  go_wp2
  go_loopw [5, 6] (fun s i wr => ∃ k q : Nat, k ≤ n ∧ i = .int .i64 k ∧ s = .int .i64 (Ent.tot (l.take k) : Nat) ∧ wr = w.drewN q) (fun _ i _ => n - (intOf i).toNat)
  case atStart => exact ⟨0, 0, by omega, rfl, by simp [Ent.tot], rfl⟩
  case round =>
    obtain ⟨k, q, hk, rfl, rfl, rfl⟩ := hrel
    by_cases hlt : k < n
    · obtain ⟨b, off, ai, ci, rfl, he, hv⟩ := HE.out.2.2.2 k hlt
      have ht := Ent.tot_snoc l (i := k) (by rw [HN.out]; exact hlt)
      have h1 := Ent.tot_le l (k + 1)
      have c1 := he.key
      have c2 := he.val
      generalize nth l k = x at *
      have hsz : (bstr x.key).size = x.key.length := by simp [bstr, ByteArray.size]
      have HT := Lib.hid ht
      have hb : Ent.tot (l.take k) + x.key.length + x.val.length ≤ 1000000000 := by omega
      clear ht h1 he hv hf
      generalize Ent.tot (l.take k) = s at *
      go_wp2_with fail
      go_quiet (fail)
      go_wp2
      go_roundw
      case rel => exact ⟨k + 1, q + nq, by omega, by go_num, by rw [HT.out]; go_num, rfl⟩
      case measure => simp [intOf]; omega
    · obtain rfl : k = n := by omega
      have e1 : l.take k = l := by rw [← HN.out, List.take_length]
      rw [e1]
      by_cases h1 : k ≤ most
      · have t1 : decide (k ≤ most) = true := decide_eq_true h1
        by_cases h2 : Ent.tot l ≤ 131072
        · have t2 : decide (((Ent.tot l : Nat) : Int) ≤ 131072) = true := decide_eq_true (by omega)
          have E := Lib.hid (decide_eq_true (show k ≤ most ∧ Ent.tot l ≤ 131072 from ⟨h1, h2⟩))
          generalize hS : Ent.tot l = s at *
          have HS := Lib.hid hS
          clear h1 h2 hf hS
          go_wp2
          go_ret
          exact ⟨by rw [HS.out, E.out]; rfl, q, rfl⟩
        · have t2 : decide (((Ent.tot l : Nat) : Int) ≤ 131072) = false := decide_eq_false (by omega)
          have E := Lib.hid (decide_eq_false (show ¬ (k ≤ most ∧ Ent.tot l ≤ 131072) from fun h => h2 h.2))
          generalize hS : Ent.tot l = s at *
          have HS := Lib.hid hS
          clear h1 h2 hf hS
          go_wp2
          go_ret
          exact ⟨by rw [HS.out, E.out]; rfl, q, rfl⟩
      · have t1 : decide (k ≤ most) = false := decide_eq_false h1
        have E := Lib.hid (decide_eq_false (show ¬ (k ≤ most ∧ Ent.tot l ≤ 131072) from fun h => h1 h.1))
        clear h1 hf
        go_wp2
        go_ret
        exact ⟨by rw [E.out]; rfl, q, rfl⟩
/-- Two entries compared field by field. -/
def Ent.same (x y : Ent) : Bool := decide (x = y)
set_option maxHeartbeats 2000000 in
theorem esame_any (x y : Ent) (ax ay : Option Addr) (cx cy : Nat) (w : World) (hx : Bs w ax x.val.length cx x.val) (hy : Bs w ay y.val.length cy y.val) :
    Calls Tryz.prog 12 #[ev x ax cx, ev y ay cy] w fun e w' => e = .returned (.bool (decide (x = y))) ∧ Below w.heap.size w w' := by
  have v1 := conv_bytes (hx.below (two_boxes w (.cells #[.string (bstr x.key), .int .u64 x.seq, .bool x.gone, .slice ax x.val.length cx] 37) (.cells #[.string (bstr y.key), .int .u64 y.seq, .bool y.gone, .slice ay y.val.length cy] 37)))
  have v2 := conv_bytes (hy.below (two_boxes w (.cells #[.string (bstr x.key), .int .u64 x.seq, .bool x.gone, .slice ax x.val.length cx] 37) (.cells #[.string (bstr y.key), .int .u64 y.seq, .bool y.gone, .slice ay y.val.length cy] 37)))
  have hxl := hx.le
  have hyl := hy.le
  clear hx hy
  unfold ev
  by_cases h1 : x.key = y.key
  case neg =>
    have t1 : ((bstr x.key).toList == (bstr y.key).toList) = false := by rw [bstr_beq]; exact decide_eq_false h1
    have t1' : decide (x.key = y.key) = false := decide_eq_false h1
    have E := Lib.hid (decide_eq_false (show ¬ x = y from fun e => h1 (by rw [e])))
    clear h1
    go_enter Tryz.func12, Tryz.ntmps12
    go_wp2
    go_ret
    exact ⟨by rw [E.out]; rfl, two_boxes _ _ _⟩
  have t1 : ((bstr x.key).toList == (bstr y.key).toList) = true := by rw [bstr_beq]; exact decide_eq_true h1
  have t1' : decide (x.key = y.key) = true := decide_eq_true h1
  by_cases h2 : x.seq = y.seq
  case neg =>
    have t2 : decide (x.seq = y.seq) = false := decide_eq_false h2
    have t2' : ((x.seq : Int) == (y.seq : Int)) = false := by simp; omega
    have E := Lib.hid (decide_eq_false (show ¬ x = y from fun e => h2 (by rw [e])))
    clear h1 h2
    go_enter Tryz.func12, Tryz.ntmps12
    go_wp2
    go_ret
    exact ⟨by rw [E.out]; rfl, two_boxes _ _ _⟩
  have t2' : ((x.seq : Int) == (y.seq : Int)) = true := by simp; omega
  by_cases h3 : x.gone = y.gone
  case neg =>
    have t3 : (x.gone == y.gone) = false := by simpa using h3
    have E := Lib.hid (decide_eq_false (show ¬ x = y from fun e => h3 (by rw [e])))
    clear h1 h2 h3
    go_enter Tryz.func12, Tryz.ntmps12
    go_wp2
    go_ret
    exact ⟨by rw [E.out]; rfl, two_boxes _ _ _⟩
  have t3 : (x.gone == y.gone) = true := by simpa using h3
  by_cases h4 : x.val = y.val
  case neg =>
    have t4 : ((bstr x.val).toList == (bstr y.val).toList) = false := by rw [bstr_beq]; exact decide_eq_false h4
    have t4' : decide (x.val = y.val) = false := decide_eq_false h4
    have E := Lib.hid (decide_eq_false (show ¬ x = y from fun e => h4 (by rw [e])))
    clear h1 h2 h3 h4
    go_enter Tryz.func12, Tryz.ntmps12
    go_wp2
    go_ret
    exact ⟨by rw [E.out]; rfl, two_boxes _ _ _⟩
  have t4 : ((bstr x.val).toList == (bstr y.val).toList) = true := by rw [bstr_beq]; exact decide_eq_true h4
  have t4' : decide (x.val = y.val) = true := decide_eq_true h4
  have E := Lib.hid (decide_eq_true (Ent.ext' h1 h2 h3 h4))
  clear h1 h2 h3 h4
  go_enter Tryz.func12, Tryz.ntmps12
  go_wp2
  go_ret
  exact ⟨by rw [E.out]; rfl, two_boxes _ _ _⟩
theorem Es.vals {w : World} {a : Option Addr} {n c : Nat} {l : List Ent} (h : Es w a n c l) {i : Nat} (hi : i < n) :
    ∃ b off ai ci, a = some ⟨b, off, none⟩ ∧ EntAt w b (off + i * 4) (nth l i) ai ci ∧ Bs w ai (nth l i).val.length ci (nth l i).val := h.2.2.2 i hi
theorem ent_ext_nth {l m : List Ent} (hl : l.length = m.length) (h : ∀ k, k < l.length → nth l k = nth m k) : l = m := by
  apply List.ext_getElem hl
  intro i h1 h2
  have := h i h1
  rwa [nth_eq _ h1, nth_eq _ h2] at this
set_option maxHeartbeats 4000000 in
theorem srows_any (a a' : Option Addr) (n c n' c' : Nat) (l l' : List Ent) (w : World) (h : Es w a n c l) (h' : Es w a' n' c' l') :
    Calls Tryz.prog 15 #[.slice a n c, .slice a' n' c'] w fun e w' => e = .returned (.bool (decide (l = l'))) ∧ Below w.heap.size w w' := by
  have hle := h.le.1
  have hle' := h'.le.1
  have HN := Lib.hid h.1
  have HN' := Lib.hid h'.1
  have HE := Lib.hid h
  have HE' := Lib.hid h'
  clear h h'
  go_enter Tryz.func15, Tryz.ntmps15
  by_cases hn : n = n'
  · subst hn
    have t1 : ((n : Int) != (n : Int)) = false := by simp
    go_wp2
    go_loopw [5] (fun i wr => ∃ k : Nat, k ≤ n ∧ i = .int .i64 k ∧ Below w.heap.size w wr ∧ Hid (∀ j, j < k → nth l j = nth l' j)) (fun i _ => n - (intOf i).toNat)
    case atStart => exact ⟨0, by omega, rfl, Below.refl _ _, Lib.hid (fun j hj => by omega)⟩
    case round =>
      obtain ⟨k, hk, rfl, hb, hall⟩ := hrel
      by_cases hlt : k < n
      · obtain ⟨b1, o1, a1, d1, rfl, he1, hv1⟩ := (HE.out.below hb).vals hlt
        obtain ⟨b2, o2, a2, d2, rfl, he2, hv2⟩ := (HE'.out.below hb).vals hlt
        have p1 := he1.key
        have p2 := he1.seq
        have p3 := he1.gone
        have p4 := he1.val
        have q1 := he2.key
        have q2 := he2.seq
        have q3 := he2.gone
        have q4 := he2.val
        have HV1 := Lib.hid hv1
        have HV2 := Lib.hid hv2
        have HB := Lib.hid hb
        clear he1 he2 hv1 hv2 hb
        go_wp2_with fail
        refine wp_region_class (w0 := wr) (by kernel_rfl) (by kernel_rfl) (Below.refl _ _) ?_
        have m1 := BW.cell p1
        have m2 := BW.cell p2
        have m3 := BW.cell p3
        have m4 := BW.cell p4
        have n1 := BW.cell q1
        have n2 := BW.cell q2
        have n3 := BW.cell q3
        have n4 := BW.cell q4
        by_cases hxy : nth l k = nth l' k
        · have hsm : ∀ W : BW wr, Calls Tryz.prog 12 #[ev (nth l k) a1 d1, ev (nth l' k) a2 d2] W.w fun e w' => e = .returned (.bool true) ∧ Below W.w.heap.size W.w w' := fun W => by
            have := esame_any (nth l k) (nth l' k) a1 a2 d1 d2 W.w (HV1.out.below W.b) (HV2.out.below W.b)
            rwa [decide_eq_true hxy] at this
          have HX := Lib.hid hxy
          have HSM := Lib.hid hsm
          clear hxy hsm
          repeat (first | go_big_quiet_step ((go_at_call 12; exact calls_class (HSM.out _))))
          refine wpQuiet_nil ?_
          intro w1 hb1; replace hb1 := BW.of hb1
          have HB1 := Lib.hid (HB.out.trans (hb1.mono HB.out.size))
          clear hb1 m1 m2 m3 m4 n1 n2 n3 n4
          go_wp2
          go_roundw
          case rel => exact ⟨k + 1, by omega, by go_num, HB1.out, Lib.hid (fun j hj => by
            by_cases e : j = k
            · rw [e]; exact HX.out
            · exact hall.out j (by omega))⟩
          case measure => simp [intOf]; omega
        · have hsm : ∀ W : BW wr, Calls Tryz.prog 12 #[ev (nth l k) a1 d1, ev (nth l' k) a2 d2] W.w fun e w' => e = .returned (.bool false) ∧ Below W.w.heap.size W.w w' := fun W => by
            have := esame_any (nth l k) (nth l' k) a1 a2 d1 d2 W.w (HV1.out.below W.b) (HV2.out.below W.b)
            rwa [decide_eq_false hxy] at this
          have E := Lib.hid (decide_eq_false (show ¬ l = l' from fun e => hxy (by rw [e])))
          have HSM := Lib.hid hsm
          clear hxy hsm
          repeat (first | go_big_quiet_step ((go_at_call 12; exact calls_class (HSM.out _))))
          refine wpQuiet_nil ?_
          intro w1 hb1; replace hb1 := BW.of hb1
          have HB1 := Lib.hid (HB.out.trans (hb1.mono HB.out.size))
          clear hb1 m1 m2 m3 m4 n1 n2 n3 n4
          go_wp2
          go_ret
          exact ⟨by rw [E.out]; rfl, HB1.out⟩
      · obtain rfl : k = n := by omega
        have E := Lib.hid (decide_eq_true (ent_ext_nth (by rw [HN.out, HN'.out]) (fun j hj => hall.out j (by rw [HN.out] at hj; exact hj))))
        have HB := Lib.hid hb
        clear hb
        go_wp2
        go_ret
        exact ⟨by rw [E.out]; rfl, HB.out⟩
  · have t1 : ((n : Int) != (n' : Int)) = true := by simp; omega
    have E := Lib.hid (decide_eq_false (show ¬ l = l' from fun e => hn (by rw [← HN.out, ← HN'.out, e])))
    clear hn
    go_wp2
    go_ret
    exact ⟨by rw [E.out]; rfl, Below.refl _ _⟩
end Go.Proofs.YtjigfinpbdglnaaGreatDoor
end

section
set_option linter.unusedVariables false
set_option linter.unusedSimpArgs false
namespace Go.Proofs.YtjigfinpbdglnaaGreatDoor
open Go.RowKit

section
variable {P : Program} {l n : Nat} {Q : Exit → Act → World → Prop} {a : Act} {w : World}
/-- In a round, with no fence. -/
abbrev inR (l : Nat) : Fence := Fence.wide.inRound l
theorem rows_in {row : String} {args : Array Value} {R : Value → World → Prop} (h : Rows P row args w R) : RowsIn (inR l) n P row args w R := by
  intro c cs _
  obtain ⟨v, w', r, s⟩ := h c cs
  exact ⟨v, w', r, by rw [fenced_inRound]; exact stepsIn_wide.2 s⟩
theorem calls_in {f : FuncId} {args : Array Value} {R : Ending → World → Prop} (h : Calls P f args w R) : CallsIn (inR l) n P f args w R := CallsIn.inRound l (callsIn_wide.2 h)
theorem oper_in {o : Oper} {K K' : Act → World → Prop} (hnd : ∀ c, o.op ≠ .defer c) (hK : ∀ a w, K a w → K' a w) (h : o.wp P a w K Q) : o.wpIn (inR l) n P a w K' Q := by
  unfold Oper.wpIn
  refine ⟨fun _ _ => trivial, ?_⟩
  rw [Oper.semAt_eq _ _ _ hnd]
  unfold Oper.wp at h
  generalize (execOp a.eval o).run P w = r at *
  have hd : ¬ ((inR l).depth.isSome = true) := by simp [Fence.wide]
  cases r with
  | ok x w' =>
    cases x <;> simp only [Oper.upon, Oper.uponIn] at h ⊢ <;>
      first
        | exact hK _ _ h
        | exact ⟨fun e => absurd e hd, (calls_in h).mono (fun e w'' he => by cases e <;> first | exact hK _ _ he | exact he)⟩
        | exact ⟨fun e => absurd e hd, (rows_in h).mono (fun _ _ he => hK _ _ he)⟩
  | halt x w' => cases x <;> simp only [Oper.upon, Oper.uponIn] at h ⊢ <;> exact h
def noDefer (o : Oper) : Bool := match o.op with | .defer _ => false | _ => true
theorem noDefer_spec {o : Oper} (h : noDefer o = true) : ∀ c, o.op ≠ .defer c := by
  intro c e
  unfold noDefer at h
  rw [e] at h
  cases h
theorem any_in {md : Region.Mode} {ops : Array Oper} (hQ : ¬ LetsOut Q) (hnd : ops.all noDefer = true) : ∀ (fuel : Nat) (listed : Array Bool) (a : Act) (w : World), wpAny P md ops Q fuel listed a w → wpAnyIn (inR l) n P md ops Q fuel listed a w
  | 0, _, _, _, h => h
  | fuel + 1, listed, a, w, h => by
    refine ⟨h.1, fun i hi => ?_⟩
    have := h.2 i hi
    unfold wpOp at this
    unfold wpOpIn
    cases ho : ops[i]? with
    | none => simp only [ho] at this ⊢; exact any_in hQ hnd fuel _ _ _ this
    | some o =>
      simp only [ho] at this ⊢
      have hd : noDefer o = true := by
        obtain ⟨h1, h2⟩ := Array.getElem?_eq_some_iff.1 ho
        rw [← h2]; exact Array.all_eq_true.1 hnd i h1
      split
      · rename_i hw
        rw [if_pos hw] at this
        rcases this with this | this
        · exact oper_in (noDefer_spec hd) (fun a w => any_in hQ hnd fuel _ a w) this
        · exact absurd this.2 hQ
      · rename_i hw
        rw [if_neg hw] at this
        exact ⟨fun _ _ => trivial, any_in hQ hnd fuel _ _ _ this⟩
theorem list_in {ops : Array Oper} (hQ : ¬ LetsOut Q) : ∀ (rest : List Oper) (a : Act) (w : World), rest.all noDefer = true → wpList P ops Q rest a w → wpListIn (inR l) n P ops Q rest a w
  | [], _, _, _, h => h
  | o :: rest, a, w, hnd, h => by
    rw [List.all_cons, Bool.and_eq_true] at hnd
    unfold wpList at h
    unfold wpListIn
    split
    · rename_i hw
      rw [if_pos hw] at h
      rcases h with h | h
      · exact oper_in (noDefer_spec hnd.1) (fun a w => list_in hQ rest a w hnd.2) h
      · exact absurd h.2 hQ
    · rename_i hw
      rw [if_neg hw] at h
      exact ⟨fun _ _ => trivial, list_in hQ rest _ _ hnd.2 h⟩
/-- A region that does not draw. -/
theorem round_lit {id : Nat} {ops : List Oper} (hQ : ¬ LetsOut Q) (hnd : ops.all noDefer = true) (h : wpList P ops.toArray Q ops a w) : (Code.region id ops.toArray false).wpIn (inR l) n P Q a w :=
  wpIn_region_lit (list_in hQ ops a w hnd h)
/-- A region that draws: its loads and calls keep all there was. -/
theorem round_class {w0 : World} {id : Nat} {ops : List Oper} (hQ : ¬ LetsOut Q) (hm : P.follows .mixedOrders = true) (hB : Region.lexB .any ops.toArray = true) (hnd : ops.toArray.all noDefer = true) (h0 : Below w0.heap.size w0 w)
    (h : wpQuiet P ops.toArray (fun w' => ∃ W : BW w0, w' = W.w) (fun a' => ∀ w', (∃ W : BW w0, w' = W.w) → Q .normal a' w') ops a) : (Code.region id ops.toArray true).wpIn (inR l) n P Q a w := by
  simp only [Region.lexB, Bool.and_eq_true] at hB
  refine wpIn_region_any hm (any_in hQ hnd _ _ _ _ (wpAny_of_quiet (Q := fun a' => ∀ w', (∃ W : BW w0, w' = W.w) → Q .normal a' w') (fun _ w' hw' h => h w' hw') _ _ _ _ (⟨⟨w.drew, h0.drew⟩, rfl⟩ : ∃ W : BW w0, w.drew = W.w) ?_))
  have := wpAnyQ_lex (C := fun w' => ∃ W : BW w0, w' = W.w) (md := .any) hB.1 ops 0 (Array.replicate ops.toArray.size false) a (by simp) (by simpa using hB.2) h
  simpa using this
/-- A region that draws, a store at its end. -/
theorem round_tail {id : Nat} {ops : List Oper} (N : Nat) (hQ : ¬ LetsOut Q) (hm : P.follows .mixedOrders = true) (hB : Region.lexTailB .any ops.toArray N = true) (hnd : ops.toArray.all noDefer = true)
    (h : wpStill P ops.toArray w.drew (fun a' => wpList P ops.toArray Q (ops.drop N) a' w.drew) (ops.take N) a) : (Code.region id ops.toArray true).wpIn (inR l) n P Q a w := by
  simp only [Region.lexTailB, Bool.and_eq_true, decide_eq_true_eq] at hB
  obtain ⟨⟨⟨⟨hsel, hn⟩, hs⟩, hc⟩, hlex⟩ := hB
  have hn' : N < ops.length := by simpa using hn
  have htl : (ops.take N).length = N := by simp; omega
  have hdl : (ops.drop N).length = ops.toArray.size - N := by simp
  have H := wpAnyL_lex (md := .any) (g := ops.toArray.size - N) hsel hs hc hn (ops.take N) 0 (Array.replicate ops.toArray.size false) a (fun j hj => by
    have hj' : j < N := by rw [htl] at hj; exact hj
    simp [hj']) (by simpa using htl)
    ⟨by simp, fun j oj _ hl => (by rw [getD_replicate_false] at hl; cases hl), fun t _ ht => getD_in (by simpa using ht) (getD_replicate_false _ _)⟩ (by rw [htl]; exact hlex) h
  refine wpIn_region_any hm (any_in hQ hnd _ _ _ _ ?_)
  have := wpAny_of_head (Q' := Q) (g := ops.toArray.size - N) (fun listed a' hL => by
    have := wpAny_of_seq (md := .any) (Q' := Q) (ops.drop N) N listed a' w.drew (fun j => by simp [List.getElem?_drop]) (by rw [hdl]; exact hL.1) hL.2
    rwa [hdl] at this) _ _ _ H
  rw [htl, show N + (ops.toArray.size - N) = ops.toArray.size by omega] at this
  exact this
end
end Go.Proofs.YtjigfinpbdglnaaGreatDoor
end

section
set_option maxRecDepth 100000
set_option linter.unusedSimpArgs false
namespace Go.Proofs.YtjigfinpbdglnaaGreatDoor
open Go.RowKit
set_option linter.unusedVariables false

theorem own_keep {w w' : World} {B e s n : Nat} {v : Value} {cs : List Value} (h : w.ownsRow B e s v n cs) (hb : ∀ g, B ≤ g → w'.heap[g]? = w.heap[g]?) : w'.ownsRow B e s v n cs := by
  refine ⟨h.1, ?_⟩
  rcases h.2 with h | ⟨g, cap, cur, h1, h2, h3, h4⟩
  · exact .inl h
  · exact .inr ⟨g, cap, cur, h1, h2, by rw [hb g h2]; exact h3, h4⟩
theorem infoE : (Tryz.prog.info? 37).map (fun i => (i.zero, i.size, i.bytes)) = some (some (.agg #[.string ByteArray.empty, .int .u64 0, .bool false, .slice none 0 0]), 4, 56) := by kernel_rfl
def entCells (e : Ent) (a : Option Addr) (c : Nat) : List Value := [.string (bstr e.key), .int .u64 e.seq, .bool e.gone, .slice a e.val.length c]
theorem entCells_one (e : Ent) (a : Option Addr) (c : Nat) : ∀ u ∈ entCells e a c, u.oneCell' = true := by
  intro u hu
  simp only [entCells, List.mem_cons, List.not_mem_nil, or_false] at hu
  rcases hu with rfl | rfl | rfl | rfl <;> rfl
theorem EntAt.cells {w : World} {b o : Nat} {e : Ent} {a : Option Addr} {c : Nat} (h : EntAt w b o e a c) : ∀ j v, (entCells e a c)[j]? = some v → w.cell? ⟨b, o + j, none⟩ = some v := by
  intro j v hj
  match j, hj with
  | 0, hj => cases hj; exact h.key
  | 1, hj => cases hj; exact h.seq
  | 2, hj => cases hj; exact h.gone
  | 3, hj => cases hj; exact h.val
  | j + 4, hj => simp [entCells] at hj
theorem EntAt.of_cells {w : World} {b o : Nat} {e : Ent} {a : Option Addr} {c : Nat} (h : ∀ j v, (entCells e a c)[j]? = some v → w.cell? ⟨b, o + j, none⟩ = some v) : EntAt w b o e a c := ⟨h 0 _ rfl, h 1 _ rfl, h 2 _ rfl, h 3 _ rfl⟩
/-- What is known of an entry's cells within a row: its value's bytes lie elsewhere. -/
def EntIn (w : World) (a : Option Addr) (cs : List Value) (i : Nat) (e : Ent) : Prop :=
  ∃ ai ci, (∀ j v, (entCells e ai ci)[j]? = some v → cs[i * 4 + j]? = some v) ∧ Bs w ai e.val.length ci e.val ∧ (0 < e.val.length → ∀ x y, ai = some x → a = some y → x.block ≠ y.block)
/-- A row of entries that is the call's own. -/
structure AccE (w : World) (B : Nat) (a : Option Addr) (n c : Nat) (l : List Ent) : Prop where
  len : l.length = n
  row : ∃ cs, w.ownsRow B 37 4 (.slice a n c) n cs ∧ ∀ i, i < n → EntIn w a cs i (nth l i)
theorem AccE.nil (w : World) (B : Nat) : AccE w B none 0 0 [] := ⟨rfl, [], World.ownsRow_nil w B _ _, fun i hi => by omega⟩
theorem AccE.below {w w' : World} {B n c : Nat} {a : Option Addr} {l : List Ent} (h : AccE w B a n c l) (hb : Below w.heap.size w w') : AccE w' B a n c l := by
  obtain ⟨cs, h1, h2⟩ := h.row
  exact ⟨h.len, cs, own_below h1 hb, fun i hi => by obtain ⟨ai, ci, g1, g2, g3⟩ := h2 i hi; exact ⟨ai, ci, g1, g2.below hb, g3⟩⟩
theorem AccE.mono {w : World} {B B' n c : Nat} {a : Option Addr} {l : List Ent} (h : AccE w B a n c l) (hB : B' ≤ B) : AccE w B' a n c l := by
  obtain ⟨cs, h1, h2⟩ := h.row
  exact ⟨h.len, cs, own_mono h1 hB, h2⟩
theorem AccE.cap {w : World} {B n c : Nat} {a : Option Addr} {l : List Ent} (h : AccE w B a n c l) : n ≤ c ∧ c ≤ maxLen := by
  obtain ⟨cs, h1, _⟩ := h.row
  exact (own_cap h1).2
theorem AccE.new {w : World} {B n c : Nat} {a : Option Addr} {l : List Ent} (h : AccE w B a n c l) : ∀ z, a = some z → B ≤ z.block ∧ z.block < w.heap.size := by
  obtain ⟨cs, h1, _⟩ := h.row
  intro z hz
  subst hz
  exact World.ownsRow.lt h1 z.block rfl
theorem AccE.es {w : World} {B n c : Nat} {a : Option Addr} {l : List Ent} (h : AccE w B a n c l) : Es w a n c l := by
  obtain ⟨cs, h1, h2⟩ := h.row
  refine ⟨h.len, h.cap.1, h.cap.2, fun i hi => ?_⟩
  obtain ⟨ai, ci, g1, g2, _⟩ := h2 i hi
  have hr := Row.of_own h1
  obtain ⟨b, off, rfl, k0⟩ := hr (i * 4 + 0) _ (g1 0 _ rfl)
  refine ⟨b, off, ai, ci, rfl, EntAt.of_cells fun j v hj => ?_, g2⟩
  obtain ⟨b', off', e, k⟩ := hr (i * 4 + j) v (g1 j v hj)
  cases e
  rw [Nat.add_assoc]
  exact k
theorem EntIn.step {w w' : World} {a a' : Option Addr} {cs cs2 : List Value} {i : Nat} {e : Ent} (h : EntIn w a cs i e) (hev : Evol w a w' a') : EntIn w' a' (cs ++ cs2) i e := by
  obtain ⟨ai, ci, g1, g2, g3⟩ := h
  refine ⟨ai, ci, fun j v hj => ?_, g2.evol hev g3, fun h0 x y hx hy e => ?_⟩
  · have := g1 j v hj
    rw [List.getElem?_append_left (List.getElem?_eq_some_iff.1 this).1]
    exact this
  · have hold := g2.old h0 x hx
    rcases hev.2 y hy with k1 | k1
    · cases a with
      | none => cases k1
      | some z =>
        have k2 : z.block = y.block := by simpa using k1
        exact g3 h0 x z hx rfl (by rw [e, k2])
    · omega
/-- Behind the append. -/
theorem AccE.snoc {w w' : World} {B n c c' : Nat} {a a' : Option Addr} {l : List Ent} {cs : List Value} {e : Ent} {ae : Option Addr} {ce : Nat}
    (hl : l.length = n) (h1 : w.ownsRow B 37 4 (.slice a n c) n cs) (h2 : ∀ i, i < n → EntIn w a cs i (nth l i))
    (he : Bs w ae e.val.length ce e.val) (hne : 0 < e.val.length → ∀ x y, ae = some x → a = some y → x.block ≠ y.block)
    (h : w'.ownsRow B 37 4 (.slice a' (n + 1) c') (n + 1) (cs ++ entCells e ae ce)) (hev : Evol w a w' a') : AccE w' B a' (n + 1) c' (l ++ [e]) := by
  have hcl : cs.length = n * 4 := h1.1
  refine ⟨by simp [hl], cs ++ entCells e ae ce, h, fun i hi => ?_⟩
  by_cases ei : i = n
  · subst ei
    have h3 : EntIn w a (cs ++ entCells e ae ce) i e := ⟨ae, ce, fun j v hj => by rw [List.getElem?_append_right (by omega), hcl, Nat.add_sub_cancel_left]; exact hj, he, hne⟩
    have := h3.step (cs2 := []) hev
    rw [List.append_nil] at this
    rw [nth_eq _ (by simp; omega)]
    simpa [hl] using this
  · rw [nth_append_left _ _ (by omega)]
    exact (h2 i (by omega)).step hev
section
variable {w : World} {ops : Array Oper} {rest : List Oper} {o : Oper} {a : Act} {Q : Exit → Act → World → Prop}
/-- append of one entry. -/
theorem app_ent (hgd : Region.wanted o (yielded ops a.tmps) = true) (s x : Operand) (ho : o.op = .call { callee := .builtin .append, args := #[s, x], argTypes := #[30, 30] })
    (B : Nat) {aq : Option Addr} {n c : Nat} {l : List Ent} (hs : a.eval s = .slice aq n c) (hacc : AccE w B aq n c l)
    {k : Nat} {e : Ent} {ae : Option Addr} {ce : Nat} (hx : a.eval x = .slice (some ⟨k, 0, none⟩) 1 1) (hcell : EntAt w k 0 e ae ce) (he : Bs w ae e.val.length ce e.val)
    (hne : 0 < e.val.length → ∀ x y, ae = some x → aq = some y → x.block ≠ y.block) (hb : n ≤ 1000000000) (hB : B ≤ w.heap.size)
    (h : ∀ a' c' w', AccE w' B a' (n + 1) c' (l ++ [e]) → Below B w w' → Evol w aq w' a' → wpList Tryz.prog ops Q rest (a.put o.dst (.slice a' (n + 1) c')) w') : wpList Tryz.prog ops Q (o :: rest) a w := by
  obtain ⟨i, hi, h0, h1, h2⟩ := info_parts infoE
  obtain ⟨cs, hown, hin⟩ := hacc.row
  have hr : Row w (some ⟨k, 0, none⟩) (entCells e ae ce) := fun j v hj => ⟨k, 0, rfl, hcell.cells j v hj⟩
  refine wpList_app_own hgd s x 30 ho B 37 i (.agg #[.string ByteArray.empty, .int .u64 0, .bool false, .slice none 0 0]) 4 56 Tryz.underlying30 hi h0 h1 h2 rfl (by decide) aq n c cs hs hown (some ⟨k, 0, none⟩) 1 1 (entCells e ae ce) hx hr rfl (entCells_one e ae ce) (by omega) (by simp only [maxLen]; omega) hB ?_
  intro a' c' w' g1 g2
  exact h a' c' w' (AccE.snoc hacc.len hown hin he hne g1 g2) (g2.below hB (fun x hx => by subst hx; exact (World.ownsRow.lt hown x.block rfl).1)) g2
end

/-! Boxes, and rows of entries beside them. -/
theorem keeps_below {W W' : World} (h : Below W.heap.size W W') : KeepsOthers W W' :=
  ⟨h.size, fun k o hk _ => (h.block k (Array.getElem?_eq_some_iff.1 hk).1).trans hk⟩
theorem Boxed.below {W W' : World} {B : Nat} {t : TypeId} {v : Value} (h : Boxed W B t v) (hb : Below W.heap.size W W') : Boxed W' B t v := (hb.block B h.lt).trans h
theorem own_block {B e s n : Nat} {a : Option Addr} {k c : Nat} {cs : List Value} {w : World} (h : w.ownsRow B e s (.slice a k c) n cs) : (Value.slice a k c).ownBlock = a.map (·.block) := by
  rcases h.2 with ⟨h1, _⟩ | ⟨g, cap, cur, h1, _⟩
  · cases h1; rfl
  · cases h1; rfl
theorem AccE.not_box {w : World} {B n c Bx : Nat} {a : Option Addr} {l : List Ent} {t : TypeId} {v : Value} (h : AccE w B a n c l) (hb : Boxed w Bx t v) (ht : t ≠ 37) : some Bx ≠ a.map (·.block) := by
  obtain ⟨cs, h1, _⟩ := h.row
  have := hb.not_row ht h1
  rwa [own_block h1] at this
theorem Boxed.evol {w w' : World} {B n c Bx : Nat} {a a' : Option Addr} {l : List Ent} {t : TypeId} {v : Value} (hb : Boxed w Bx t v) (h : AccE w B a n c l) (ht : t ≠ 37) (k : Evol w a w' a') : Boxed w' Bx t v :=
  hb.kept k.1 (h.not_box hb ht)
/-- What is no cells stays beside an append. -/
theorem AccE.keeps {w w' : World} {B n c : Nat} {a a' : Option Addr} {l : List Ent} (h : AccE w B a n c l) (k : Evol w a w' a') : KeepsOthers w w' := by
  refine KeepsOthers.of_grownBy k.1 fun j o ej hj => ?_
  obtain ⟨cs, h1, _⟩ := h.row
  rcases h1.2 with ⟨h2, _⟩ | ⟨g, cap, cur, h2, _, hgb, _⟩
  · cases h2; cases ej
  · cases h2
    obtain rfl : g = j := by simpa using ej
    rw [hgb] at hj; cases hj; rfl
theorem Row.setBox {w : World} {a : Option Addr} {cs : List Value} {Bx : Nat} {t : TypeId} {u v : Value} (h : Row w a cs) (hb : Boxed w Bx t u) (hu : ∀ x ∈ cs, x ≠ u) : Row (w.setCell ⟨Bx, 0, none⟩ v) a cs := by
  intro j x hx
  obtain ⟨b, off, rfl, hc⟩ := h j x hx
  refine ⟨b, off, rfl, ?_⟩
  by_cases e : b = Bx
  · subst e
    exfalso
    have h1 : w.heap[b]? = some (.cells #[u] t (0, 0)) := hb
    simp only [World.cell?, h1] at hc
    have : off + j = 0 := by
      rcases Nat.eq_zero_or_pos (off + j) with h | h
      · exact h
      · simp [Array.getElem?_eq_none (show (#[u] : Array Value).size ≤ off + j by simp; omega)] at hc
    rw [this] at hc
    simp at hc
    exact hu x (List.mem_of_getElem? hx) hc.symm
  · rw [← hc]
    exact World.cell?_of_block (Below.heap_setCell _ _ _ _ e)
theorem Bs.setBox {w : World} {a : Option Addr} {n c : Nat} {l : List UInt8} {Bx : Nat} {t : TypeId} {p : Option Addr} {m k : Nat} {v : Value} (h : Bs w a n c l) (hb : Boxed w Bx t (.slice p m k)) : Bs (w.setCell ⟨Bx, 0, none⟩ v) a n c l :=
  ⟨h.1, h.2.1, h.2.2.1, h.2.2.2.setBox hb (fun x hx e => by
    unfold vs at hx
    obtain ⟨b, _, rfl⟩ := List.mem_map.1 hx
    cases e)⟩
theorem AccE.setBox {w : World} {B n c Bx : Nat} {a : Option Addr} {l : List Ent} {t : TypeId} {p : Option Addr} {m k : Nat} {v : Value} (h : AccE w B a n c l) (hb : Boxed w Bx t (.slice p m k)) (ht : t ≠ 37) : AccE (w.setCell ⟨Bx, 0, none⟩ v) B a n c l := by
  obtain ⟨cs, h1, h2⟩ := h.row
  refine ⟨h.len, cs, h1.kept (grownBy_setCell' w Bx v) (.inr (hb.not_row ht h1).symm), fun i hi => ?_⟩
  obtain ⟨ai, ci, g1, g2, g3⟩ := h2 i hi
  exact ⟨ai, ci, g1, g2.setBox hb, g3⟩
theorem Boxed.other {w : World} {B B2 : Nat} {t : TypeId} {u v : Value} (h : Boxed w B t u) (hne : B2 ≠ B) : Boxed (w.setCell ⟨B2, 0, none⟩ v) B t u :=
  h.kept (grownBy_setCell' w B2 v) (by simp; omega)
/-- Behind the turn of a block that is no cells. -/
theorem Row.turned {W W' : World} {a : Option Addr} {cs : List Value} {row : Option Nat} (h : Row W a cs) (hg : W.grownBy W' row) (hr : ∀ r, row = some r → ∃ o : Obj, W.heap[r]? = some o ∧ o.isCells = false) : Row W' a cs := by
  intro j v hj
  obtain ⟨b, off, rfl, hc⟩ := h j v hj
  exact ⟨b, off, rfl, cell_kept hc hg hr⟩
theorem Bs.turned {W W' : World} {a : Option Addr} {n c : Nat} {l : List UInt8} {row : Option Nat} (h : Bs W a n c l) (hg : W.grownBy W' row) (hr : ∀ r, row = some r → ∃ o : Obj, W.heap[r]? = some o ∧ o.isCells = false) : Bs W' a n c l :=
  ⟨h.1, h.2.1, h.2.2.1, h.2.2.2.turned hg hr⟩
theorem own_turned {W W' : World} {B e s n : Nat} {v : Value} {cs : List Value} {row : Option Nat} (h : W.ownsRow B e s v n cs) (hg : W.grownBy W' row) (hr : ∀ r, row = some r → ∃ o : Obj, W.heap[r]? = some o ∧ o.isCells = false) : W'.ownsRow B e s v n cs := by
  refine h.kept hg ?_
  rcases h.2 with ⟨rfl, _⟩ | ⟨g, cap, cur, rfl, _, hgb, _⟩
  · exact .inl rfl
  · refine .inr fun e' => ?_
    obtain ⟨o, ho, hc⟩ := hr g (by simpa [Value.ownBlock] using e'.symm)
    rw [hgb] at ho; cases ho; cases hc
theorem AccE.turned {W W' : World} {B n c : Nat} {a : Option Addr} {l : List Ent} {row : Option Nat} (h : AccE W B a n c l) (hg : W.grownBy W' row) (hr : ∀ r, row = some r → ∃ o : Obj, W.heap[r]? = some o ∧ o.isCells = false) : AccE W' B a n c l := by
  obtain ⟨cs, h1, h2⟩ := h.row
  exact ⟨h.len, cs, own_turned h1 hg hr, fun i hi => by obtain ⟨ai, ci, g1, g2, g3⟩ := h2 i hi; exact ⟨ai, ci, g1, g2.turned hg hr, g3⟩⟩
theorem Boxed.turned {W W' : World} {B : Nat} {t : TypeId} {v : Value} {row : Option Nat} (h : Boxed W B t v) (hg : W.grownBy W' row) (hr : ∀ r, row = some r → ∃ o : Obj, W.heap[r]? = some o ∧ o.isCells = false) : Boxed W' B t v := by
  refine h.kept hg fun e' => ?_
  obtain ⟨o, ho, hc⟩ := hr B e'.symm
  rw [show W.heap[B]? = _ from h] at ho; cases ho; cases hc
theorem Es.turned {W W' : World} {n c : Nat} {a : Option Addr} {l : List Ent} {row : Option Nat} (h : Es W a n c l) (hg : W.grownBy W' row) (hr : ∀ r, row = some r → ∃ o : Obj, W.heap[r]? = some o ∧ o.isCells = false) : Es W' a n c l :=
  ⟨h.1, h.2.1, h.2.2.1, fun i hi => by
    obtain ⟨b, off, ai, ci, rfl, h2, h3⟩ := h.2.2.2 i hi
    exact ⟨b, off, ai, ci, rfl, ⟨cell_kept h2.key hg hr, cell_kept h2.seq hg hr, cell_kept h2.gone hg hr, cell_kept h2.val hg hr⟩, h3.turned hg hr⟩⟩
/-- A part of a slice of entries. -/
theorem Es.part {w : World} {a : Option Addr} {n c : Nat} {l : List Ent} (h : Es w a n c l) {lo hi mx : Nat} (h1 : lo ≤ hi) (h2 : hi ≤ n) (h3 : hi ≤ mx) (h4 : mx ≤ c) : Es w (subAn a mx lo 4) (hi - lo) (mx - lo) ((l.take hi).drop lo) := by
  have hl := h.1
  refine ⟨by simp; omega, by omega, by have := h.2.2.1; omega, fun i hi' => ?_⟩
  obtain ⟨b, off, ai, ci, rfl, g2, g3⟩ := h.2.2.2 (lo + i) (by omega)
  have e1 : nth ((l.take hi).drop lo) i = nth l (lo + i) := by
    rw [nth_eq _ (by simp; omega), nth_eq _ (by omega)]
    simp
  have e2 : subAn (some ⟨b, off, none⟩) mx lo 4 = some ⟨b, off + lo * 4, none⟩ := by
    unfold subAn
    rw [if_neg (by omega)]
    simp [Addr.add_lit]
  refine ⟨b, off + lo * 4, ai, ci, e2, ?_, ?_⟩
  · rw [e1, show off + lo * 4 + i * 4 = off + (lo + i) * 4 by omega]; exact g2
  · rw [e1]; exact g3
end Go.Proofs.YtjigfinpbdglnaaGreatDoor
end
