/- Entries in order, as plain lists. No program in sight. -/
import Derived.Test.YtchdmjnhjonddaaNum
namespace Go.Proofs.Ytchdmjnhjonddaa
open Go.RowKit

/-- An entry: the key's bytes, the number, whether it is gone, the value's bytes. -/
structure Ent where
  key : List UInt8
  seq : Nat
  gone : Bool
  val : List UInt8
instance : Inhabited Ent := ⟨⟨[], 0, false, []⟩⟩
theorem Ent.ext' {a b : Ent} (h1 : a.key = b.key) (h2 : a.seq = b.seq) (h3 : a.gone = b.gone) (h4 : a.val = b.val) : a = b := by cases a; cases b; simp_all
instance : DecidableEq Ent := fun a b => decidable_of_iff (a.key = b.key ∧ a.seq = b.seq ∧ a.gone = b.gone ∧ a.val = b.val) ⟨fun h => Ent.ext' h.1 h.2.1 h.2.2.1 h.2.2.2, fun h => by subst h; exact ⟨rfl, rfl, rfl, rfl⟩⟩
namespace Ent
/-- Keys in order. -/
abbrev klt (a b : List UInt8) : Bool := Op.bytesLess a b
theorem klt_irrefl : ∀ a : List UInt8, klt a a = false
  | [] => rfl
  | a :: l => by simp [Op.bytesLess, klt_irrefl l]
theorem klt_cons (a b : UInt8) (x y : List UInt8) : klt (a :: x) (b :: y) = (decide (a < b) || (a == b && klt x y)) := rfl
theorem klt_trans : ∀ {a b c : List UInt8}, klt a b = true → klt b c = true → klt a c = true
  | [], b, [], _, h2 => by cases b <;> cases h2
  | [], _, _ :: _, _, _ => rfl
  | _ :: _, [], _, h1, _ => by cases h1
  | _ :: _, _ :: _, [], _, h2 => by cases h2
  | a :: x, b :: y, c :: z, h1, h2 => by
    rw [klt_cons] at h1 h2 ⊢
    simp only [Bool.or_eq_true, Bool.and_eq_true, decide_eq_true_eq, beq_iff_eq] at h1 h2 ⊢
    rcases h1 with h1 | ⟨e1, h1⟩ <;> rcases h2 with h2 | ⟨e2, h2⟩
    · exact .inl (UInt8.lt_trans h1 h2)
    · exact .inl (e2 ▸ h1)
    · exact .inl (e1 ▸ h2)
    · exact .inr ⟨e1.trans e2, klt_trans h1 h2⟩
theorem klt_total : ∀ (a b : List UInt8), klt a b = true ∨ a = b ∨ klt b a = true
  | [], [] => .inr (.inl rfl)
  | [], _ :: _ => .inl rfl
  | _ :: _, [] => .inr (.inr rfl)
  | a :: x, b :: y => by
    rw [klt_cons, klt_cons]
    simp only [Bool.or_eq_true, Bool.and_eq_true, decide_eq_true_eq, beq_iff_eq]
    by_cases h : a = b
    · subst h
      rcases klt_total x y with h | h | h
      · exact .inl (.inr ⟨rfl, h⟩)
      · exact .inr (.inl (by rw [h]))
      · exact .inr (.inr (.inr ⟨rfl, h⟩))
    · rcases UInt8.lt_or_lt_of_ne h with h | h
      · exact .inl (.inl h)
      · exact .inr (.inr (.inl h))
theorem klt_asymm {a b : List UInt8} (h : klt a b = true) : klt b a = false := by
  cases e : klt b a with
  | false => rfl
  | true => have := klt_trans h e; rw [klt_irrefl] at this; cases this
theorem klt_ne {a b : List UInt8} (h : klt a b = true) : a ≠ b := fun e => by rw [e, klt_irrefl] at h; cases h

/-- The order: by key, then the newest first. -/
def cmp (a b : Ent) : Int := if klt a.key b.key = true then -1 else if klt b.key a.key = true then 1 else if b.seq < a.seq then -1 else if a.seq < b.seq then 1 else 0
def lt (a b : Ent) : Prop := klt a.key b.key = true ∨ a.key = b.key ∧ b.seq < a.seq
def eqv (a b : Ent) : Prop := a.key = b.key ∧ a.seq = b.seq
theorem cmp_lt {a b : Ent} : cmp a b = -1 ↔ lt a b := by
  unfold cmp lt
  rcases klt_total a.key b.key with h | h | h
  · simp [h]
  · rw [h, klt_irrefl]
    simp only [Bool.false_eq_true, if_false, true_and, false_or]
    by_cases h1 : b.seq < a.seq
    · simp [h1]
    · by_cases h2 : a.seq < b.seq <;> simp [h1, h2]
  · have h1 := klt_asymm h
    have h2 := klt_ne h
    rw [h1, h]
    simp [Ne.symm h2]
theorem cmp_gt {a b : Ent} : cmp a b = 1 ↔ lt b a := by
  unfold cmp lt
  rcases klt_total a.key b.key with h | h | h
  · have h1 := klt_asymm h
    have h2 := klt_ne h
    rw [h, h1]
    simp [Ne.symm h2]
  · rw [h, klt_irrefl]
    simp only [Bool.false_eq_true, if_false, true_and, false_or]
    by_cases h1 : b.seq < a.seq
    · simp [h1]; omega
    · by_cases h2 : a.seq < b.seq <;> simp [h1, h2]
  · have h1 := klt_asymm h
    rw [h1, h]
    simp
theorem cmp_cases (a b : Ent) : cmp a b = -1 ∨ cmp a b = 0 ∨ cmp a b = 1 := by
  unfold cmp
  split
  · exact .inl rfl
  · split
    · exact .inr (.inr rfl)
    · split
      · exact .inl rfl
      · split
        · exact .inr (.inr rfl)
        · exact .inr (.inl rfl)
theorem cmp_eq {a b : Ent} : cmp a b = 0 ↔ eqv a b := by
  unfold cmp eqv
  rcases klt_total a.key b.key with h | h | h
  · simp [h, klt_ne h]
  · rw [h, klt_irrefl]
    simp only [Bool.false_eq_true, if_false, true_and]
    by_cases h1 : b.seq < a.seq
    · simp [h1]; omega
    · by_cases h2 : a.seq < b.seq
      · simp [h1, h2]; omega
      · simp [h1, h2]; omega
  · have h1 := klt_asymm h
    rw [h1, h]
    simp [Ne.symm (klt_ne h)]
theorem lt_trans {a b c : Ent} (h : lt a b) (k : lt b c) : lt a c := by
  rcases h with h | ⟨h1, h2⟩ <;> rcases k with k | ⟨k1, k2⟩
  · exact .inl (klt_trans h k)
  · exact .inl (k1 ▸ h)
  · exact .inl (h1 ▸ k)
  · exact .inr ⟨h1.trans k1, by omega⟩
theorem lt_irrefl (a : Ent) : ¬ lt a a := by
  rintro (h | ⟨_, h⟩)
  · rw [klt_irrefl] at h; cases h
  · omega
theorem eqv_lt {a b c : Ent} (h : eqv a b) (k : lt b c) : lt a c := by
  unfold lt eqv at *
  rw [h.1, h.2]; exact k
theorem lt_eqv {a b c : Ent} (h : lt a b) (k : eqv b c) : lt a c := by
  unfold lt eqv at *
  rw [← k.1, ← k.2]; exact h
theorem tri (a b : Ent) : lt a b ∨ eqv a b ∨ lt b a := by
  rcases cmp_cases a b with h | h | h
  · exact .inl (cmp_lt.1 h)
  · exact .inr (.inl (cmp_eq.1 h))
  · exact .inr (.inr (cmp_gt.1 h))
/-- An entry may be. -/
def fine (e : Ent) : Prop := ¬ (e.gone = true ∧ 0 < e.val.length)
/-- Lists that are right. -/
def Right (l : List Ent) : Prop := (∀ e ∈ l, fine e) ∧ l.Pairwise lt
end Ent
end Go.Proofs.Ytchdmjnhjonddaa
