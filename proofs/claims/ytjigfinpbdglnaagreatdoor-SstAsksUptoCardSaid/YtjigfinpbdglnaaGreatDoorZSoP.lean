/- Sorted tables: what any bytes tell, plain. -/
import Derived.Test.YtjigfinpbdglnaaGreatDoorZSoB
set_option linter.unusedVariables false
set_option linter.unusedSimpArgs false
section
set_option maxRecDepth 100000
set_option linter.unusedVariables false
set_option linter.unusedSimpArgs false
namespace Go.Proofs.YtjigfinpbdglnaaGreatDoor
open Go.RowKit
namespace Ent
theorem lt_of_adj {l : List Ent} (h : rightB l = true) : ∀ d i, i + d + 1 < l.length → lt (nth l i) (nth l (i + d + 1))
  | 0, i, hi => cmp_lt.1 ((rightB_spec.1 h).2 (i + 1) (by omega) hi)
  | d + 1, i, hi => lt_trans (lt_of_adj h d i (by omega)) (cmp_lt.1 ((rightB_spec.1 h).2 (i + (d + 1) + 1) (by omega) hi))
theorem rightB_iff' {l : List Ent} : rightB l = true ↔ Right l := by
  constructor
  · intro h
    refine ⟨fun e he => ?_, List.pairwise_iff_getElem.2 fun i j hi hj hij => ?_⟩
    · obtain ⟨i, hi, rfl⟩ := List.getElem_of_mem he
      have := (rightB_spec.1 h).1 i hi
      rw [nth_eq _ hi] at this
      exact this
    · have := lt_of_adj h (j - i - 1) i (by omega)
      rw [show i + (j - i - 1) + 1 = j by omega, nth_eq _ hi, nth_eq _ hj] at this
      exact this
  · intro h
    refine rightB_spec.2 ⟨fun i hi => ?_, fun i h1 hi => ?_⟩
    · rw [nth_eq _ hi]; exact h.1 _ (List.getElem_mem _)
    · rw [cmp_lt, nth_eq _ (by omega), nth_eq _ hi]
      exact List.pairwise_iff_getElem.1 h.2 (i - 1) i (by omega) hi (by omega)
theorem right_app {A B : List Ent} : Right (A ++ B) ↔ Right A ∧ Right B ∧ ∀ a ∈ A, ∀ b ∈ B, lt a b := by
  unfold Right
  rw [List.pairwise_append]
  constructor
  · rintro ⟨h1, h2, h3, h4⟩
    exact ⟨⟨fun e he => h1 e (List.mem_append_left _ he), h2⟩, ⟨fun e he => h1 e (List.mem_append_right _ he), h3⟩, h4⟩
  · rintro ⟨⟨h1, h2⟩, ⟨h3, h4⟩, h5⟩
    refine ⟨fun e he => ?_, h2, h4, h5⟩
    rcases List.mem_append.1 he with h | h
    · exact h1 e h
    · exact h3 e h
/-- The last one, if there is one. -/
def tl (L : List Ent) : List Ent := L.drop (L.length - 1)
theorem right_tl {L l : List Ent} (h : rightB L = true) : rightB (tl L ++ l) = rightB (L ++ l) := by
  rw [Bool.eq_iff_iff, rightB_iff', rightB_iff']
  have hr := rightB_iff'.1 h
  have e : L = L.take (L.length - 1) ++ tl L := (List.take_append_drop _ _).symm
  rw [e] at hr
  obtain ⟨h1, h2, h3⟩ := right_app.1 hr
  constructor
  · intro k
    obtain ⟨k1, k2, k3⟩ := right_app.1 k
    refine right_app.2 ⟨by rw [e]; exact hr, k2, fun a ha b hb => ?_⟩
    rw [e] at ha
    rcases List.mem_append.1 ha with ha | ha
    · cases ht : tl L with
      | nil =>
        exfalso
        have : L.length ≤ L.length - 1 := by
          have h9 := congrArg List.length ht
          unfold tl at h9
          rw [List.length_drop] at h9
          simp only [List.length_nil] at h9
          omega
        have hL : L = [] := List.eq_nil_of_length_eq_zero (by omega)
        rw [hL] at ha
        simp at ha
      | cons x r => exact lt_trans (h3 a ha x (by rw [ht]; simp)) (k3 x (by rw [ht]; simp) b hb)
    · exact k3 a ha b hb
  · intro k
    rw [e, List.append_assoc] at k
    exact (right_app.1 k).2.1
theorem right_snoc {L : List Ent} {e : Ent} (h : rightB L = true) : rightB (L ++ [e]) = true ↔ fine e ∧ (L = [] ∨ cmp (nth L (L.length - 1)) e = -1) := by
  rw [← right_tl h, rightB_iff', right_app]
  have ht : L ≠ [] → tl L = [nth L (L.length - 1)] := fun hn => by
    have hp := List.length_pos_iff.2 hn
    unfold tl
    rw [List.drop_eq_getElem_cons (by omega), nth_eq _ (by omega), List.drop_of_length_le (by omega)]
  constructor
  · rintro ⟨_, h2, h3⟩
    refine ⟨h2.1 e (by simp), ?_⟩
    by_cases hn : L = []
    · exact .inl hn
    · exact .inr (cmp_lt.2 (h3 _ (by rw [ht hn]; simp) e (by simp)))
  · rintro ⟨h1, h2⟩
    refine ⟨?_, ⟨fun x hx => by simp only [List.mem_singleton] at hx; rw [hx]; exact h1, List.pairwise_singleton _ _⟩, fun a ha b hb => ?_⟩
    · have hr := rightB_iff'.1 h
      rw [show L = L.take (L.length - 1) ++ tl L from (List.take_append_drop _ _).symm] at hr
      exact (right_app.1 hr).2.1
    · simp only [List.mem_singleton] at hb
      rw [hb]
      rcases h2 with h2 | h2
      · rw [h2] at ha; simp [tl] at ha
      · by_cases hn : L = []
        · rw [hn] at ha; simp [tl] at ha
        · rw [ht hn] at ha
          simp only [List.mem_singleton] at ha
          rw [ha]
          exact cmp_lt.1 h2
theorem right_front {A B : List Ent} (h : rightB A = false) : rightB (A ++ B) = false := by
  cases hb : rightB (A ++ B) with
  | false => rfl
  | true => rw [rightB_iff'.2 (right_app.1 (rightB_iff'.1 hb)).1] at h; cases h
end Ent

/-! One entry. -/
theorem tk_ok (l : List UInt8) (k : Nat) : Sst.tk (l, false) k 0 = (l.drop k, false) := by unfold Sst.tk; rw [if_neg (by simp)]
theorem tk_bad {s : List UInt8 × Bool} {k er : Nat} (h : s.2 = true ∨ er ≠ 0) : Sst.tk s k er = (s.1, true) := by unfold Sst.tk; rw [if_pos h]
theorem dent_e1 {l : List UInt8} (h : (Codec.rdBytes l (65535 : Nat)).2.2 ≠ 0) : Sst.dent l = none := by
  unfold Sst.dent
  dsimp only
  rw [tk_bad (.inr h), tk_bad (.inl rfl), if_pos (.inl rfl)]
theorem dent_e2 {l x : List UInt8} {m : Nat} (h1 : Codec.rdBytes l (65535 : Nat) = (x, m, 0)) (h2 : (Codec.dec (l.drop m)).2.2 ≠ 0) : Sst.dent l = none := by
  unfold Sst.dent
  dsimp only
  rw [h1]
  dsimp only
  rw [tk_ok]
  dsimp only
  rw [tk_bad (.inr h2), if_pos (.inl rfl)]
theorem dent_eq {l x : List UInt8} {m v k : Nat} (h1 : Codec.rdBytes l (65535 : Nat) = (x, m, 0)) (h2 : Codec.dec (l.drop m) = (v, k, 0)) :
    Sst.dent l = if ((l.drop m).drop k) = [] ∨ 1 < (nth ((l.drop m).drop k) 0).toNat then none
      else if (Codec.rdBytes (((l.drop m).drop k).drop 1) (33554432 : Nat)).2.2 ≠ 0 then none
      else some (⟨x, v, nth ((l.drop m).drop k) 0 == 1, (Codec.rdBytes (((l.drop m).drop k).drop 1) (33554432 : Nat)).1⟩, (((l.drop m).drop k).drop 1).drop (Codec.rdBytes (((l.drop m).drop k).drop 1) (33554432 : Nat)).2.1) := by
  unfold Sst.dent
  dsimp only
  rw [h1]
  dsimp only
  rw [tk_ok]
  dsimp only
  rw [h2]
  dsimp only
  rw [tk_ok]
  simp
structure Sst.EOk (e : Ent) : Prop where
  s : U64 e.seq
  k : e.key.length ≤ 65535
  v : e.val.length ≤ 33554432
theorem rdBytes_back {b x : List UInt8} {most m : Nat} (h : Codec.rdBytes b (most : Nat) = (x, m, 0)) : b = Sst.lp x ++ b.drop m ∧ x.length ≤ most ∧ m ≤ b.length := by
  have hle := rdBytes_le (b := b) (most := (most : Nat)) (by rw [h])
  rw [h] at hle
  dsimp only at hle
  unfold Codec.rdBytes at h
  by_cases h1 : (Codec.dec b).2.2 ≠ 0
  · rw [if_pos h1] at h; exact absurd (congrArg (fun q => q.2.2) h) h1
  · have hd : Codec.dec b = ((Codec.dec b).1, (Codec.dec b).2.1, 0) := by rw [← show (Codec.dec b).2.2 = 0 by omega]
    have hb := Codec.dec_back hd
    rw [if_neg h1] at h
    split at h
    · cases h
    · rename_i h2
      split at h
      · cases h
      · rename_i h3
        generalize (Codec.dec b).1 = v at *
        generalize (Codec.dec b).2.1 = k at *
        cases h
        have hxl : ((b.drop k).take v).length = v := by rw [List.length_take, List.length_drop]; omega
        refine ⟨?_, by rw [hxl]; simp at h2; omega, hle⟩
        unfold Sst.lp
        rw [hxl, hb.1, ← List.take_add, List.take_append_drop]
theorem dent_back {l r : List UInt8} {e : Ent} (h : Sst.dent l = some (e, r)) : l = Sst.ent e ++ r ∧ Sst.EOk e := by
  obtain ⟨x, m, er, h1⟩ : ∃ x m er, Codec.rdBytes l (65535 : Nat) = (x, m, er) := ⟨_, _, _, rfl⟩
  by_cases he : er = 0
  case neg => rw [dent_e1 (by rw [h1]; exact he)] at h; cases h
  subst he
  obtain ⟨v, k, er, h2⟩ : ∃ v k er, Codec.dec (l.drop m) = (v, k, er) := ⟨_, _, _, rfl⟩
  by_cases he : er = 0
  case neg => rw [dent_e2 h1 (by rw [h2]; exact he)] at h; cases h
  subst he
  rw [dent_eq h1 h2] at h
  obtain ⟨q1, q2, _⟩ := rdBytes_back h1
  obtain ⟨d1, d2, d3, _, d5⟩ := Codec.dec_back h2
  have e1 : l = Sst.lp x ++ (Codec.enc v ++ (l.drop m).drop k) := by
    rw [d1, List.take_append_drop]; exact q1
  generalize (l.drop m).drop k = l2 at *
  by_cases hc : l2 = [] ∨ 1 < (nth l2 0).toNat
  · rw [if_pos hc] at h; cases h
  rw [if_neg hc] at h
  obtain ⟨y, m3, er, h3⟩ : ∃ x m er, Codec.rdBytes (l2.drop 1) (33554432 : Nat) = (x, m, er) := ⟨_, _, _, rfl⟩
  rw [h3] at h
  dsimp only at h
  by_cases he : er = 0
  case neg => rw [if_pos he] at h; cases h
  subst he
  rw [if_neg (by simp)] at h
  obtain ⟨p1, p2, _⟩ := rdBytes_back h3
  simp only [Option.some.injEq, Prod.mk.injEq] at h
  obtain ⟨rfl, rfl⟩ := h
  refine ⟨?_, ⟨⟨d5⟩, q2, p2⟩⟩
  have hne : l2 ≠ [] := fun e => hc (.inl e)
  have hlp := List.length_pos_iff.2 hne
  have hn1 : ¬ 1 < (nth l2 0).toNat := fun e => hc (.inr e)
  have e2 : l2 = Sst.gone (nth l2 0 == 1) ++ l2.drop 1 := by
    rw [nth_eq _ hlp] at hn1 ⊢
    conv => lhs; rw [← List.drop_zero (l := l2), List.drop_eq_getElem_cons hlp]
    have hz : l2[0] = 0 ∨ l2[0] = 1 := by
      rcases (show l2[0].toNat = 0 ∨ l2[0].toNat = 1 by omega) with z | z
      · exact .inl (UInt8.toNat_inj.1 z)
      · exact .inr (UInt8.toNat_inj.1 z)
    rcases hz with z | z <;> rw [z] <;> rfl
  rw [e1]
  conv => lhs; rw [e2, p1]
  unfold Sst.ent
  simp only [List.append_assoc]
theorem dent_ent {e : Ent} {r : List UInt8} (h : Sst.EOk e) : Sst.dent (Sst.ent e ++ r) = some (e, r) := by
  have e1 : Sst.ent e ++ r = Sst.lp e.key ++ (Codec.enc e.seq ++ (Sst.gone e.gone ++ (Sst.lp e.val ++ r))) := by unfold Sst.ent; simp only [List.append_assoc]
  rw [e1]
  have h1 := rdBytes_lp (x := e.key) (r := Codec.enc e.seq ++ (Sst.gone e.gone ++ (Sst.lp e.val ++ r))) (most := 65535) h.k (by omega)
  have h2 : Codec.dec ((Sst.lp e.key ++ (Codec.enc e.seq ++ (Sst.gone e.gone ++ (Sst.lp e.val ++ r)))).drop (Sst.lp e.key).length) = (e.seq, (Codec.enc e.seq).length, 0) := by
    rw [List.drop_left]; exact Codec.dec_enc h.s.lt _
  rw [dent_eq h1 h2, List.drop_left, List.drop_left]
  have h3 := rdBytes_lp (x := e.val) (r := r) (most := 33554432) h.v (by omega)
  have e2 : (Sst.gone e.gone ++ (Sst.lp e.val ++ r)).drop 1 = Sst.lp e.val ++ r := by unfold Sst.gone; split <;> rfl
  rw [e2, h3]
  have e3 : ¬ ((Sst.gone e.gone ++ (Sst.lp e.val ++ r)) = [] ∨ 1 < (nth (Sst.gone e.gone ++ (Sst.lp e.val ++ r)) 0).toNat) := by
    unfold Sst.gone; split <;> simp [nth]
  rw [if_neg e3, if_neg (by simp)]
  have e4 : (nth (Sst.gone e.gone ++ (Sst.lp e.val ++ r)) 0 == 1) = e.gone := by
    unfold Sst.gone; cases e.gone <;> rfl
  rw [e4, List.drop_left]

/-! A block's entries. -/
def Sst.encs (ls : List Ent) : List UInt8 := (ls.map Sst.ent).flatten
structure Sst.Part (p : List UInt8) (done : List Ent) (rest : List UInt8) : Prop where
  eq : p = Sst.encs done ++ rest
  ok : ∀ e ∈ done, Sst.EOk e
theorem ent_ne' (e : Ent) (r : List UInt8) : Sst.ent e ++ r ≠ [] := by
  intro h
  have := congrArg List.length h
  unfold Sst.ent Sst.lp at this
  have h1 := Codec.enc_pos e.key.length
  simp only [List.length_append, List.length_nil] at this
  omega
theorem ent_four (e : Ent) : 4 ≤ (Sst.ent e).length := by
  have p1 := Codec.enc_pos e.key.length
  have p2 := Codec.enc_pos e.seq
  have p3 := Codec.enc_pos e.val.length
  have h4 : (Sst.gone e.gone).length = 1 := by unfold Sst.gone; split <;> rfl
  unfold Sst.ent Sst.lp
  simp only [List.length_append]
  omega
theorem encs_four : ∀ ls : List Ent, 4 * ls.length ≤ (Sst.encs ls).length
  | [] => by simp
  | e :: ls => by
    have h1 := encs_four ls
    have h2 := ent_four e
    unfold Sst.encs at *
    simp only [List.map_cons, List.flatten_cons, List.length_append, List.length_cons]
    omega
theorem Sst.Part.nil (p : List UInt8) : Sst.Part p [] p := ⟨rfl, fun e he => by cases he⟩
theorem Sst.Part.step {p r rest : List UInt8} {done : List Ent} {e : Ent} (h : Sst.Part p done rest) (hd : Sst.dent rest = some (e, r)) : Sst.Part p (done ++ [e]) r := by
  obtain ⟨h1, h2⟩ := dent_back hd
  refine ⟨?_, fun x hx => ?_⟩
  · rw [h.eq, h1]; unfold Sst.encs; simp
  · rcases List.mem_append.1 hx with hx | hx
    · exact h.ok x hx
    · simp only [List.mem_singleton] at hx; rw [hx]; exact h2
theorem part_cancel : ∀ {done : List Ent} {rest : List UInt8} {ls : List Ent}, (∀ e ∈ done, Sst.EOk e) → (∀ e ∈ ls, Sst.EOk e) → Sst.encs done ++ rest = Sst.encs ls → ∃ ls', ls = done ++ ls' ∧ rest = Sst.encs ls'
  | [], rest, ls, _, _, h => ⟨ls, rfl, by simpa [Sst.encs] using h⟩
  | d :: ds, rest, [], _, _, h => by
    exfalso
    exact ent_ne' d (Sst.encs ds ++ rest) (by simpa [Sst.encs] using h)
  | d :: ds, rest, l :: ls, hd, hl, h => by
    have e1 : Sst.ent d ++ (Sst.encs ds ++ rest) = Sst.ent l ++ Sst.encs ls := by simpa [Sst.encs] using h
    have h1 := dent_ent (r := Sst.encs ds ++ rest) (hd d (by simp))
    rw [e1, dent_ent (hl l (by simp))] at h1
    simp only [Option.some.injEq, Prod.mk.injEq] at h1
    obtain ⟨rfl, h2⟩ := h1
    obtain ⟨ls', rfl, h3⟩ := part_cancel (fun e he => hd e (by simp [he])) (fun e he => hl e (by simp [he])) h2.symm
    exact ⟨ls', rfl, h3⟩
theorem Sst.Part.uniq {p : List UInt8} {a b : List Ent} (h : Sst.Part p a []) (k : Sst.Part p b []) : a = b := by
  have e := h.eq.symm.trans k.eq
  rw [List.append_nil, List.append_nil] at e
  obtain ⟨ls, h1, h2⟩ := part_cancel (rest := []) h.ok k.ok (by rw [List.append_nil]; exact e)
  cases ls with
  | nil => rw [h1, List.append_nil]
  | cons x xs => exact absurd h2.symm (by simpa [Sst.encs] using ent_ne' x (Sst.encs xs))
open Classical in
/-- The entries of a block's payload. -/
noncomputable def Sst.dents (p : List UInt8) : Option (List Ent) := if h : ∃ ls, Sst.Part p ls [] then some h.choose else none
theorem dents_some {p : List UInt8} {ls : List Ent} (h : Sst.Part p ls []) : Sst.dents p = some ls := by
  unfold Sst.dents
  have hx : ∃ ls, Sst.Part p ls [] := ⟨ls, h⟩
  rw [dif_pos hx, hx.choose_spec.uniq h]
theorem dents_part {p : List UInt8} {ls : List Ent} (h : Sst.dents p = some ls) : Sst.Part p ls [] := by
  unfold Sst.dents at h
  split at h
  · rename_i hx; cases h; exact hx.choose_spec
  · cases h
theorem dents_bad {p rest : List UInt8} {done : List Ent} (h : Sst.Part p done rest) (hne : rest ≠ []) (hd : Sst.dent rest = none) : Sst.dents p = none := by
  cases hp : Sst.dents p with
  | none => rfl
  | some ls =>
    have k := dents_part hp
    obtain ⟨ls', h1, h2⟩ := part_cancel (rest := rest) h.ok k.ok (by rw [← h.eq, k.eq, List.append_nil])
    cases ls' with
    | nil => exact absurd h2 hne
    | cons x xs =>
      rw [h2, show Sst.encs (x :: xs) = Sst.ent x ++ Sst.encs xs by simp [Sst.encs], dent_ent (k.ok x (by rw [h1]; simp))] at hd
      cases hd
theorem dents_pre {p rest : List UInt8} {done ls : List Ent} (h : Sst.Part p done rest) (hp : Sst.dents p = some ls) : ∃ ls', ls = done ++ ls' := by
  have k := dents_part hp
  obtain ⟨ls', h1, _⟩ := part_cancel (rest := rest) h.ok k.ok (by rw [← h.eq, k.eq, List.append_nil])
  exact ⟨ls', h1⟩

/-! The blocks. -/
def Sst.win (b : List UInt8) (k A : Nat) : List UInt8 := (b.drop k).take (A - k)
noncomputable def Sst.run (b : List UInt8) (A : Nat) : Nat → Nat → List Ent → List Bk → Except Nat (List Ent × List Bk)
  | 0, k, _, _ => .error k
  | f + 1, k, L, bl =>
    if k < A then
      if (Codec.rdFrame (Sst.win b k A)).2.2 ≠ 0 then .error k
      else match Sst.dents (Codec.rdFrame (Sst.win b k A)).1 with
        | none => .error k
        | some l => if l = [] ∨ Ent.rightB (L ++ l) = false then .error k else Sst.run b A f (k + (Codec.rdFrame (Sst.win b k A)).2.1) (L ++ l) (bl ++ [⟨(nth l 0).key, k, (Codec.rdFrame (Sst.win b k A)).2.1⟩])
    else .ok (L, bl)
def Sst.Step (b : List UInt8) (A k : Nat) (L : List Ent) (bl : List Bk) (R : Except Nat (List Ent × List Bk)) : Prop := ∃ f, A - k < f ∧ Sst.run b A f k L bl = R
section
variable {b : List UInt8} {A k : Nat} {L : List Ent} {bl : List Bk} {R : Except Nat (List Ent × List Bk)}
theorem Sst.Step.done (h : Sst.Step b A k L bl R) (hk : A ≤ k) : R = .ok (L, bl) := by
  obtain ⟨f, hf, rfl⟩ := h
  cases f with
  | zero => omega
  | succ f => rw [Sst.run, if_neg (by omega)]
theorem Sst.Step.bad1 (h : Sst.Step b A k L bl R) (hk : k < A) (he : (Codec.rdFrame (Sst.win b k A)).2.2 ≠ 0) : R = .error k := by
  obtain ⟨f, hf, rfl⟩ := h
  cases f with
  | zero => omega
  | succ f => rw [Sst.run, if_pos hk, if_pos he]
theorem Sst.Step.bad2 (h : Sst.Step b A k L bl R) (hk : k < A) (hd : Sst.dents (Codec.rdFrame (Sst.win b k A)).1 = none) : R = .error k := by
  obtain ⟨f, hf, rfl⟩ := h
  cases f with
  | zero => omega
  | succ f =>
    rw [Sst.run, if_pos hk]
    by_cases he : (Codec.rdFrame (Sst.win b k A)).2.2 ≠ 0
    · rw [if_pos he]
    · rw [if_neg he, hd]
theorem Sst.Step.bad3 {l : List Ent} (h : Sst.Step b A k L bl R) (hk : k < A) (hd : Sst.dents (Codec.rdFrame (Sst.win b k A)).1 = some l) (hr : l = [] ∨ Ent.rightB (L ++ l) = false) : R = .error k := by
  obtain ⟨f, hf, rfl⟩ := h
  cases f with
  | zero => omega
  | succ f =>
    rw [Sst.run, if_pos hk]
    by_cases he : (Codec.rdFrame (Sst.win b k A)).2.2 ≠ 0
    · rw [if_pos he]
    · rw [if_neg he, hd]
      dsimp only
      rw [if_pos hr]
theorem rdFrame_pos {p x : List UInt8} {n : Nat} (h : Codec.rdFrame p = (x, n, 0)) : x.length + 5 ≤ n ∧ n ≤ p.length := by
  have he : (Codec.decFrame p).2.2 = 0 := by
    unfold Codec.rdFrame at h
    by_cases e : (Codec.decFrame p).2.2 = 0
    · exact e
    · rw [if_neg e] at h; exact absurd (congrArg (fun q => q.2.2) h) e
  obtain ⟨m, k, hd, _, hl, _, e2, hp, hle⟩ := Codec.decFrame_ok he
  unfold Codec.rdFrame at h
  rw [if_pos he, e2] at h
  cases h
  dsimp only
  rw [List.length_take, List.length_drop]
  omega
theorem Sst.Step.next {l : List Ent} {p : List UInt8} {n : Nat} (h : Sst.Step b A k L bl R) (hk : k < A) (hf : Codec.rdFrame (Sst.win b k A) = (p, n, 0)) (hd : Sst.dents p = some l) (hl : l ≠ []) (hr : Ent.rightB (L ++ l) = true) : Sst.Step b A (k + n) (L ++ l) (bl ++ [⟨(nth l 0).key, k, n⟩]) R := by
  obtain ⟨f, hff, rfl⟩ := h
  have hp := rdFrame_pos hf
  cases f with
  | zero => omega
  | succ f =>
    refine ⟨f, by omega, ?_⟩
    rw [Sst.run, if_pos hk, hf]
    dsimp only
    rw [if_neg (by simp), hd]
    dsimp only
    rw [if_neg (by rintro (e | e); exact hl e; rw [hr] at e; cases e)]
end
/-- What holds of what was read up to a place. -/
structure Sst.Inv (A k : Nat) (L : List Ent) (bl : List Bk) : Prop where
  le : k ≤ A
  n : 4 * L.length ≤ k
  m : bl.length ≤ k
  ok : BkOk bl
  eok : ∀ e ∈ L, Sst.EOk e
  right : Ent.rightB L = true
theorem Sst.Inv.nil (A : Nat) : Sst.Inv A 0 [] [] := ⟨Nat.zero_le _, by simp, by simp, fun e he => (by cases he), fun e he => (by cases he), by decide⟩
theorem Sst.Inv.next {b : List UInt8} {A k n : Nat} {L l : List Ent} {bl : List Bk} {p : List UInt8} (h : Sst.Inv A k L bl) (hA : A ≤ 100000000) (hk : k < A) (hf : Codec.rdFrame (Sst.win b k A) = (p, n, 0)) (hd : Sst.dents p = some l) (hl : l ≠ []) (hr : Ent.rightB (L ++ l) = true) : Sst.Inv A (k + n) (L ++ l) (bl ++ [⟨(nth l 0).key, k, n⟩]) := by
  have hp := rdFrame_pos hf
  have hw : (Sst.win b k A).length ≤ A - k := by unfold Sst.win; rw [List.length_take]; omega
  have hpt := dents_part hd
  have h4 := encs_four l
  have hpl : p.length = (Sst.encs l).length := by rw [hpt.eq, List.append_nil]
  have hn := h.n
  have hm := h.m
  refine ⟨by omega, by rw [List.length_append]; omega, by rw [List.length_append, List.length_singleton]; omega, fun x hx => ?_, fun x hx => ?_, hr⟩
  · rcases List.mem_append.1 hx with hx | hx
    · exact h.ok x hx
    · simp only [List.mem_singleton] at hx
      rw [hx]
      have hlp := List.length_pos_iff.2 hl
      have := (hpt.ok (nth l 0) (by rw [nth_eq _ hlp]; exact List.getElem_mem _)).k
      exact ⟨by simp only; omega, by simp only; omega, by simp only; omega⟩
  · rcases List.mem_append.1 hx with hx | hx
    · exact h.eok x hx
    · exact hpt.ok x hx
noncomputable def Sst.blocks (b : List UInt8) (A : Nat) : Except Nat (List Ent × List Bk) := Sst.run b A (A + 1) 0 [] []
theorem blocks_start (b : List UInt8) (A : Nat) : Sst.Step b A 0 [] [] (Sst.blocks b A) := ⟨A + 1, by omega, rfl⟩
/-- A table, or what is wrong, and where. -/
noncomputable def Sst.opn (b : List UInt8) : Except (Nat × Nat) (List Ent × List Bk) :=
  if b.length < 28 then .error (0, 11)
  else if (Codec.sum ((b.drop (b.length - 28)).take 24)).toNat ≠ Sst.num (b.drop (b.length - 28 + 24)) then .error (b.length - 28, 13)
  else if ¬ (Sst.num ((b.drop (b.length - 28)).take 8) < Sst.num ((b.drop (b.length - 28 + 8)).take 8) ∧ Sst.num ((b.drop (b.length - 28 + 8)).take 8) < b.length - 28) then .error (b.length - 28, 14)
  else match Sst.blocks b (Sst.num ((b.drop (b.length - 28)).take 8)) with
    | .error k => .error (k, 14)
    | .ok (L, bl) =>
      if Sst.win b (Sst.num ((b.drop (b.length - 28)).take 8)) (Sst.num ((b.drop (b.length - 28 + 8)).take 8)) ≠ Codec.frame (Sst.index bl) then .error (Sst.num ((b.drop (b.length - 28)).take 8), 14)
      else if Sst.win b (Sst.num ((b.drop (b.length - 28 + 8)).take 8)) (b.length - 28) ≠ Codec.frame (Sst.filter L) then .error (Sst.num ((b.drop (b.length - 28 + 8)).take 8), 14)
      else if Sst.num ((b.drop (b.length - 28 + 16)).take 8) ≠ L.length then .error (b.length - 28, 14)
      else .ok (L, bl)
end Go.Proofs.YtjigfinpbdglnaaGreatDoor
end

section
set_option maxRecDepth 100000
set_option linter.unusedVariables false
set_option linter.unusedSimpArgs false
namespace Go.Proofs.YtjigfinpbdglnaaGreatDoor
open Go.RowKit

/-- What entries tells. -/
def RetEs (p : List UInt8) (w : World) (en : Ending) (w' : World) : Prop := ∃ (a : Option Addr) (n c : Nat) (ok : Bool), en = .returned (.tuple #[.slice a n c, .bool ok]) ∧ Below w.heap.size w w' ∧
  ((ok = true ∧ ∃ l, l ≠ [] ∧ Sst.dents p = some l ∧ AccV w' w.heap.size a n c l) ∨ (ok = false ∧ (Sst.dents p = none ∨ Sst.dents p = some [])))
set_option maxHeartbeats 4000000 in
theorem sentries_any (a : Option Addr) (n c : Nat) (p : List UInt8) (w : World) (h : Bs w a n c p) (ha : ∀ x, a = some x → x.block < w.heap.size) (hn : n ≤ 100000000) :
    Calls Tryz.prog 48 #[.slice a n c] w (RetEs p w) := by
  have hpl := h.1
  have hr1 := heap_alloc_new w (.cells #[.slice a n c, .bool false] 143)
  have hb1 := below_alloc1 w (.cells #[.slice a n c, .bool false] 143)
  obtain ⟨w1, hw1⟩ : ∃ w1, w.alloc (.cells #[.slice a n c, .bool false] 143) = w1 := ⟨_, rfl⟩
  rw [hw1] at hr1 hb1
  have HR1 : Hid (RS2 w1 w.heap.size (p, false)) := Lib.hid ⟨a, n, c, hr1, h.below hb1, ha⟩
  have HB1 := Lib.hid hb1
  have HW1 := Lib.hid hw1
  have HP := Lib.hid hpl
  have hlt1 : w.heap.size < w1.heap.size := (Array.getElem?_eq_some_iff.1 hr1).1
  clear h hr1 hb1 hw1 hpl ha
  go_enter Tryz.func48, Tryz.ntmps48
  go_upto_region 2 with fail
  rw [HW1.out]
  go_wp2_with fail
  go_loopw [5] (fun ov wr => ∃ (done : List Ent) (rest : List UInt8) (b : Bool) (a' : Option Addr) (n' c' : Nat), ov = .slice a' n' c' ∧ n' ≤ n + 1 ∧ Hid (AccV wr w.heap.size a' n' c' done) ∧ Hid (RS2 wr w.heap.size (rest, b)) ∧ Hid (Below w.heap.size w wr) ∧ Hid ((b = false ∧ Sst.Part p done rest) ∨ (b = true ∧ Sst.dents p = none))) (fun ov _ => match ov with | .slice _ k _ => n + 1 - k | _ => 0)
  case atStart => exact ⟨[], p, false, none, 0, 0, rfl, by omega, Lib.hid (AccV.nil _ _), HR1, HB1, Lib.hid (.inl ⟨rfl, Sst.Part.nil p⟩)⟩
  case round =>
    obtain ⟨done, rest, b, a', n', c', rfl, hn', HA, HR, HB, HC⟩ := hrel
    obtain ⟨ar, nr, cr, q1, q2, _⟩ := HR.out
    dsimp only at q1 q2
    obtain ⟨c0, c1, cf⟩ := cells2 q1
    have hnr := q2.1
    have HLT : Hid (w.heap.size < wr.heap.size) := Lib.hid (Array.getElem?_eq_some_iff.1 q1).1
    have HQ1 := Lib.hid q1
    have HNR := Lib.hid hnr
    clear q1 q2 hnr
    cases b with
    | true =>
      have HD : Hid (Sst.dents p = none) := Lib.hid (by
        rcases HC.out with ⟨e, _⟩ | ⟨_, e⟩
        · cases e
        · exact e)
      clear HC
      by_cases h0 : 0 < nr
      · have tn : decide ((0 : Int) < (nr : Int)) = true := decide_eq_true (by omega)
        have tn' : decide (0 < nr) = true := decide_eq_true h0
        clear h0
        go_wp2
        go_ret2
        exact ⟨a', n', c', false, rfl, HB.out, .inr ⟨rfl, .inl HD.out⟩⟩
      · obtain rfl : nr = 0 := by omega
        go_wp2
        go_ret2
        exact ⟨a', n', c', false, rfl, HB.out, .inr ⟨rfl, .inl HD.out⟩⟩
    | false =>
      have HPT : Hid (Sst.Part p done rest) := Lib.hid (by
        rcases HC.out with ⟨_, e⟩ | ⟨e, _⟩
        · exact e
        · cases e)
      clear HC
      have h4 := encs_four done
      have hlen : p.length = (Sst.encs done).length + rest.length := by rw [HPT.out.eq, List.length_append]
      have hdl := HA.out.len
      have hpn := HP.out
      by_cases h0 : 0 < nr
      · have HNE : Hid (rest ≠ []) := Lib.hid (fun e => by have := HNR.out; rw [e] at this; simp at this; omega)
        have hnn : n' + 1 ≤ n + 1 ∧ n' < n + 1 ∧ n' ≤ 100000000 := by have := HNR.out; omega
        have hrl : rest.length ≤ 100000000 := by omega
        have tn : decide ((0 : Int) < (nr : Int)) = true := decide_eq_true (by omega)
        have tn' : decide (0 < nr) = true := decide_eq_true h0
        have HE := Lib.hid (rentry_two w.heap.size rest wr HR.out hrl)
        have HNN := Lib.hid hnn
        clear h0 h4 hlen hdl hpn hrl hnn
        go_wp2_with fail
        refine HE.out.mono ?_
        rintro en w2 ⟨e, a2, c2, b2, r2, rfl, ho2, hr2, hot2, hcase⟩
        have HO2 := Lib.hid ho2
        have HR2 := Lib.hid hr2
        have HOT2 := Lib.hid hot2
        have HCS := Lib.hid hcase
        have HBW2 := Lib.hid (HB.out.trans (hot2.below HB.out.size (fun x hx => by cases hx; exact Nat.le_refl _)))
        have HA2 := Lib.hid (HA.out.oth hot2 HQ1.out (by decide) (by decide))
        have HBX := Lib.hid (ent_box (w := w2) rfl e a2 c2)
        have hsz2 := hot2.size
        have HSZ := Lib.hid (show w.heap.size ≤ w2.heap.size by have := HLT.out; omega)
        unfold ev
        clear ho2 hr2 hot2 hcase c0 c1 cf HE hsz2
        go_wp2_with (at_builtin; refine app_entV rfl _ _ rfl w.heap.size rfl (HA2.out.below (below_alloc1 w2 _)) rfl HBX.out (own_below HO2.out (below_alloc1 w2 _)) (by have := HNN.out; omega) (le_alloc HSZ.out) ?_; intro a3 c3 w3 h3 hb3 hev3; have HA3 := Lib.hid h3; have HB3 := Lib.hid hb3; have HEV3 := Lib.hid hev3; clear h3 hb3 hev3)
        go_roundw
        case rel =>
          have hra := HR2.out.below (below_alloc1 w2 (.cells #[.string (bstr e.key), .int .u64 e.seq, .bool e.gone, .slice a2 e.val.length c2] 37))
          have hr3 : RS2 w3 w.heap.size (r2, b2) := by
            obtain ⟨ax, nx, cx, g1, g2, g4⟩ := hra
            obtain ⟨cs, g3, _⟩ := (HA2.out.below (below_alloc1 w2 (.cells #[.string (bstr e.key), .int .u64 e.seq, .bool e.gone, .slice a2 e.val.length c2] 37))).row
            refine ⟨ax, nx, cx, ?_, ?_, g4⟩
            · refine (HEV3.out.1.block _ (Array.getElem?_eq_some_iff.1 g1).1 (fun er => ?_)).trans g1
              obtain ⟨y, hy, hyb⟩ : ∃ y, a' = some y ∧ y.block = w.heap.size := by
                cases a' with
                | none => cases er
                | some y => exact ⟨y, rfl, by simpa using er.symm⟩
              subst hy
              rcases g3.2 with ⟨q, _⟩ | ⟨q, cap, cur, q1, _, q3, _⟩
              · cases q
              · cases q1
                dsimp only at hyb
                subst hyb
                rw [g1] at q3
                cases q3
            · exact g2.evol HEV3.out (fun h0 x y hx hy => by
                have := g4 x hx
                have := (HA2.out.e.new y hy).1
                omega)
          refine ⟨done ++ [e], r2, b2, a3, n' + 1, c3, rfl, HNN.out.1, HA3, Lib.hid hr3, Lib.hid (HBW2.out.trans (((below_alloc1 w2 _).mono HSZ.out).trans HB3.out)), Lib.hid ?_⟩
          rcases HCS.out with ⟨rfl, hd⟩ | ⟨rfl, hd⟩
          · exact .inl ⟨rfl, HPT.out.step hd⟩
          · exact .inr ⟨rfl, dents_bad HPT.out HNE.out hd⟩
        case measure => have := HNN.out; simp; omega
      · obtain rfl : nr = 0 := by omega
        have hre : rest = [] := List.eq_nil_of_length_eq_zero (by rw [HNR.out])
        subst hre
        have HD := Lib.hid (dents_some HPT.out)
        cases n' with
        | zero =>
          have hd0 : done = [] := List.eq_nil_of_length_eq_zero hdl
          subst hd0
          clear h4 hlen hdl hpn
          go_wp2
          go_ret2
          exact ⟨a', 0, c', false, rfl, HB.out, .inr ⟨rfl, .inr HD.out⟩⟩
        | succ n' =>
          have tn : decide ((0 : Int) < ((n' + 1 : Nat) : Int)) = true := decide_eq_true (by omega)
          have tn' : decide (0 < n' + 1) = true := decide_eq_true (by omega)
          have HDN : Hid (done ≠ []) := Lib.hid (fun e => by rw [e] at hdl; cases hdl)
          clear h4 hlen hdl hpn
          go_wp2
          go_ret2
          exact ⟨a', n' + 1, c', true, rfl, HB.out, .inl ⟨rfl, done, HDN.out, HD.out, HA.out⟩⟩
end Go.Proofs.YtjigfinpbdglnaaGreatDoor
end
