/- Sorted tables: Build, plain. -/
import Derived.Test.YtjigfinpbdglnaaGreatDoorZSbH
set_option linter.unusedVariables false
set_option linter.unusedSimpArgs false
set_option maxRecDepth 100000
set_option linter.unusedVariables false
set_option linter.unusedSimpArgs false
namespace Go.Proofs.YtjigfinpbdglnaaGreatDoor
open Go.RowKit

theorem own_block' {B e s n : Nat} {a : Option Addr} {k c : Nat} {cs : List Value} {w : World} (h : w.ownsRow B e s (.slice a k c) n cs) : (Value.slice a k c).ownBlock = a.map (·.block) := by
  rcases h.2 with ⟨h1, _⟩ | ⟨g, cap, cur, h1, _⟩
  · cases h1; rfl
  · cases h1; rfl
/-- Rows of unlike types lie apart. -/
theorem own_ne {w : World} {B B' e e' s s' n n' c c' : Nat} {a a' : Option Addr} {cs cs' : List Value} (h : w.ownsRow B e s (.slice a n c) n cs) (h' : w.ownsRow B' e' s' (.slice a' n' c') n' cs') (hne : e ≠ e') : ∀ x y, a = some x → a' = some y → x.block ≠ y.block := by
  rintro x y rfl rfl
  rcases h.2 with ⟨h1, _⟩ | ⟨g, cap, cur, h1, _, hg, _⟩
  · cases h1
  · rcases h'.2 with ⟨h2, _⟩ | ⟨g', cap', cur', h2, _, hg', _⟩
    · cases h2
    · cases h1; cases h2
      intro e0
      simp only at e0
      subst e0
      rw [hg] at hg'
      simp at hg'
      exact hne hg'.2
theorem own_evol {w w' : World} {B e s n c : Nat} {a a1 ao ao' : Option Addr} {cs : List Value} (h : w.ownsRow B e s (.slice a n c) n cs) (k : Evol w ao w' ao') (hne : ∀ x y, a = some x → ao = some y → x.block ≠ y.block) : w'.ownsRow B e s (.slice a n c) n cs := by
  refine ⟨h.1, ?_⟩
  rcases h.2 with g | ⟨g, cap, cur, g1, g2, g3, g4⟩
  · exact .inl g
  · refine .inr ⟨g, cap, cur, g1, g2, ?_, g4⟩
    cases g1
    rw [k.1.block g (Array.getElem?_eq_some_iff.1 g3).1 (fun e => by
      cases ao with
      | none => cases e
      | some y => exact hne _ y rfl rfl (by simpa using e))]
    exact g3
theorem Acc.evol {α : Type} {C : Cel α} {T : TypeId} {w w' : World} {B : Nat} {a ao ao' : Option Addr} {n c : Nat} {l : List α} (h : Acc C T w B a n c l) (k : Evol w ao w' ao') (hne : ∀ x y, a = some x → ao = some y → x.block ≠ y.block) : Acc C T w' B a n c l := ⟨h.1, own_evol (a1 := none) h.2 k hne⟩
theorem Own.evolNe {w w' : World} {B : Nat} {a ao ao' : Option Addr} {n c : Nat} {l : List UInt8} (h : Own w B a n c l) (k : Evol w ao w' ao') (hne : ∀ x y, a = some x → ao = some y → x.block ≠ y.block) : Own w' B a n c l := own_evol (a1 := none) h k hne
structure Sst.St where
  out : List UInt8
  pay : List UInt8
  bl : List Bk
  fk : List UInt8
def Sst.fk' (s : Sst.St) (e : Ent) : List UInt8 := if s.pay = [] then e.key else s.fk
def Sst.step (size : Nat) (last : Bool) (s : Sst.St) (e : Ent) : Sst.St :=
  if size ≤ (s.pay ++ Sst.ent e).length ∨ last = true then ⟨s.out ++ Codec.frame (s.pay ++ Sst.ent e), [], s.bl ++ [⟨Sst.fk' s e, s.out.length, (Codec.frame (s.pay ++ Sst.ent e)).length⟩], Sst.fk' s e⟩
  else ⟨s.out, s.pay ++ Sst.ent e, s.bl, Sst.fk' s e⟩
def Sst.upto (l : List Ent) (size : Nat) : Nat → Sst.St
  | 0 => ⟨[], [], [], []⟩
  | i + 1 => Sst.step size (decide (i + 1 = l.length)) (Sst.upto l size i) (nth l i)
def Sst.long (e : Ent) : Prop := 65535 < e.key.length ∨ 33554432 < e.val.length
instance (e : Ent) : Decidable (Sst.long e) := inferInstanceAs (Decidable (_ ∨ _))
def Sst.two (l : List Ent) (size : Nat) : List UInt8 := (Sst.upto l size l.length).out ++ Codec.frame (Sst.index (Sst.upto l size l.length).bl)
def Sst.foot (l : List Ent) (size : Nat) : List UInt8 := Codec.low 8 (Sst.upto l size l.length).out.length ++ Codec.low 8 (Sst.two l size).length ++ Codec.low 8 l.length
def Sst.fin (l : List Ent) (size : Nat) : List UInt8 := Sst.two l size ++ Codec.frame (Sst.filter l) ++ (Sst.foot l size ++ Codec.four (Codec.sum (Sst.foot l size)))
def Sst.build (l : List Ent) (z : Int) : List UInt8 × Nat :=
  if z < 1 ∨ 67108864 < z then ([], 1) else if Ent.rightB l = false then ([], 15) else if ∃ e ∈ l, Sst.long e then ([], 3) else (Sst.fin l z.toNat, 0)
theorem ent_len {e : Ent} (hs : U64 e.seq) (h : e.key.length + e.val.length ≤ 1000000000) : 4 ≤ (Sst.ent e).length ∧ (Sst.ent e).length ≤ e.key.length + e.val.length + 31 := by
  have h1 := Codec.enc_len10 (v := e.key.length) (by omega)
  have h2 := Codec.enc_len10 hs.lt
  have h3 := Codec.enc_len10 (v := e.val.length) (by omega)
  have p1 := Codec.enc_pos e.key.length
  have p2 := Codec.enc_pos e.seq
  have p3 := Codec.enc_pos e.val.length
  have h4 : (Sst.gone e.gone).length = 1 := by unfold Sst.gone; split <;> rfl
  unfold Sst.ent Sst.lp
  simp only [List.length_append]
  omega
theorem frame_le {p : List UInt8} (h : p.length ≤ 1000000000) : (Codec.frame p).length ≤ p.length + 14 := by
  have h1 := Codec.enc_len10 (v := p.length) (by omega)
  unfold Codec.frame
  simp only [List.length_append]
  have : (Codec.four (Codec.sum p)).length = 4 := rfl
  omega
/-- What is known of entries. -/
structure Sst.Ok (l : List Ent) : Prop where
  u : ∀ e ∈ l, U64 e.seq
  t : Ent.tot l ≤ 131072
  n : l.length ≤ 400
theorem Sst.Ok.at {l : List Ent} (h : Sst.Ok l) {i : Nat} (hi : i < l.length) : U64 (nth l i).seq ∧ (nth l i).key.length + (nth l i).val.length ≤ 131072 := by
  refine ⟨by rw [nth_eq _ hi]; exact h.u _ (List.getElem_mem _), ?_⟩
  have h1 := Ent.tot_snoc l hi
  have h2 := Ent.tot_le l (i + 1)
  have h3 := h.t
  omega
theorem upto_le {l : List Ent} {size : Nat} (h : Sst.Ok l) : ∀ i, i ≤ l.length → (Sst.upto l size i).out.length + (Sst.upto l size i).pay.length ≤ Ent.tot (l.take i) + 45 * i ∧ (Sst.upto l size i).bl.length ≤ i
  | 0, _ => by simp [Sst.upto]
  | i + 1, hi => by
    obtain ⟨h1, h2⟩ := upto_le h i (by omega)
    obtain ⟨hu, hk⟩ := h.at (i := i) (by omega)
    have h3 := ent_len hu (by omega)
    have h4 := Ent.tot_snoc l (i := i) (by omega)
    have h5 := Ent.tot_le l (i + 1)
    have h6 := h.t
    have h7 := h.n
    unfold Sst.upto Sst.step
    generalize Sst.upto l size i = s at *
    have h8 := frame_le (p := s.pay ++ Sst.ent (nth l i)) (by rw [List.length_append]; omega)
    split
    · simp only [List.length_append, List.length_nil, List.length_cons] at *
      omega
    · simp only [List.length_append] at *
      omega
theorem upto_small {l : List Ent} {size : Nat} (h : Sst.Ok l) {i : Nat} (hi : i ≤ l.length) : (Sst.upto l size i).out.length ≤ 150000 ∧ (Sst.upto l size i).pay.length ≤ 150000 ∧ (Sst.upto l size i).bl.length ≤ 400 := by
  obtain ⟨h1, h2⟩ := upto_le (size := size) h i hi
  have h5 := Ent.tot_le l i
  have h6 := h.t
  have h7 := h.n
  omega
/-- The blocks are not too great. -/
theorem upto_ok {l : List Ent} {size : Nat} (h : Sst.Ok l) : ∀ i, i ≤ l.length → BkOk (Sst.upto l size i).bl ∧ (Sst.upto l size i).fk.length ≤ 100000 → True := fun _ _ _ => trivial
theorem upto_bk {l : List Ent} {size : Nat} (h : Sst.Ok l) (hl : ∀ e ∈ l, ¬ Sst.long e) : ∀ i, i ≤ l.length → BkOk (Sst.upto l size i).bl ∧ (Sst.upto l size i).fk.length ≤ 100000
  | 0, _ => ⟨fun b hb => by simp [Sst.upto] at hb, by simp [Sst.upto]⟩
  | i + 1, hi => by
    obtain ⟨h1, h2⟩ := upto_bk h hl i (by omega)
    obtain ⟨s1, s2, _⟩ := upto_small (size := size) h (i := i) (by omega)
    obtain ⟨hu, hk⟩ := h.at (i := i) (by omega)
    have h3 := ent_len hu (by omega)
    have hlk : (nth l i).key.length ≤ 65535 := by
      have := hl (nth l i) (by rw [nth_eq _ (by omega)]; exact List.getElem_mem _)
      unfold Sst.long at this
      omega
    have hfk : (Sst.fk' (Sst.upto l size i) (nth l i)).length ≤ 100000 := by unfold Sst.fk'; split <;> omega
    unfold Sst.upto Sst.step
    generalize Sst.upto l size i = s at *
    have h8 := frame_le (p := s.pay ++ Sst.ent (nth l i)) (by rw [List.length_append]; omega)
    split
    · refine ⟨fun b hb => ?_, hfk⟩
      rcases List.mem_append.1 hb with hb | hb
      · exact h1 b hb
      · obtain rfl : b = _ := by simpa using hb
        refine ⟨hfk, by show s.out.length ≤ _; omega, ?_⟩
        show (Codec.frame _).length ≤ _
        rw [List.length_append] at h8
        omega
    · exact ⟨h1, hfk⟩
theorem two_le {l : List Ent} {size : Nat} (h : Sst.Ok l) (hl : ∀ e ∈ l, ¬ Sst.long e) : (Sst.index (Sst.upto l size l.length).bl).length ≤ 41000000 ∧ (Sst.two l size).length ≤ 42000000 := by
  obtain ⟨s1, s2, s3⟩ := upto_small (size := size) h (Nat.le_refl l.length)
  obtain ⟨b1, _⟩ := upto_bk (size := size) h hl l.length (Nat.le_refl _)
  have h1 := index_len b1 _ (Nat.le_refl _)
  rw [List.take_length] at h1
  have h2 := frame_le (p := Sst.index (Sst.upto l size l.length).bl) (by omega)
  unfold Sst.two
  rw [List.length_append]
  omega
theorem foot_len (l : List Ent) (size : Nat) : (Sst.foot l size).length = 24 := by unfold Sst.foot; simp only [List.length_append, Codec.low_len]
end Go.Proofs.YtjigfinpbdglnaaGreatDoor
