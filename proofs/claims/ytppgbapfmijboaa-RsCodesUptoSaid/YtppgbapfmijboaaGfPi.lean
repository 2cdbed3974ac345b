/- Any unlike rows of the unit with Cauchy's below have an inverse. No program in sight. -/
import Derived.Test.YtppgbapfmijboaaGfG
set_option linter.unusedVariables false
set_option linter.unusedSimpArgs false
namespace Go.Proofs.Ytppgbapfmijboaa.Gf

def lsum (f : Nat → UInt8) : List Nat → UInt8
  | [] => 0
  | j :: l => f j ^^^ lsum f l
theorem lsum_append (f : Nat → UInt8) : ∀ (l r : List Nat), lsum f (l ++ r) = lsum f l ^^^ lsum f r
  | [], r => by simp [lsum]
  | j :: l, r => by simp only [List.cons_append, lsum, lsum_append f l r, UInt8.xor_assoc]
theorem sm_lsum (f : Nat → UInt8) : ∀ n, sm n f = lsum f (List.range n)
  | 0 => rfl
  | n + 1 => by
    rw [List.range_succ, lsum_append, ← sm_lsum f n]
    simp [sm, lsum]
theorem lsum_filter (f : Nat → UInt8) (p : Nat → Bool) : ∀ (l : List Nat), (∀ j ∈ l, p j = false → f j = 0) → lsum f l = lsum f (l.filter p)
  | [], _ => rfl
  | j :: l, h => by
    have ih := lsum_filter f p l (fun i hi => h i (List.mem_cons_of_mem _ hi))
    cases hp : p j with
    | true => rw [List.filter_cons_of_pos hp]; simp only [lsum]; rw [ih]
    | false =>
      have hn : ¬ p j = true := by rw [hp]; exact Bool.false_ne_true
      rw [List.filter_cons_of_neg hn, ← ih]
      simp only [lsum]
      rw [h j List.mem_cons_self hp, UInt8.zero_xor]
theorem csum_lsum (a : UInt8) (x : Nat → UInt8) : ∀ (l : List Nat), csum a (l.map fun j => (UInt8.ofNat j, x j)) = lsum (fun j => mul (inv (a ^^^ UInt8.ofNat j)) (x j)) l
  | [] => rfl
  | j :: l => by simp only [List.map_cons, csum, lsum, csum_lsum a x l, mul_comm]
theorem ofNat_inj {i j : Nat} (hi : i < 256) (hj : j < 256) (h : UInt8.ofNat i = UInt8.ofNat j) : i = j := by
  have := congrArg UInt8.toNat h
  rw [UInt8.toNat_ofNat', UInt8.toNat_ofNat'] at this
  omega
theorem nodup_map {l : List Nat} (hl : l.Nodup) (h : ∀ j ∈ l, j < 256) : (l.map UInt8.ofNat).Nodup := by
  rw [List.nodup_iff_pairwise_ne, List.pairwise_map]
  rw [List.nodup_iff_pairwise_ne] at hl
  refine hl.imp_of_mem (fun {a b} ha hb hne e => hne (ofNat_inj (h a ha) (h b hb) e))
/-- Lists of unlike numbers with the same members are equally long. -/
theorem len_le_of_sub : ∀ {l r : List Nat}, l.Nodup → (∀ j ∈ l, j ∈ r) → l.length ≤ r.length
  | [], _, _, _ => by simp
  | j :: l, r, h, hs => by
    rw [List.nodup_cons] at h
    have h1 : j ∈ r := hs j List.mem_cons_self
    have h2 := len_le_of_sub (l := l) (r := r.erase j) h.2 (fun i hi => by
      have hij : i ≠ j := fun e => h.1 (e ▸ hi)
      exact (List.mem_erase_of_ne hij).2 (hs i (List.mem_cons_of_mem _ hi)))
    rw [List.length_erase_of_mem h1] at h2
    have := List.length_pos_of_mem h1
    simp only [List.length_cons]
    omega
theorem filter_split (p : Nat → Bool) : ∀ (l : List Nat), (l.filter p).length + (l.filter (fun j => !p j)).length = l.length
  | [] => rfl
  | j :: l => by
    have ih := filter_split p l
    cases hp : p j <;> simp [hp] <;> omega
/-- The rows that are picked. -/
def pick (k : Nat) (l : List Nat) : Mt := fun i j => if l.getD i 0 < k then idm (l.getD i 0) j else inv (UInt8.ofNat (l.getD i 0) ^^^ UInt8.ofNat j)
theorem pick_gauss {k : Nat} {l : List Nat} {A : Mt} (hA : ∀ i j, i < k → j < k → A i j = pick k l i j) (hl : l.length = k) (hn : l.Nodup) (hb : ∀ j ∈ l, j < 256) (hk : k ≤ 256) : gauss k A k ≠ none := by
  intro hg
  obtain ⟨x, ⟨i0, hi0, hx0⟩, hz0⟩ := gauss_kernel hg
  have hz : ∀ i, i < k → ap k (pick k l) x i = 0 := fun i hi => by
    rw [← hz0 i hi]; exact ap_congr (fun j hj => (hA i j hi hj).symm) (fun _ _ => rfl)
  have hmem : ∀ i, i < k → l.getD i 0 ∈ l := by
    intro i hi
    rw [List.getD_eq_getElem?_getD, List.getElem?_eq_getElem (by omega)]
    exact List.getElem_mem _
  have hunit : ∀ j, j ∈ l → j < k → x j = 0 := by
    intro j hj hjk
    obtain ⟨i, hi, e⟩ := List.getElem_of_mem hj
    have hz1 := hz i (by omega)
    have e2 : l.getD i 0 = j := by rw [List.getD_eq_getElem?_getD, List.getElem?_eq_getElem hi, ← e]; rfl
    unfold ap pick at hz1
    rw [e2] at hz1
    simp only [if_pos hjk] at hz1
    rw [sm_only hjk (fun r _ hne => by rw [idm_ne (Ne.symm hne), zero_mul])] at hz1
    simpa [idm, one_mul] using hz1
  let T := (List.range k).filter (fun j => !decide (j ∈ l))
  let R := l.filter (fun j => !decide (j < k))
  have hT : ∀ j, j ∈ T ↔ j < k ∧ j ∉ l := by intro j; simp [T]
  have hR : ∀ j, j ∈ R ↔ j ∈ l ∧ k ≤ j := by intro j; simp [R]
  have hTn : T.Nodup := List.nodup_range.filter _
  have hRn : R.Nodup := hn.filter _
  have hlen : T.length = R.length := by
    have s1 := filter_split (fun j => decide (j ∈ l)) (List.range k)
    have s2 := filter_split (fun j => decide (j < k)) l
    have e : ((List.range k).filter (fun j => decide (j ∈ l))).length = (l.filter (fun j => decide (j < k))).length := by
      apply Nat.le_antisymm
      · refine len_le_of_sub (List.nodup_range.filter _) (fun j hj => ?_)
        simp at hj ⊢; exact ⟨hj.2, hj.1⟩
      · refine len_le_of_sub (hn.filter _) (fun j hj => ?_)
        simp at hj ⊢; exact ⟨hj.2, hj.1⟩
    simp only [List.length_range] at s1
    show ((List.range k).filter (fun j => !decide (j ∈ l))).length = (l.filter (fun j => !decide (j < k))).length
    omega
  have hsum : ∀ a ∈ R, csum (UInt8.ofNat a) (T.map fun j => (UInt8.ofNat j, x j)) = 0 := by
    intro a ha
    obtain ⟨ha1, ha2⟩ := (hR a).1 ha
    obtain ⟨i, hi, e⟩ := List.getElem_of_mem ha1
    have hz1 := hz i (by omega)
    have e2 : l.getD i 0 = a := by rw [List.getD_eq_getElem?_getD, List.getElem?_eq_getElem hi, ← e]; rfl
    unfold ap pick at hz1
    rw [e2] at hz1
    simp only [if_neg (by omega : ¬ a < k)] at hz1
    rw [csum_lsum]
    rw [sm_lsum] at hz1
    rw [← lsum_filter _ (fun j => !decide (j ∈ l)) (List.range k) (fun j hj hp => by
      have h1 : j ∈ l := by simpa using hp
      rw [hunit j h1 (List.mem_range.1 hj), mul_zero])]
    exact hz1
  have hall := cauchy_zero T.length (T.map fun j => (UInt8.ofNat j, x j)) (R.map UInt8.ofNat) (by simp) (by simp [hlen])
    (nodup_map hRn (fun j hj => hb j ((hR j).1 hj).1))
    (by
      have := nodup_map hTn (fun j hj => by have := ((hT j).1 hj).1; omega)
      simpa [Function.comp_def] using this)
    (by
      intro a ha q hq
      simp only [List.mem_map] at ha hq
      obtain ⟨a', ha', rfl⟩ := ha
      obtain ⟨j, hj, rfl⟩ := hq
      intro e
      have h1 := (hR a').1 ha'
      have h2 := (hT j).1 hj
      have := ofNat_inj (hb a' h1.1) (by omega) e
      omega)
    (by
      intro a ha
      simp only [List.mem_map] at ha
      obtain ⟨a', ha', rfl⟩ := ha
      exact hsum a' ha')
  apply hx0
  by_cases h : i0 ∈ l
  · exact hunit i0 h hi0
  · exact hall (UInt8.ofNat i0, x i0) (List.mem_map.2 ⟨i0, (hT i0).2 ⟨hi0, h⟩, rfl⟩)
end Go.Proofs.Ytppgbapfmijboaa.Gf
