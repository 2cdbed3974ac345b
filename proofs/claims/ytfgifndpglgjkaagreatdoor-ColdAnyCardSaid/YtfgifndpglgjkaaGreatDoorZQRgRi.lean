/- The reference's Inverse. -/
import Derived.Test.YtfgifndpglgjkaaGreatDoorZQRgc
import Derived.Test.YtfgifndpglgjkaaGreatDoorZGfG
import Derived.Test.YtfgifndpglgjkaaGreatDoorZQRgX
import Derived.Test.YtfgifndpglgjkaaGreatDoorZQRgb
set_option linter.unusedVariables false
set_option linter.unusedSimpArgs false
section
set_option linter.unusedVariables false
set_option linter.unusedSimpArgs false
set_option maxRecDepth 100000
namespace Go.Proofs.YtfgifndpglgjkaaGreatDoor
open Go.RowKit Go.Deep

structure RSt (w wr : World) (B2 B4 gA gO n : Nat) (s : Gf.Mt × Gf.Mt) : Prop where
  below : Below w.heap.size w wr
  size : B4 ≤ wr.heap.size
  pl : (w.heap.size ≤ gA ∧ gA < B2) ∧ (B2 ≤ gO ∧ gO < B4)
  gi : GI wr w.heap.size B2 B2 B4 gA gO n s
theorem RSt.later {w wr w2 : World} {B2 B4 gA gO n : Nat} {s : Gf.Mt × Gf.Mt} (h : RSt w wr B2 B4 gA gO n s) (k : Below wr.heap.size wr w2) : RSt w w2 B2 B4 gA gO n s :=
  ⟨h.below.trans (k.mono h.below.size), Nat.le_trans h.size k.size, h.pl, h.gi.below k⟩
theorem RSt.doA {w wr w2 : World} {B2 B4 gA gO n : Nat} {s : Gf.Mt × Gf.Mt} {bl : Nat → Nat} {Y : Gf.Mt} {e : Ending} (h : RSt w wr B2 B4 gA gO n s) (hb : ∀ i, i < n → w.heap.size ≤ bl i ∧ bl i < B2) (d : DoP w.heap.size gA n n bl Y wr e w2) : RSt w w2 B2 B4 gA gO n (Y, s.2) := by
  obtain ⟨_, bl', cp', d2, d3, d4⟩ := d
  obtain ⟨blO, cpO, o1, o2⟩ := h.gi.o
  have hp := h.pl
  have hS : ∀ b, (b = gA ∨ ∃ i, i < n ∧ b = bl i) → w.heap.size ≤ b ∧ b < B2 := by
    rintro b (rfl | ⟨i, hi, rfl⟩)
    · exact hp.1
    · exact hb i hi
  refine ⟨h.below.trans (d3.below h.below.size (fun b hb' => (hS b hb').1)), Nat.le_trans h.size d3.size, hp, ⟨bl', cp', d2, fun i hi => by obtain ⟨j, hj, e⟩ := d4 i hi; rw [e]; exact hb j hj⟩, ⟨blO, cpO, o1.onl d3 (fun e => ?_) (fun i hi e => ?_), o2⟩⟩
  · have := hS _ e; omega
  · have := hS _ e; have := o2 i hi; omega
theorem RSt.doO {w wr w2 : World} {B2 B4 gA gO n : Nat} {s : Gf.Mt × Gf.Mt} {bl : Nat → Nat} {Y : Gf.Mt} {e : Ending} (h : RSt w wr B2 B4 gA gO n s) (hb : ∀ i, i < n → B2 ≤ bl i ∧ bl i < B4) (d : DoP B2 gO n n bl Y wr e w2) : RSt w w2 B2 B4 gA gO n (s.1, Y) := by
  obtain ⟨_, bl', cp', d2, d3, d4⟩ := d
  obtain ⟨blA, cpA, o1, o2⟩ := h.gi.a
  have hp := h.pl
  have hS : ∀ b, (b = gO ∨ ∃ i, i < n ∧ b = bl i) → B2 ≤ b ∧ b < B4 := by
    rintro b (rfl | ⟨i, hi, rfl⟩)
    · exact hp.2
    · exact hb i hi
  refine ⟨h.below.trans (d3.below h.below.size (fun b hb' => by have := hS b hb'; omega)), Nat.le_trans h.size d3.size, hp, ⟨blA, cpA, o1.onl d3 (fun e => ?_) (fun i hi e => ?_), o2⟩, ⟨bl', cp', d2, fun i hi => by obtain ⟨j, hj, e⟩ := d4 i hi; rw [e]; exact hb j hj⟩⟩
  · have := hS _ e; omega
  · have := hS _ e; have := o2 i hi; omega
end Go.Proofs.YtfgifndpglgjkaaGreatDoor
end

section
set_option linter.unusedVariables false
set_option linter.unusedSimpArgs false
namespace Go.Proofs.YtfgifndpglgjkaaGreatDoor.Gf

def lsum (f : Nat → UInt8) : List Nat → UInt8
  | [] => 0
  | j :: l => f j ^^^ lsum f l
theorem lsum_append (f : Nat → UInt8) : ∀ (l r : List Nat), lsum f (l ++ r) = lsum f l ^^^ lsum f r
  | [], r => by simp [lsum]
  | j :: l, r => by simp only [List.cons_append, lsum, lsum_append f l r, UInt8.xor_assoc]
theorem sm_lsum (f : Nat → UInt8) : ∀ n, sm n f = lsum f (List.range n)
  | 0 => rfl
  | n + 1 => by
    rw [List.range_succ, lsum_append, ← sm_lsum f n]
    simp [sm, lsum]
theorem lsum_filter (f : Nat → UInt8) (p : Nat → Bool) : ∀ (l : List Nat), (∀ j ∈ l, p j = false → f j = 0) → lsum f l = lsum f (l.filter p)
  | [], _ => rfl
  | j :: l, h => by
    have ih := lsum_filter f p l (fun i hi => h i (List.mem_cons_of_mem _ hi))
    cases hp : p j with
    | true => rw [List.filter_cons_of_pos hp]; simp only [lsum]; rw [ih]
    | false =>
      have hn : ¬ p j = true := by rw [hp]; exact Bool.false_ne_true
      rw [List.filter_cons_of_neg hn, ← ih]
      simp only [lsum]
      rw [h j List.mem_cons_self hp, UInt8.zero_xor]
theorem csum_lsum (a : UInt8) (x : Nat → UInt8) : ∀ (l : List Nat), csum a (l.map fun j => (UInt8.ofNat j, x j)) = lsum (fun j => mul (inv (a ^^^ UInt8.ofNat j)) (x j)) l
  | [] => rfl
  | j :: l => by simp only [List.map_cons, csum, lsum, csum_lsum a x l, mul_comm]
theorem ofNat_inj {i j : Nat} (hi : i < 256) (hj : j < 256) (h : UInt8.ofNat i = UInt8.ofNat j) : i = j := by
  have := congrArg UInt8.toNat h
  rw [UInt8.toNat_ofNat', UInt8.toNat_ofNat'] at this
  omega
theorem nodup_map {l : List Nat} (hl : l.Nodup) (h : ∀ j ∈ l, j < 256) : (l.map UInt8.ofNat).Nodup := by
  rw [List.nodup_iff_pairwise_ne, List.pairwise_map]
  rw [List.nodup_iff_pairwise_ne] at hl
  refine hl.imp_of_mem (fun {a b} ha hb hne e => hne (ofNat_inj (h a ha) (h b hb) e))
/-- Lists of unlike numbers with the same members are equally long. -/
theorem len_le_of_sub : ∀ {l r : List Nat}, l.Nodup → (∀ j ∈ l, j ∈ r) → l.length ≤ r.length
  | [], _, _, _ => by simp
  | j :: l, r, h, hs => by
    rw [List.nodup_cons] at h
    have h1 : j ∈ r := hs j List.mem_cons_self
    have h2 := len_le_of_sub (l := l) (r := r.erase j) h.2 (fun i hi => by
      have hij : i ≠ j := fun e => h.1 (e ▸ hi)
      exact (List.mem_erase_of_ne hij).2 (hs i (List.mem_cons_of_mem _ hi)))
    rw [List.length_erase_of_mem h1] at h2
    have := List.length_pos_of_mem h1
    simp only [List.length_cons]
    omega
theorem filter_split (p : Nat → Bool) : ∀ (l : List Nat), (l.filter p).length + (l.filter (fun j => !p j)).length = l.length
  | [] => rfl
  | j :: l => by
    have ih := filter_split p l
    cases hp : p j <;> simp [hp] <;> omega
/-- The rows that are picked. -/
def pick (k : Nat) (l : List Nat) : Mt := fun i j => if l.getD i 0 < k then idm (l.getD i 0) j else inv (UInt8.ofNat (l.getD i 0) ^^^ UInt8.ofNat j)
theorem pick_gauss {k : Nat} {l : List Nat} {A : Mt} (hA : ∀ i j, i < k → j < k → A i j = pick k l i j) (hl : l.length = k) (hn : l.Nodup) (hb : ∀ j ∈ l, j < 256) (hk : k ≤ 256) : gauss k A k ≠ none := by
  intro hg
  obtain ⟨x, ⟨i0, hi0, hx0⟩, hz0⟩ := gauss_kernel hg
  have hz : ∀ i, i < k → ap k (pick k l) x i = 0 := fun i hi => by
    rw [← hz0 i hi]; exact ap_congr (fun j hj => (hA i j hi hj).symm) (fun _ _ => rfl)
  have hmem : ∀ i, i < k → l.getD i 0 ∈ l := by
    intro i hi
    rw [List.getD_eq_getElem?_getD, List.getElem?_eq_getElem (by omega)]
    exact List.getElem_mem _
  have hunit : ∀ j, j ∈ l → j < k → x j = 0 := by
    intro j hj hjk
    obtain ⟨i, hi, e⟩ := List.getElem_of_mem hj
    have hz1 := hz i (by omega)
    have e2 : l.getD i 0 = j := by rw [List.getD_eq_getElem?_getD, List.getElem?_eq_getElem hi, ← e]; rfl
    unfold ap pick at hz1
    rw [e2] at hz1
    simp only [if_pos hjk] at hz1
    rw [sm_only hjk (fun r _ hne => by rw [idm_ne (Ne.symm hne), zero_mul])] at hz1
    simpa [idm, one_mul] using hz1
  let T := (List.range k).filter (fun j => !decide (j ∈ l))
  let R := l.filter (fun j => !decide (j < k))
  have hT : ∀ j, j ∈ T ↔ j < k ∧ j ∉ l := by intro j; simp [T]
  have hR : ∀ j, j ∈ R ↔ j ∈ l ∧ k ≤ j := by intro j; simp [R]
  have hTn : T.Nodup := List.nodup_range.filter _
  have hRn : R.Nodup := hn.filter _
  have hlen : T.length = R.length := by
    have s1 := filter_split (fun j => decide (j ∈ l)) (List.range k)
    have s2 := filter_split (fun j => decide (j < k)) l
    have e : ((List.range k).filter (fun j => decide (j ∈ l))).length = (l.filter (fun j => decide (j < k))).length := by
      apply Nat.le_antisymm
      · refine len_le_of_sub (List.nodup_range.filter _) (fun j hj => ?_)
        simp at hj ⊢; exact ⟨hj.2, hj.1⟩
      · refine len_le_of_sub (hn.filter _) (fun j hj => ?_)
        simp at hj ⊢; exact ⟨hj.2, hj.1⟩
    simp only [List.length_range] at s1
    show ((List.range k).filter (fun j => !decide (j ∈ l))).length = (l.filter (fun j => !decide (j < k))).length
    omega
  have hsum : ∀ a ∈ R, csum (UInt8.ofNat a) (T.map fun j => (UInt8.ofNat j, x j)) = 0 := by
    intro a ha
    obtain ⟨ha1, ha2⟩ := (hR a).1 ha
    obtain ⟨i, hi, e⟩ := List.getElem_of_mem ha1
    have hz1 := hz i (by omega)
    have e2 : l.getD i 0 = a := by rw [List.getD_eq_getElem?_getD, List.getElem?_eq_getElem hi, ← e]; rfl
    unfold ap pick at hz1
    rw [e2] at hz1
    simp only [if_neg (by omega : ¬ a < k)] at hz1
    rw [csum_lsum]
    rw [sm_lsum] at hz1
    rw [← lsum_filter _ (fun j => !decide (j ∈ l)) (List.range k) (fun j hj hp => by
      have h1 : j ∈ l := by simpa using hp
      rw [hunit j h1 (List.mem_range.1 hj), mul_zero])]
    exact hz1
  have hall := cauchy_zero T.length (T.map fun j => (UInt8.ofNat j, x j)) (R.map UInt8.ofNat) (by simp) (by simp [hlen])
    (nodup_map hRn (fun j hj => hb j ((hR j).1 hj).1))
    (by
      have := nodup_map hTn (fun j hj => by have := ((hT j).1 hj).1; omega)
      simpa [Function.comp_def] using this)
    (by
      intro a ha q hq
      simp only [List.mem_map] at ha hq
      obtain ⟨a', ha', rfl⟩ := ha
      obtain ⟨j, hj, rfl⟩ := hq
      intro e
      have h1 := (hR a').1 ha'
      have h2 := (hT j).1 hj
      have := ofNat_inj (hb a' h1.1) (by omega) e
      omega)
    (by
      intro a ha
      simp only [List.mem_map] at ha
      obtain ⟨a', ha', rfl⟩ := ha
      exact hsum a' ha')
  apply hx0
  by_cases h : i0 ∈ l
  · exact hunit i0 h hi0
  · exact hall (UInt8.ofNat i0, x i0) (List.mem_map.2 ⟨i0, (hT i0).2 ⟨hi0, h⟩, rfl⟩)
end Go.Proofs.YtfgifndpglgjkaaGreatDoor.Gf
end

section
set_option linter.unusedVariables false
set_option linter.unusedSimpArgs false
set_option maxRecDepth 100000
namespace Go.Proofs.YtfgifndpglgjkaaGreatDoor
open Go.RowKit Go.Deep

theorem nth_map_range {α : Type} [Inhabited α] {n i : Nat} (F : Nat → α) (h : i < n) : nth ((List.range n).map F) i = F i := by
  rw [nth_eq _ (by simpa using h)]; simp
/-- An inverse undoes. -/
theorem solves {lm : List (List UInt8)} {lv : List UInt8} (h0 : Gf.invE lm = 0) (hl : lv.length = lm.length) :
    Gf.applyE lm lv = 0 ∧ Gf.applyE (Gf.invL lm) (Gf.applyL lm lv) = 0 ∧ Gf.applyL (Gf.invL lm) (Gf.applyL lm lv) = lv := by
  have hsq : Gf.sq lm = true := by
    cases h : Gf.sq lm with
    | true => rfl
    | false => rw [(inv_bad h).2] at h0; cases h0
  have hq := hsq
  unfold Gf.sq at hq
  rw [Bool.and_eq_true, decide_eq_true_eq] at hq
  obtain ⟨r1, r2, r3, r4, r5⟩ := right_spec hq.1
  obtain ⟨s, hs⟩ : ∃ s, Gf.gauss lm.length (at2 lm) lm.length = some s := by
    cases h : Gf.gauss lm.length (at2 lm) lm.length with
    | some s => exact ⟨s, rfl⟩
    | none => rw [(inv_none hsq rfl h).2] at h0; cases h0
  have hok : Gf.applyOk lm lv = true := by unfold Gf.applyOk; rw [hq.1, decide_eq_true (by omega)]; rfl
  obtain ⟨a1, a2⟩ := apply_good hok
  rw [(inv_some hsq rfl hs).1, a1, a2, hl]
  have hok2 : Gf.applyOk (mat lm.length lm.length s.2) ((List.range lm.length).map (fun i => Gf.sm lm.length (fun k => Gf.mul (at2 lm i k) (nth lv k)))) = true := by
    unfold Gf.applyOk
    rw [right_mat r1 r2 r1 r2, mat_row (by omega)]
    simp
  obtain ⟨b1, b2⟩ := apply_good hok2
  refine ⟨rfl, b2, ?_⟩
  rw [b1, mat_len]
  apply List.ext_getElem (by simp [hl])
  intro i h1 h2
  simp only [List.length_map, List.length_range, List.getElem_map, List.getElem_range]
  have hi : i < lm.length := by simpa using h1
  have := Gf.gauss_left hs (nth lv) hi
  rw [nth_eq lv h2] at this
  rw [← this]
  refine Gf.sm_congr fun j hj => ?_
  rw [at2_mat hi hj, nth_map_range _ hj]
  rfl
end Go.Proofs.YtfgifndpglgjkaaGreatDoor

/- The walk of GfOwn. -/
set_option maxRecDepth 100000
namespace Go.Proofs.YtfgifndpglgjkaaGreatDoor
open Go.RowKit Go.Deep

theorem inc8 (a : UInt8) : IntKind.u8.wrap (n8 a + 1) = n8 (a + 1) := by
  unfold n8; rw [IntKind.wrap_u8, UInt8.toNat_add]; rfl
@[go_sem] theorem inc8' (a : UInt8) : (n8 a + 1) % 256 = n8 (a + 1) := by rw [← inc8, IntKind.wrap_u8]
/-- What may be written over: rows of the call's own, or none. -/
def Mine (w : World) (B B' : Nat) (a : Option Addr) (n : Nat) : Prop := (a = none ∧ n = 0) ∨ ∃ g C bl cp Z, a = some ⟨g, 0, none⟩ ∧ My w B g n C bl cp Z ∧ g < B' ∧ ∀ i, i < n → bl i < B'
theorem Mine.onl {w w' : World} {B B' : Nat} {a : Option Addr} {n : Nat} {S : Nat → Prop} (h : Mine w B B' a n) (k : Onl w w' S) (hS : ∀ b, S b → b < B ∨ B' ≤ b) : Mine w' B B' a n := by
  rcases h with h | ⟨g, C, bl, cp, Z, h1, h2, h3, h4⟩
  · exact .inl h
  · exact .inr ⟨g, C, bl, cp, Z, h1, h2.onl k (fun e => by have := hS _ e; have := h2.base; omega) (fun i hi e => by have := hS _ e; have := (h2.row i hi).1; have := h4 i hi; omega), h3, h4⟩
theorem MOwn.mine {ls : List (List UInt8)} {er : Int} {w w' : World} {e : Ending} (h : MOwn ls er w e w') :
    ∃ a n c, e = .returned (.tuple #[.slice a n c, .int .i64 er]) ∧ Bss w' a n c ls ∧ Mine w' w.heap.size w'.heap.size a n ∧ Below w.heap.size w w' := by
  obtain ⟨⟨a, n, c, h1, h2, h3⟩, hb⟩ := h
  refine ⟨a, n, c, h1, h2, ?_, hb⟩
  rcases h3 with h3 | ⟨g, C, bl, cp, Z, h4, h5, _⟩
  · exact .inl h3
  · exact .inr ⟨g, C, bl, cp, Z, h4, h5, h5.top.lt, fun i hi => (h5.row i hi).2.2.lt⟩
end Go.Proofs.YtfgifndpglgjkaaGreatDoor

/- GfInverts: the plain law, and the words of its walk. -/
set_option maxRecDepth 100000
namespace Go.Proofs.YtfgifndpglgjkaaGreatDoor
open Go.RowKit Go.Deep

/-! The plain law. -/
def Gf.stack (K M : Nat) : List (List UInt8) := mat K K Gf.one ++ mat M K (Gf.cau K)
theorem stack_len (K M : Nat) : (Gf.stack K M).length = K + M := by simp [Gf.stack, mat_len]
theorem stack_row {K M r : Nat} (h : r < K + M) : nth (Gf.stack K M) r = (List.range K).map (fun j => if r < K then Gf.idm r j else Gf.inv (UInt8.ofNat r ^^^ UInt8.ofNat j)) := by
  unfold Gf.stack
  by_cases hr : r < K
  · rw [nth_append_left _ _ (by rw [mat_len]; exact hr), mat_row hr]
    simp only [if_pos hr]
    rfl
  · rw [nth_eq _ (by rw [List.length_append, mat_len, mat_len]; exact h), List.getElem_append_right (by rw [mat_len]; omega)]
    have e : (mat M K (Gf.cau K))[r - (mat K K Gf.one).length]'(by rw [mat_len, mat_len]; omega) = (List.range K).map (Gf.cau K (r - K)) := by
      rw [← nth_eq, mat_len, mat_row (by omega)]
    rw [e]
    apply List.map_congr_left
    intro j _
    rw [if_neg hr, cau_inv, ← UInt8.ofNat_add, show K + (r - K) = r by omega]
theorem stack_at {K M r j : Nat} (h : r < K + M) (hj : j < K) : at2 (Gf.stack K M) r j = if r < K then Gf.idm r j else Gf.inv (UInt8.ofNat r ^^^ UInt8.ofNat j) := by
  unfold at2
  rw [stack_row h, nth_map_range _ hj]
theorem stack_right {K M : Nat} (hK : 1 ≤ K) (hM : K + M ≤ 255) : Gf.right (Gf.stack K M) = true :=
  right_eq (stack_len K M) (n0 := K) (by rw [stack_row (by omega)]; simp) (by omega) hM hK (by omega) (fun k hk => by rw [stack_row hk]; simp)
def ints (l : List Nat) : List Int := l.map fun j : Nat => (j : Int)
theorem ints_nth {l : List Nat} {i : Nat} (h : i < l.length) : nth (ints l) i = ((l.getD i 0 : Nat) : Int) := by
  unfold ints
  rw [nth_eq _ (by simpa using h)]
  simp [List.getD_eq_getElem?_getD, h]
theorem picked {K M : Nat} {l : List Nat} (hK : 1 ≤ K) (hM : K + M ≤ 255) (hl : l.length = K) (hn : l.Nodup) (hb : ∀ j ∈ l, j < K + M) :
    Gf.rowsE (Gf.stack K M) (ints l) = 0 ∧ Gf.invE (Gf.rowsL (Gf.stack K M) (ints l)) = 0 ∧
    Gf.timesE (Gf.rowsL (Gf.stack K M) (ints l)) (Gf.invL (Gf.rowsL (Gf.stack K M) (ints l))) = 0 ∧ Gf.timesL (Gf.rowsL (Gf.stack K M) (ints l)) (Gf.invL (Gf.rowsL (Gf.stack K M) (ints l))) = mat K K Gf.one ∧
    Gf.timesE (Gf.invL (Gf.rowsL (Gf.stack K M) (ints l))) (Gf.rowsL (Gf.stack K M) (ints l)) = 0 ∧ Gf.timesL (Gf.invL (Gf.rowsL (Gf.stack K M) (ints l))) (Gf.rowsL (Gf.stack K M) (ints l)) = mat K K Gf.one := by
  have hil : (ints l).length = K := by simp [ints, hl]
  have hmem : ∀ i, i < K → l.getD i 0 < K + M := fun i hi => hb _ (by
    rw [List.getD_eq_getElem?_getD, List.getElem?_eq_getElem (by omega)]
    exact List.getElem_mem _)
  have hok : Gf.rowsOk (Gf.stack K M) (ints l) = true := by
    have hz : ∀ i, i < K → 0 ≤ nth (ints l) i ∧ nth (ints l) i < ((K + M : Nat) : Int) := fun i hi => by
      have := hmem i hi
      rw [ints_nth (by omega)]
      omega
    unfold Gf.rowsOk
    rw [stack_right hK hM, stack_len, hil, decide_eq_true ⟨hK, by omega, hz⟩]
    rfl
  obtain ⟨e1, e2⟩ := rows_good hok
  have eP : Gf.rowsL (Gf.stack K M) (ints l) = mat K K (Gf.pick K l) := by
    rw [e1, hil, stack_row (by omega)]
    simp only [List.length_map, List.length_range]
    refine mat_congr fun i j hi hj => ?_
    rw [ints_nth (by omega)]
    simp only [Int.toNat_natCast]
    rw [stack_at (hmem i hi) hj]
    rfl
  rw [eP, e2]
  have hsq : Gf.sq (mat K K (Gf.pick K l)) = true := by
    unfold Gf.sq
    rw [right_mat hK (by omega) hK (by omega), mat_len, mat_row (by omega)]
    simp
  obtain ⟨s, hs⟩ : ∃ s, Gf.gauss K (at2 (mat K K (Gf.pick K l))) K = some s := by
    cases h : Gf.gauss K (at2 (mat K K (Gf.pick K l))) K with
    | some s => exact ⟨s, rfl⟩
    | none => exact absurd h (Gf.pick_gauss (fun i j hi hj => at2_mat hi hj) hl hn (fun j hj => by have := hb j hj; omega) (by omega))
  obtain ⟨i1, i2⟩ := inv_some hsq (mat_len _ _ _) hs
  have tok : ∀ (A B : Gf.Mt), Gf.timesOk (mat K K A) (mat K K B) = true := fun A B => by
    unfold Gf.timesOk
    rw [right_mat hK (by omega) hK (by omega), right_mat hK (by omega) hK (by omega), mat_len, mat_row (by omega)]
    simp
  have tl : ∀ (A B : Gf.Mt), Gf.timesL (mat K K A) (mat K K B) = mat K K (Gf.times K A B) := fun A B => by
    rw [(times_good (tok A B)).1, mat_len, mat_len, mat_row (by omega)]
    simp only [List.length_map, List.length_range]
    refine mat_congr fun i j hi hj => ?_
    unfold Gf.times
    exact Gf.sm_congr fun k hk => by rw [at2_mat hi hk, at2_mat hk hj]
  have hg := fun i j hi hj => Gf.gauss_times hs (i := i) (j := j) hi hj
  have cg : ∀ (A B : Gf.Mt) i j, i < K → Gf.times K (at2 (mat K K A)) B i j = Gf.times K A B i j := fun A B i j hi => by
    unfold Gf.times; exact Gf.sm_congr fun k hk => by rw [at2_mat hi hk]
  have cg2 : ∀ (A B : Gf.Mt) i j, j < K → Gf.times K B (at2 (mat K K A)) i j = Gf.times K B A i j := fun A B i j hj => by
    unfold Gf.times; exact Gf.sm_congr fun k hk => by rw [at2_mat hk hj]
  rw [i1, i2]
  refine ⟨rfl, rfl, (times_good (tok _ _)).2, ?_, (times_good (tok _ _)).2, ?_⟩
  · rw [tl]
    exact mat_congr fun i j hi hj => by rw [← cg _ _ i j hi, (hg i j hi hj).1]; rfl
  · rw [tl]
    exact mat_congr fun i j hi hj => by rw [← cg2 _ _ i j hj, (hg i j hi hj).2]; rfl
theorem free_one {l : List Nat} {T : Nat} (hl : l.length < T) : ∃ f, f < T ∧ f ∉ l := by
  by_cases h : ∃ f, f < T ∧ f ∉ l
  · exact h
  · have := Gf.len_le_of_sub (l := List.range T) (r := l) List.nodup_range (fun j hj => by
      by_cases e : j ∈ l
      · exact e
      · exact absurd ⟨j, List.mem_range.1 hj, e⟩ h)
    simp at this
    omega

/-! Words of the walk. -/
theorem infoInt : (Tryz.prog.info? 3).map (fun i => (i.zero, i.size, i.bytes)) = some (some (.int .i64 0), 1, 8) := by kernel_rfl
theorem infoBool : (Tryz.prog.info? 4).map (fun i => (i.zero, i.size, i.bytes)) = some (some (.bool false), 1, 1) := by kernel_rfl
def OwnI (w : World) (B : Nat) (a : Option Addr) (n c : Nat) (l : List Nat) : Prop := w.ownsRow B 3 1 (.slice a n c) n (zv (ints l))
theorem OwnI.is {w : World} {B n c : Nat} {a : Option Addr} {l : List Nat} (h : OwnI w B a n c l) (hb : ∀ j ∈ l, j < 1000) : Is w a n c (ints l) := by
  have h1 := h.1
  have h2 := own_cap h
  refine ⟨by simpa [zv] using h1, h2.2.1, h2.2.2, Row.of_own h, fun z hz => ?_⟩
  simp only [ints, List.mem_map] at hz
  obtain ⟨j, hj, rfl⟩ := hz
  have := hb j hj
  exact ⟨by omega, by omega⟩
theorem own_keep {w w' : World} {B e s n : Nat} {v : Value} {cs : List Value} (h : w.ownsRow B e s v n cs) (hb : ∀ g, B ≤ g → w'.heap[g]? = w.heap[g]?) : w'.ownsRow B e s v n cs := by
  refine ⟨h.1, ?_⟩
  rcases h.2 with h | ⟨g, cap, cur, h1, h2, h3, h4⟩
  · exact .inl h
  · exact .inr ⟨g, cap, cur, h1, h2, by rw [hb g h2]; exact h3, h4⟩
/-- Slices in cells that read as rows. -/
def Elems (w : World) (cs : List Value) (ls : List (List UInt8)) : Prop := cs.length = ls.length ∧ ∀ i, i < ls.length → ∃ ai ni ci, cs[i]? = some (.slice ai ni ci) ∧ Bs w ai ni ci (nth ls i)
theorem Elems.below {w w' : World} {cs : List Value} {ls : List (List UInt8)} (h : Elems w cs ls) (hb : Below w.heap.size w w') : Elems w' cs ls :=
  ⟨h.1, fun i hi => by obtain ⟨ai, ni, ci, h1, h2⟩ := h.2 i hi; exact ⟨ai, ni, ci, h1, h2.below hb⟩⟩
theorem Elems.append {w : World} {cs cs2 : List Value} {ls ls2 : List (List UInt8)} (h : Elems w cs ls) (k : Elems w cs2 ls2) : Elems w (cs ++ cs2) (ls ++ ls2) := by
  refine ⟨by simp [h.1, k.1], fun i hi => ?_⟩
  by_cases e : i < ls.length
  · obtain ⟨ai, ni, ci, h1, h2⟩ := h.2 i e
    exact ⟨ai, ni, ci, by rw [List.getElem?_append_left (by rw [h.1]; exact e)]; exact h1, by rw [nth_append_left _ _ e]; exact h2⟩
  · rw [List.length_append] at hi
    obtain ⟨ai, ni, ci, h1, h2⟩ := k.2 (i - ls.length) (by omega)
    refine ⟨ai, ni, ci, by rw [List.getElem?_append_right (by rw [h.1]; omega), h.1]; exact h1, ?_⟩
    rw [nth_eq _ (by rw [List.length_append]; exact hi), List.getElem_append_right (by omega), ← nth_eq]
    exact h2
theorem elems_bss {w : World} {B n c : Nat} {a : Option Addr} {cs : List Value} {ls : List (List UInt8)} (h : OwnV w B a n c cs) (k : Elems w cs ls) : Bss w a n c ls := by
  have hl := h.len
  refine ⟨by rw [← k.1, hl.1], hl.2.1, hl.2.2, fun i hi => ?_⟩
  obtain ⟨ai, ni, ci, h1, h2⟩ := k.2 i (by rw [← k.1, hl.1]; exact hi)
  obtain ⟨b, off, e1, e2⟩ := Row.of_own h i _ h1
  exact ⟨b, off, ai, ni, ci, e1, e2, h2⟩
theorem bss_elems {w : World} {n c : Nat} {a : Option Addr} {ls : List (List UInt8)} (h : Bss w a n c ls) : ∃ cs, Row w a cs ∧ Elems w cs ls ∧ cs.length = n ∧ ∀ u ∈ cs, u.oneCell' = true := by
  obtain ⟨ai, ci, hv⟩ := h.vals
  refine ⟨(List.range n).map fun i => .slice (ai i) (nth ls i).length (ci i), fun j v hj => ?_, ⟨by simp [h.1], fun i hi => ?_⟩, by simp, fun u hu => ?_⟩
  · have hjn : j < n := by
      rcases Nat.lt_or_ge j n with h' | h'
      · exact h'
      · rw [List.getElem?_eq_none (by simp; omega)] at hj; cases hj
    simp [hjn] at hj
    subst hj
    exact (hv j hjn).1
  · rw [h.1] at hi
    exact ⟨ai i, _, ci i, by simp [hi], (hv i hi).2⟩
  · obtain ⟨i, _, rfl⟩ := List.mem_map.1 hu
    rfl
section
variable {w : World} {ops : Array Oper} {rest : List Oper} {o : Oper} {a : Act} {Q : Exit → Act → World → Prop}
theorem app_mat (hgd : Region.wanted o (yielded ops a.tmps) = true) (s x : Operand) (ho : o.op = .call { callee := .builtin .append, args := #[s, x], argTypes := #[97, 97] })
    (B : Nat) {aq : Option Addr} {n c : Nat} {cs : List Value} (hs : a.eval s = .slice aq n c) (hown : OwnV w B aq n c cs)
    {ax : Option Addr} {m cx : Nat} {cs2 : List Value} (hx : a.eval x = .slice ax m cx) (hr : Row w ax cs2) (hl : cs2.length = m) (h1' : ∀ u ∈ cs2, u.oneCell' = true) (hb : n + m ≤ 1000000) (hB : B ≤ w.heap.size)
    (h : ∀ a' c' w', OwnV w' B a' (n + m) c' (cs ++ cs2) → Below B w w' → wpList Tryz.prog ops Q rest (a.put o.dst (.slice a' (n + m) c')) w') : wpList Tryz.prog ops Q (o :: rest) a w := by
  obtain ⟨i, hi, h0, h1, h2⟩ := info_parts infoSs
  refine wpList_app_own hgd s x 97 ho B 25 i (.slice none 0 0) 1 24 Tryz.underlying97 hi h0 h1 h2 rfl (by decide) aq n c cs hs hown ax m cx cs2 hx hr (by rw [hl]; simp) h1' (by omega) (by simp only [maxLen]; omega) hB ?_
  intro a' c' w' g1 g2
  exact h a' c' w' g1 (g2.below hB (fun x hx => by subst hx; exact (World.ownsRow.lt hown x.block rfl).1))
theorem app_int (hgd : Region.wanted o (yielded ops a.tmps) = true) (s x : Operand) (ho : o.op = .call { callee := .builtin .append, args := #[s, x], argTypes := #[26, 26] })
    (B : Nat) {aq : Option Addr} {n c : Nat} {l : List Nat} (hs : a.eval s = .slice aq n c) (hown : OwnI w B aq n c l)
    {k j : Nat} (hx : a.eval x = .slice (some ⟨k, 0, none⟩) 1 1) (hcell : w.cell? ⟨k, 0, none⟩ = some (.int .i64 j)) (hb : n ≤ 1000000) (hB : B ≤ w.heap.size)
    (h : ∀ a' c' w', OwnI w' B a' (n + 1) c' (l ++ [j]) → Below B w w' → wpList Tryz.prog ops Q rest (a.put o.dst (.slice a' (n + 1) c')) w') : wpList Tryz.prog ops Q (o :: rest) a w := by
  obtain ⟨i, hi, h0, h1, h2⟩ := info_parts infoInt
  have hr : Row w (some ⟨k, 0, none⟩) [.int .i64 j] := by
    intro y u hj
    cases y with
    | zero => simp at hj; subst hj; exact ⟨k, 0, rfl, hcell⟩
    | succ y => simp at hj
  refine wpList_app_own hgd s x 26 ho B 3 i (.int .i64 0) 1 8 Tryz.underlying26 hi h0 h1 h2 rfl (by decide) aq n c _ hs hown (some ⟨k, 0, none⟩) 1 1 [.int .i64 j] hx hr (by simp) (by intro u hu; simp at hu; subst hu; rfl) (by omega) (by simp only [maxLen]; omega) hB ?_
  intro a' c' w' g1 g2
  exact h a' c' w' (by unfold OwnI ints zv; simpa [ints, zv] using g1) (g2.below hB (fun x hx => by subst hx; exact (World.ownsRow.lt hown x.block rfl).1))
end
theorem ownV_lit (w : World) : OwnV (w.alloc (.cells #[] 25)) w.heap.size (some ⟨w.heap.size, 0, none⟩) 0 0 [] :=
  ⟨rfl, .inr ⟨w.heap.size, 0, #[], rfl, Nat.le_refl _, heap_alloc_new w _, Nat.le_refl _, by simp [maxLen], rfl, rfl⟩⟩
end Go.Proofs.YtfgifndpglgjkaaGreatDoor
end
