/- rs, the plain laws: any K shards tell all. -/
import Derived.Test.YtppgbapfmijboaaRsL
import Derived.Test.YtppgbapfmijboaaRsN
set_option maxRecDepth 100000
set_option linter.unusedVariables false
namespace Go.Proofs.Ytppgbapfmijboaa
open Go.RowKit Go.Deep

theorem sc_two : ∀ (ls : List (List UInt8)) (C : Nat), (∀ l ∈ ls, l.length = 0 ∨ l.length = C) → 0 < C → ∀ x, x = 0 ∨ x = C → ∃ y, ls.foldl Rs.sc1 (some x) = some y ∧ (y = 0 ∨ y = C)
  | [], C, _, _, x, hx => ⟨x, rfl, hx⟩
  | l :: ls, C, h, hC, x, hx => by
    have hl := h l (by simp)
    have : Rs.sc1 (some x) l = some (max x l.length) := by
      simp only [Rs.sc1]
      rw [if_neg (by omega)]
    rw [List.foldl_cons, this]
    exact sc_two ls C (fun l hl => h l (by simp [hl])) hC _ (by omega)

/-- Some of the shards of some bytes. -/
structure Sub (K M : Nat) (d : List UInt8) (l : List (List UInt8)) : Prop where
  len : l.length = K + M
  at_ : ∀ i, i < K + M → nth l i = [] ∨ nth l i = nth (Rs.all K M d) i
theorem all_row {K M : Nat} {d : List UInt8} {i : Nat} (h : i < K + M) : nth (Rs.all K M d) i = (List.range (Rs.wd K d.length)).map (Rs.enc K M d i) := mat_row h
theorem all_len {K M : Nat} {d : List UInt8} {i : Nat} (h : i < K + M) : (nth (Rs.all K M d) i).length = Rs.wd K d.length := by rw [all_row h]; simp
namespace Sub
variable {K M : Nat} {d : List UInt8} {l : List (List UInt8)}
theorem lens (h : Sub K M d l) {i : Nat} (hi : i < K + M) : (nth l i).length = 0 ∨ (nth l i).length = Rs.wd K d.length := by
  rcases h.at_ i hi with e | e
  · left; rw [e]; rfl
  · right; rw [e, all_len hi]
theorem there (h : Sub K M d l) {i : Nat} (hi : i < K + M) (hp : 0 < (nth l i).length) : nth l i = nth (Rs.all K M d) i := by
  rcases h.at_ i hi with e | e
  · rw [e] at hp; simp at hp
  · exact e
theorem sc (h : Sub K M d l) : ∃ y, Rs.alk (K + M) l = some y ∧ (∀ i, i < K + M → 0 < (nth l i).length → y = Rs.wd K d.length) ∧ y ≤ Rs.wd K d.length := by
  obtain ⟨y, h1, h2⟩ := sc_two l (Rs.wd K d.length) (fun x hx => by
    obtain ⟨i, hi, rfl⟩ := List.getElem_of_mem hx
    rw [← nth_eq]
    exact h.lens (by rw [← h.len]; exact hi)) (wd_pos _ _) 0 (.inl rfl)
  have h3 : Rs.sc l = some y := h1
  refine ⟨y, by unfold Rs.alk; rw [if_pos h.len, h3], fun i hi hp => ?_, by omega⟩
  have := sc_len h3 (i := i) (by rw [h.len]; exact hi)
  have := h.lens hi
  omega
end Sub
theorem enc_stack {K M : Nat} {d : List UInt8} {r x : Nat} (hr : r < K + M) (hx : x < Rs.wd K d.length) : Rs.enc K M d r x = Gf.sm K (fun j => Gf.mul (at2 (Gf.stack K M) r j) (Rs.enc K M d j x)) := by
  by_cases e : r < K
  · rw [Gf.sm_only e (fun j hj hne => by rw [stack_at hr hj, if_pos e, Gf.idm_ne (Ne.symm hne), Gf.zero_mul])]
    rw [stack_at hr e, if_pos e]
    simp [Gf.idm, Gf.one_mul]
  · obtain ⟨t, rfl⟩ : ∃ t, r = K + t := ⟨r - K, by omega⟩
    rw [enc_hi (by omega) hx]
    exact Gf.sm_congr fun j hj => by rw [stack_at hr hj, if_neg e, cau_inv, ← UInt8.ofNat_add]
theorem rows_facts {K M : Nat} {l : List (List UInt8)} (hl : l.length = K + M) (h : Rs.lostB K l = false) :
    (Rs.rows K l).length = K ∧ (Rs.rows K l).Nodup ∧ ∀ j ∈ Rs.rows K l, j < K + M ∧ 0 < (nth l j).length := by
  have h1 : ¬ (Rs.thr l l.length).length < K := of_decide_eq_false h
  refine ⟨by unfold Rs.rows; rw [List.length_take]; omega, ?_, fun j hj => ?_⟩
  · unfold Rs.rows
    exact (thr_nodup _ _).sublist (List.take_sublist _ _)
  · have := thr_mem (List.mem_of_mem_take hj)
    rw [hl] at this
    exact this
theorem got_row {l : List (List UInt8)} {r : List Nat} {i : Nat} (hi : i < r.length) : nth (Rs.got l r) i = nth l (r.getD i 0) := by
  unfold Rs.got
  rw [nth_eq _ (by simpa using hi), List.getElem_map, List.getD_eq_getElem?_getD, List.getElem?_eq_getElem hi]
  rfl
/-- What is mended is what was there. -/
theorem mend_is {K M : Nat} {d : List UInt8} {l : List (List UInt8)} (hK : 1 ≤ K) (hM : K + M ≤ 255) (h : Sub K M d l) (hlost : Rs.lostB K l = false) :
    Rs.mend K M l = mat K (Rs.wd K d.length) (Rs.enc K M d) := by
  obtain ⟨r1, r2, r3⟩ := rows_facts h.len hlost
  obtain ⟨s, hs, hinv, _⟩ := part_inv hK hM r1 r2 (fun j hj => (r3 j hj).1)
  have hmem : ∀ i, i < K → (Rs.rows K l).getD i 0 ∈ Rs.rows K l := fun i hi => by
    rw [List.getD_eq_getElem?_getD, List.getElem?_eq_getElem (by omega)]
    exact List.getElem_mem _
  have hgot : ∀ i, i < K → nth (Rs.got l (Rs.rows K l)) i = (List.range (Rs.wd K d.length)).map (Rs.enc K M d ((Rs.rows K l).getD i 0)) := fun i hi => by
    rw [got_row (by omega), h.there (r3 _ (hmem i hi)).1 (r3 _ (hmem i hi)).2, all_row (r3 _ (hmem i hi)).1]
  unfold Rs.mend
  rw [hgot 0 (by omega), List.length_map, List.length_range, hinv]
  refine mat_congr fun q x hq hx => ?_
  have e1 : Rs.tm (mat K K s.2) (Rs.got l (Rs.rows K l)) K q x = Gf.ap K s.2 (fun i => Rs.enc K M d ((Rs.rows K l).getD i 0) x) q :=
    Gf.sm_congr fun i hi => by
      unfold Rs.term
      rw [at2_mat hq hi]
      unfold at2
      rw [hgot i hi, nth_map_range _ hx]
  have e2 : Gf.ap K s.2 (fun i => Rs.enc K M d ((Rs.rows K l).getD i 0) x) q = Gf.ap K s.2 (Gf.ap K (at2 (Rs.part K M (Rs.rows K l))) (fun j => Rs.enc K M d j x)) q :=
    Gf.ap_congr (fun _ _ => rfl) fun i hi => by
      rw [enc_stack (r3 _ (hmem i hi)).1 hx]
      exact Gf.sm_congr fun j hj => by unfold Rs.part; rw [at2_mat hi hj]
  rw [e1, e2, Gf.gauss_left hs _ hq]
theorem whole_is {K M : Nat} {d : List UInt8} {l : List (List UInt8)} (hK : 1 ≤ K) (hM : K + M ≤ 255) (h : Sub K M d l) (hlost : Rs.lostB K l = false) :
    Rs.whole K M l = mat K (Rs.wd K d.length) (Rs.enc K M d) := by
  unfold Rs.whole
  by_cases hf : Rs.full (l.take K) = true
  · rw [if_pos hf]
    have hlen : (l.take K).length = K := by rw [List.length_take, h.len]; omega
    refine list_ext_n (by rw [hlen, mat_len]) fun i hi => ?_
    rw [hlen] at hi
    have h1 := full_at hf (k := i) (by omega)
    have hil : i < l.length := by rw [h.len]; omega
    rw [nth_take l hi hil] at h1 ⊢
    rw [h.there (by omega) (by omega), all_row (by omega), mat_row hi]
  · rw [if_neg hf]; exact mend_is hK hM h hlost

/-! Repair, Decode. -/
def Rs.errS (K M : Nat) (ls : List (List UInt8)) : Int := match Rs.alk (K + M) ls with
  | none => 1
  | some _ => if Rs.lostB K ls = true then 16 else 0
def Rs.both (K M : Nat) (ls : List (List UInt8)) : List (List UInt8) := Rs.whole K M ls ++ Rs.parL K M (Rs.whole K M ls)
def Rs.repAt (K M : Nat) (ls : List (List UInt8)) (i : Nat) : List UInt8 := if 0 < (nth ls i).length then nth ls i else nth (Rs.both K M ls) i
def Rs.repL (K M : Nat) (ls : List (List UInt8)) : List (List UInt8) := if Rs.errS K M ls = 0 then (List.range (K + M)).map (Rs.repAt K M ls) else []
def Rs.decE (K M : Nat) (size : Int) (ls : List (List UInt8)) : Int := match Rs.alk (K + M) ls with
  | none => 1
  | some m => if size < 0 ∨ ((K * m : Nat) : Int) < size then 1 else if Rs.lostB K ls = true then 16 else 0
def Rs.decL (K M : Nat) (size : Int) (ls : List (List UInt8)) : List UInt8 := if Rs.decE K M size ls = 0 then (Rs.whole K M ls).flatten.take size.toNat else []

theorem mat_append {n m C : Nat} {Z : Nat → Nat → UInt8} : mat n C Z ++ mat m C (fun i j => Z (n + i) j) = mat (n + m) C Z := by
  have h1 := mat_take (m := n + m) (C := C) (Z := Z) (show n ≤ n + m by omega)
  have h2 := mat_drop n m C Z
  rw [← h1, ← h2, List.take_append_drop]
theorem both_is {K M : Nat} {d : List UInt8} {l : List (List UInt8)} (hK : 1 ≤ K) (hM : K + M ≤ 255) (h : Sub K M d l) (hlost : Rs.lostB K l = false) : Rs.both K M l = Rs.all K M d := by
  unfold Rs.both
  rw [whole_is hK hM h hlost, parL_mat (by omega) (wd_pos _ _)]
  unfold Rs.all
  rw [← mat_append]
  congr 1
  exact mat_congr fun i j hi hj => (enc_hi hi hj).symm
theorem rep_is {K M : Nat} {d : List UInt8} {l : List (List UInt8)} (hK : 1 ≤ K) (hM : K + M ≤ 255) (h : Sub K M d l) (hlost : Rs.lostB K l = false) : Rs.errS K M l = 0 ∧ Rs.repL K M l = Rs.all K M d := by
  obtain ⟨y, hy, _⟩ := h.sc
  have he : Rs.errS K M l = 0 := by unfold Rs.errS; rw [hy]; simp [hlost]
  refine ⟨he, ?_⟩
  unfold Rs.repL
  rw [if_pos he]
  refine list_ext_n (by simp [Rs.all, mat_len]) fun i hi => ?_
  have hi' : i < K + M := by simpa using hi
  rw [nth_map_range _ hi']
  unfold Rs.repAt
  split
  · rename_i hp; exact h.there hi' hp
  · rw [both_is hK hM h hlost]
theorem flat_mat (g : Nat → UInt8) (W : Nat) : ∀ K, (mat K W (fun i j => g (i * W + j))).flatten = (List.range (K * W)).map g
  | 0 => by simp [mat]
  | K + 1 => by
    have ih := flat_mat g W K
    unfold mat at *
    rw [List.range_succ, List.map_append, List.flatten_append, ih, Nat.add_mul, Nat.one_mul, List.range_add, List.map_append, List.map_map]
    simp
theorem data_flat {K M : Nat} {d : List UInt8} : (mat K (Rs.wd K d.length) (Rs.enc K M d)).flatten = (List.range (K * Rs.wd K d.length)).map (nth d) := by
  rw [← flat_mat (nth d) (Rs.wd K d.length) K]
  congr 1
  exact mat_congr fun i j hi hj => by rw [enc_lo hi]; rfl
theorem pad_take {d : List UInt8} {n : Nat} (h : d.length ≤ n) : ((List.range n).map (nth d)).take d.length = d := by
  refine list_ext_n (by simp; omega) fun k hk => ?_
  have hk' : k < d.length := by simp at hk; omega
  rw [nth_take _ hk' (by simp; omega), nth_map_range _ (by omega)]
theorem dec_is {K M : Nat} {d : List UInt8} {l : List (List UInt8)} (hK : 1 ≤ K) (hM : K + M ≤ 255) (h : Sub K M d l) (hlost : Rs.lostB K l = false) : Rs.decE K M d.length l = 0 ∧ Rs.decL K M d.length l = d := by
  obtain ⟨y, hy, hyw, _⟩ := h.sc
  obtain ⟨r1, _, r3⟩ := rows_facts h.len hlost
  have hpos : 0 < (Rs.rows K l).length := by omega
  have hm := r3 _ (List.getElem_mem hpos)
  have hyW := hyw _ hm.1 hm.2
  have hw := wd_le (n := d.length) hK
  have he : Rs.decE K M d.length l = 0 := by
    unfold Rs.decE
    rw [hy]
    simp only [hlost, Bool.false_eq_true, if_false]
    rw [if_neg]
    rw [hyW]
    omega
  refine ⟨he, ?_⟩
  unfold Rs.decL
  rw [if_pos he, whole_is hK hM h hlost, data_flat]
  exact pad_take hw
end Go.Proofs.Ytppgbapfmijboaa
