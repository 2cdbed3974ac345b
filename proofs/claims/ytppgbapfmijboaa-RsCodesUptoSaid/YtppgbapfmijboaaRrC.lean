/- rs, plain: the shards that hold the bytes are mended also where all are there. -/
import Derived.Test.YtppgbapfmijboaaRrB
set_option maxRecDepth 100000
set_option linter.unusedVariables false
set_option linter.unusedSimpArgs false
namespace Go.Proofs.Ytppgbapfmijboaa
open Go.RowKit Go.Deep

theorem rows_full {K M : Nat} {ls : List (List UInt8)} (hl : ls.length = K + M) (h : Rs.full (ls.take K) = true) : Rs.rows K ls = List.range K := by
  have h1 : Rs.thr ls K = List.range K := by
    unfold Rs.thr
    rw [List.filter_eq_self]
    intro j hj
    have hj := List.mem_range.1 hj
    have := full_at h (k := j) (by rw [List.length_take]; omega)
    rw [nth_take ls hj (by omega)] at this
    simpa using (by omega : 0 < (nth ls j).length)
  unfold Rs.rows
  rw [hl]
  unfold Rs.thr at h1 ⊢
  rw [List.range_add, List.filter_append, h1, List.take_append_of_le_length (by simp), List.take_of_length_le (by simp)]
theorem range_getD {K i : Nat} (h : i < K) : (List.range K).getD i 0 = i := by
  rw [List.getD_eq_getElem?_getD, List.getElem?_eq_getElem (by simpa using h)]; simp
theorem whole_mend {K M m : Nat} {ls : List (List UInt8)} (hK : 1 ≤ K) (hM : K + M ≤ 255) (hl : ls.length = K + M) (hsc : Rs.sc ls = some m) (hlo : Rs.lostB K ls = false) :
    Rs.whole K M ls = mat K m (Rs.tm (Gf.invL (Rs.part K M (Rs.rows K ls))) (Rs.got ls (Rs.rows K ls)) K) := by
  obtain ⟨r1, r2, r3⟩ := rows_facts' hl hlo
  have hgot : ∀ i, i < K → nth (Rs.got ls (Rs.rows K ls)) i = nth ls ((Rs.rows K ls).getD i 0) := fun i hi => got_rowS (by omega)
  have hmem : ∀ i, i < K → (Rs.rows K ls).getD i 0 ∈ Rs.rows K ls := fun i hi => by
    rw [List.getD_eq_getElem?_getD, List.getElem?_eq_getElem (by omega)]
    exact List.getElem_mem _
  have hlen : ∀ i, i < K → (nth ls ((Rs.rows K ls).getD i 0)).length = m := fun i hi => by
    have h5 := r3 _ (hmem i hi)
    have := sc_len hsc (i := (Rs.rows K ls).getD i 0) (by rw [hl]; exact h5.1)
    omega
  unfold Rs.whole
  by_cases hf : Rs.full (ls.take K) = true
  · rw [if_pos hf]
    have hr := rows_full hl hf
    obtain ⟨s, hs, hinv, _⟩ := part_inv hK hM r1 r2 (fun j hj => (r3 j hj).1)
    rw [hinv]
    refine list_ext_n (by rw [List.length_take, mat_len]; omega) fun i hi => ?_
    rw [List.length_take] at hi
    have hiK : i < K := by omega
    rw [nth_take ls hiK (by omega), mat_row hiK]
    have hli := hlen i hiK
    rw [hr, range_getD hiK] at hli
    refine list_ext_n (by simp [hli]) fun x hx => ?_
    rw [hli] at hx
    rw [nth_map_range _ hx]
    have e1 : Rs.tm (mat K K s.2) (Rs.got ls (Rs.rows K ls)) K i x = Gf.ap K s.2 (fun q => at2 ls q x) i :=
      Gf.sm_congr fun q hq => by
        unfold Rs.term
        rw [at2_mat hiK hq]
        unfold at2
        rw [hgot q hq, hr, range_getD hq]
    have e2 : Gf.ap K s.2 (fun q => at2 ls q x) i = Gf.ap K s.2 (Gf.ap K (at2 (Rs.part K M (Rs.rows K ls))) (fun j => at2 ls j x)) i :=
      Gf.ap_congr (fun _ _ => rfl) fun q hq => by
        unfold Gf.ap
        rw [Gf.sm_only hq (fun j hj hne => by
          unfold Rs.part
          rw [at2_mat hq hj, hr, range_getD hq, stack_at (by omega) hj, if_pos hq]
          unfold Gf.idm
          rw [if_neg (fun e => hne e.symm), Gf.zero_mul])]
        unfold Rs.part
        rw [at2_mat hq hq, hr, range_getD hq, stack_at (by omega) hq, if_pos hq]
        unfold Gf.idm
        rw [if_pos rfl, Gf.one_mul]
    rw [e1, e2, Gf.gauss_left hs _ hiK]
    rfl
  · rw [if_neg hf]
    unfold Rs.mend
    rw [hgot 0 hK, hlen 0 hK]
end Go.Proofs.Ytppgbapfmijboaa
