/- Sorted tables, plain: what Build makes, Open reads. -/
import Derived.Test.YtjigfinpbdglnaaGreatDoorZSoD
import Derived.Test.YtjigfinpbdglnaaGreatDoorZSpB
import Derived.Test.YtjigfinpbdglnaaGreatDoorZSbQ
import Derived.Test.YtjigfinpbdglnaaGreatDoorZSbK
import Derived.Test.YtjigfinpbdglnaaGreatDoorZSoQ
set_option linter.unusedVariables false
set_option linter.unusedSimpArgs false
section
set_option maxRecDepth 100000
set_option linter.unusedVariables false
set_option linter.unusedSimpArgs false
namespace Go.Proofs.YtjigfinpbdglnaaGreatDoor
open Go.RowKit

theorem num_low : ∀ k v : Nat, Sst.num (Codec.low k v) = v % 256 ^ k
  | 0, v => by simp [Codec.low, Sst.num, Nat.mod_one]
  | k + 1, v => by
    have e := Nat.mod_mul (x := v) (a := 256) (b := 256 ^ k)
    rw [Codec.low, Sst.num, num_low k (v / 256), UInt8.toNat_ofNat', show 256 ^ (k + 1) = 256 * 256 ^ k by rw [Nat.pow_succ, Nat.mul_comm], e]
theorem num_four' (c : UInt32) : Sst.num (Codec.four c) = c.toNat := by
  rw [← Codec.four_eq, num_low]
  exact Nat.mod_eq_of_lt (by have := c.toNat_lt; omega)
theorem num_low8 {v : Nat} (h : v < 18446744073709551616) : Sst.num (Codec.low 8 v) = v := by
  rw [num_low]; exact Nat.mod_eq_of_lt (by omega)
theorem encs_snoc (ls : List Ent) (e : Ent) : Sst.encs (ls ++ [e]) = Sst.encs ls ++ Sst.ent e := by unfold Sst.encs; simp
theorem drop_snoc {l : List Ent} {i j : Nat} (hi : i < l.length) (hj : j ≤ i) : (l.take (i + 1)).drop j = (l.take i).drop j ++ [nth l i] := by
  rw [take_snoc l hi, List.drop_append_of_le_length (by rw [List.length_take]; omega)]
theorem encs_nil {ls : List Ent} : Sst.encs ls = [] ↔ ls = [] := by
  constructor
  · intro h
    have h1 := encs_four ls
    rw [h] at h1
    rw [List.length_nil] at h1
    exact List.length_eq_zero_iff.1 (by omega)
  · rintro rfl; rfl
section
variable {l : List Ent} {size : Nat}
/-- What Build holds at a place. -/
structure Sst.Hold (l : List Ent) (size i : Nat) : Prop where
  h : ∃ j, j ≤ i ∧ (i = l.length → j = i) ∧ (Sst.upto l size i).pay = Sst.encs ((l.take i).drop j) ∧ (j < i → (Sst.upto l size i).fk = (nth l j).key)
theorem fk_at {i j : Nat} {s : Sst.St} (hi : i < l.length) (hj : j ≤ i) (hp : s.pay = Sst.encs ((l.take i).drop j)) (hf : j < i → s.fk = (nth l j).key) : Sst.fk' s (nth l i) = (nth l j).key := by
  unfold Sst.fk'
  by_cases h : j = i
  · subst h
    rw [if_pos (by rw [hp, encs_nil, List.drop_eq_nil_iff, List.length_take]; omega)]
  · rw [if_neg ?_, hf (by omega)]
    rw [hp, encs_nil, List.drop_eq_nil_iff, List.length_take]
    omega
theorem upto_grow (l : List Ent) (size : Nat) (i : Nat) : ∃ Z, (Sst.upto l size (i + 1)).out = (Sst.upto l size i).out ++ Z := by
  rw [show Sst.upto l size (i + 1) = Sst.step size (decide (i + 1 = l.length)) (Sst.upto l size i) (nth l i) from rfl]
  generalize Sst.upto l size i = s
  unfold Sst.step
  split
  · exact ⟨_, rfl⟩
  · exact ⟨[], (List.append_nil _).symm⟩
theorem upto_front (l : List Ent) (size : Nat) : ∀ d i, ∃ Z, (Sst.upto l size (i + d)).out = (Sst.upto l size i).out ++ Z
  | 0, i => ⟨[], (List.append_nil _).symm⟩
  | d + 1, i => by
    obtain ⟨Z, h⟩ := upto_front l size d i
    obtain ⟨Y, h'⟩ := upto_grow l size (i + d)
    exact ⟨Z ++ Y, by rw [show i + (d + 1) = i + d + 1 by omega, h', h, List.append_assoc]⟩
theorem index_app (x : List Bk) (y : Bk) : Sst.index (x ++ [y]) = Sst.index x ++ Sst.ix y := by unfold Sst.index; simp
/-- The index is no longer than the keys and some. -/
theorem index_le (h : Sst.Ok l) : ∀ i, i ≤ l.length → (Sst.index (Sst.upto l size i).bl).length + (if (Sst.upto l size i).pay = [] then 0 else (Sst.upto l size i).fk.length) ≤ Ent.tot (l.take i) + 30 * i
  | 0, _ => by simp [Sst.upto, Sst.index]
  | i + 1, hi => by
    have h1 := index_le h i (by omega)
    have h4 := Ent.tot_snoc l (i := i) (by omega)
    have h5 := Ent.tot_le l (i + 1)
    have h6 := h.t
    have h7 := h.n
    obtain ⟨s1, s2, _⟩ := upto_small (size := size) h (i := i) (by omega)
    obtain ⟨hu, hk⟩ := h.at (i := i) (by omega)
    have h3 := ent_len hu (by omega)
    have hf : (Sst.fk' (Sst.upto l size i) (nth l i)).length ≤ (if (Sst.upto l size i).pay = [] then 0 else (Sst.upto l size i).fk.length) + (nth l i).key.length := by
      unfold Sst.fk'; split <;> omega
    unfold Sst.upto Sst.step
    generalize Sst.upto l size i = s at *
    have h8 := frame_le (p := s.pay ++ Sst.ent (nth l i)) (by rw [List.length_append]; omega)
    rw [List.length_append] at h8
    generalize hq : Sst.fk' s (nth l i) = q at *
    split
    · rw [index_app, List.length_append]
      have e1 := Codec.enc_len10 (v := q.length) (by omega)
      have e2 := Codec.enc_len10 (v := s.out.length) (by omega)
      have e3 := Codec.enc_len10 (v := (Codec.frame (s.pay ++ Sst.ent (nth l i))).length) (by omega)
      unfold Sst.ix Sst.lp
      simp only [List.length_append, if_true]
      omega
    · simp only
      split <;> omega
theorem fin_len (h : Sst.Ok l) : (Sst.fin l size).length ≤ 500000 ∧ (Sst.upto l size l.length).out.length ≤ 150000 ∧ (Sst.two l size).length ≤ 400000 := by
  have h1 := index_le (size := size) h l.length (Nat.le_refl _)
  obtain ⟨s1, s2, _⟩ := upto_small (size := size) h (i := l.length) (Nat.le_refl _)
  rw [List.take_length] at h1
  have h6 := h.t
  have h7 := h.n
  have h2 := frame_le (p := Sst.index (Sst.upto l size l.length).bl) (by omega)
  have h3 := filter_len l (by omega)
  have h4 := frame_le (p := Sst.filter l) (by omega)
  have h5 := foot_len l size
  have h8 : (Codec.four (Codec.sum (Sst.foot l size))).length = 4 := rfl
  unfold Sst.fin Sst.two
  simp only [List.length_append]
  omega
end
/-- The blocks that Build makes are read. -/
theorem upto_step {l : List Ent} {size A : Nat} {b : List UInt8} (h : Sst.Ok l) (hl : ∀ e ∈ l, ¬ Sst.long e) (hr : Ent.rightB l = true) (hA : A = (Sst.upto l size l.length).out.length) (hb : b.take A = (Sst.upto l size l.length).out) :
    ∀ i, i ≤ l.length → ∃ j, j ≤ i ∧ (i = l.length → j = i) ∧ (Sst.upto l size i).pay = Sst.encs ((l.take i).drop j) ∧ (j < i → (Sst.upto l size i).fk = (nth l j).key) ∧ Sst.Step b A (Sst.upto l size i).out.length (l.take j) (Sst.upto l size i).bl (Sst.blocks b A)
  | 0, _ => ⟨0, Nat.le_refl _, fun _ => rfl, rfl, fun e => by omega, blocks_start b A⟩
  | i + 1, hi => by
    obtain ⟨j, hj, _, hp, hf, hs⟩ := upto_step h hl hr hA hb i (by omega)
    have hk' := fk_at (s := Sst.upto l size i) (by omega) hj hp hf
    have hp' : (Sst.upto l size i).pay ++ Sst.ent (nth l i) = Sst.encs ((l.take (i + 1)).drop j) := by rw [hp, drop_snoc (by omega) hj, encs_snoc]
    obtain ⟨Z, hZ⟩ := upto_front l size (l.length - (i + 1)) (i + 1)
    rw [show i + 1 + (l.length - (i + 1)) = l.length by omega] at hZ
    obtain ⟨s1, s2, _⟩ := upto_small (size := size) h (i := i) (by omega)
    obtain ⟨hu, hkk⟩ := h.at (i := i) (by omega)
    have h3 := ent_len hu (by omega)
    have hpl : ((Sst.upto l size i).pay ++ Sst.ent (nth l i)).length ≤ 67108864 := by rw [List.length_append]; omega
    have hstep : Sst.upto l size (i + 1) = Sst.step size (decide (i + 1 = l.length)) (Sst.upto l size i) (nth l i) := rfl
    rw [hstep] at hZ ⊢
    generalize Sst.upto l size i = s at *
    unfold Sst.step at hZ ⊢
    rw [hp', hk'] at *
    by_cases hc : size ≤ (Sst.encs ((l.take (i + 1)).drop j)).length ∨ decide (i + 1 = l.length) = true
    · rw [if_pos hc] at hZ ⊢
      simp only at hZ ⊢
      have hne : (l.take (i + 1)).drop j ≠ [] := by rw [Ne, List.drop_eq_nil_iff, List.length_take]; omega
      have hfp := Codec.enc_pos (Sst.encs ((l.take (i + 1)).drop j)).length
      have hkA : s.out.length < A := by
        rw [hA, hZ]
        simp only [List.length_append, Codec.frame]
        omega
      have hw : Sst.win b s.out.length A = Codec.frame (Sst.encs ((l.take (i + 1)).drop j)) ++ Z := by
        unfold Sst.win
        rw [← List.drop_take, hb, hZ, List.append_assoc, List.drop_left]
      have hrd := (Codec.decFrame_frame hpl Z).2
      rw [← hw] at hrd
      have hd : Sst.dents (Sst.encs ((l.take (i + 1)).drop j)) = some ((l.take (i + 1)).drop j) := dents_some ⟨(List.append_nil _).symm, fun e he => by
        have hm := List.mem_of_mem_take (List.mem_of_mem_drop he)
        have h9 := hl e hm
        unfold Sst.long at h9
        exact ⟨h.u e hm, by omega, by omega⟩⟩
      have ha : l.take j ++ (l.take (i + 1)).drop j = l.take (i + 1) := by
        have := List.take_append_drop j (l.take (i + 1))
        rwa [List.take_take, Nat.min_eq_left (by omega)] at this
      have hrr : Ent.rightB (l.take j ++ (l.take (i + 1)).drop j) = true := by
        rw [ha]
        cases hx : Ent.rightB (l.take (i + 1)) with
        | true => rfl
        | false =>
          have := Ent.right_front (B := l.drop (i + 1)) hx
          rw [List.take_append_drop, hr] at this
          cases this
      have hn := Sst.Step.next hs hkA hrd hd hne hrr
      rw [ha] at hn
      have hnk : (nth ((l.take (i + 1)).drop j) 0).key = (nth l j).key := by
        rw [nth_eq _ (by rw [List.length_drop, List.length_take]; omega), nth_eq _ (by omega)]
        simp
      rw [hnk] at hn
      refine ⟨i + 1, Nat.le_refl _, fun _ => rfl, ?_, fun e => by omega, ?_⟩
      · rw [List.drop_of_length_le (by rw [List.length_take]; omega)]; rfl
      · rw [List.length_append]; exact hn
    · rw [if_neg hc] at hZ ⊢
      exact ⟨j, by omega, fun e => absurd (.inr (decide_eq_true e)) hc, rfl, fun _ => rfl, hs⟩
theorem opn_fin {l : List Ent} {size : Nat} (h : Sst.Ok l) (hl : ∀ e ∈ l, ¬ Sst.long e) (hr : Ent.rightB l = true) :
    Sst.opn (Sst.fin l size) = .ok (l, (Sst.upto l size l.length).bl) := by
  obtain ⟨f1, f2, f3⟩ := fin_len (size := size) h
  have h7 := h.n
  obtain ⟨A, hA⟩ : ∃ A, A = (Sst.upto l size l.length).out.length := ⟨_, rfl⟩
  obtain ⟨T, hT⟩ : ∃ T, T = (Sst.two l size).length := ⟨_, rfl⟩
  obtain ⟨E, hE⟩ : ∃ E, E = (Sst.two l size ++ Codec.frame (Sst.filter l)).length := ⟨_, rfl⟩
  have p1 := Codec.enc_pos (Sst.index (Sst.upto l size l.length).bl).length
  have p2 := Codec.enc_pos (Sst.filter l).length
  have hAT : A < T := by rw [hA, hT]; unfold Sst.two Codec.frame; simp only [List.length_append]; omega
  have hTE : T < E := by rw [hE, hT]; simp only [List.length_append, Codec.frame]; omega
  have hft := foot_len l size
  have h4 : (Codec.four (Codec.sum (Sst.foot l size))).length = 4 := rfl
  have hlen : (Sst.fin l size).length = E + 28 := by
    have h5 : (Sst.foot l size ++ Codec.four (Codec.sum (Sst.foot l size))).length = 28 := by rw [List.length_append, hft, h4]
    unfold Sst.fin
    rw [List.length_append, h5, hE]
  have hd : (Sst.fin l size).drop E = Sst.foot l size ++ Codec.four (Codec.sum (Sst.foot l size)) := by unfold Sst.fin; rw [hE, List.drop_left]
  have hdk : ∀ k, (Sst.fin l size).drop (E + k) = (Sst.foot l size ++ Codec.four (Codec.sum (Sst.foot l size))).drop k := fun k => by rw [← List.drop_drop, hd]
  have hfo : Sst.foot l size = Codec.low 8 A ++ (Codec.low 8 T ++ Codec.low 8 l.length) := by unfold Sst.foot; rw [hA, hT, List.append_assoc]
  have l8 : ∀ v, (Codec.low 8 v).length = 8 := fun v => Codec.low_len 8 v
  have hs : (Codec.sum (((Sst.fin l size).drop E).take 24)).toNat = Sst.num ((Sst.fin l size).drop (E + 24)) := by
    rw [hd, hdk, List.take_append_of_le_length (by omega), List.take_of_length_le (by omega), ← hft, List.drop_left, num_four']
  have hnA : Sst.num (((Sst.fin l size).drop E).take 8) = A := by
    rw [hd, hfo]
    have e : (Codec.low 8 A ++ (Codec.low 8 T ++ Codec.low 8 l.length) ++ Codec.four (Codec.sum (Codec.low 8 A ++ (Codec.low 8 T ++ Codec.low 8 l.length)))).take 8 = Codec.low 8 A := by
      rw [List.append_assoc, List.take_left' (l8 A)]
    rw [e, num_low8 (by omega)]
  have hnT : Sst.num (((Sst.fin l size).drop (E + 8)).take 8) = T := by
    rw [hdk, hfo]
    have e : ((Codec.low 8 A ++ (Codec.low 8 T ++ Codec.low 8 l.length) ++ Codec.four (Codec.sum (Codec.low 8 A ++ (Codec.low 8 T ++ Codec.low 8 l.length)))).drop 8).take 8 = Codec.low 8 T := by
      rw [List.append_assoc, List.append_assoc]
      rw [List.drop_left' (l8 A), List.take_left' (l8 T)]
    rw [e, num_low8 (by omega)]
  have hnL : Sst.num (((Sst.fin l size).drop (E + 16)).take 8) = l.length := by
    rw [hdk, hfo]
    have e : ((Codec.low 8 A ++ (Codec.low 8 T ++ Codec.low 8 l.length) ++ Codec.four (Codec.sum (Codec.low 8 A ++ (Codec.low 8 T ++ Codec.low 8 l.length)))).drop 16).take 8 = Codec.low 8 l.length := by
      rw [show Codec.low 8 A ++ (Codec.low 8 T ++ Codec.low 8 l.length) ++ Codec.four (Codec.sum (Codec.low 8 A ++ (Codec.low 8 T ++ Codec.low 8 l.length))) = (Codec.low 8 A ++ Codec.low 8 T) ++ (Codec.low 8 l.length ++ Codec.four (Codec.sum (Codec.low 8 A ++ (Codec.low 8 T ++ Codec.low 8 l.length)))) by simp only [List.append_assoc]]
      have e16 : (Codec.low 8 A ++ Codec.low 8 T).length = 16 := by rw [List.length_append, l8, l8]
      rw [List.drop_left' e16, List.take_left' (l8 _)]
    rw [e, num_low8 (by omega)]
  have htA : (Sst.fin l size).take A = (Sst.upto l size l.length).out := by
    unfold Sst.fin Sst.two
    rw [hA]
    simp only [List.append_assoc, List.take_left]
  have htT : (Sst.fin l size).take T = Sst.two l size := by
    unfold Sst.fin
    rw [hT, List.append_assoc, List.take_left]
  have htE : (Sst.fin l size).take E = Sst.two l size ++ Codec.frame (Sst.filter l) := by
    unfold Sst.fin
    rw [hE, List.take_left]
  obtain ⟨j, hj, hjl, _, _, hst⟩ := upto_step (b := Sst.fin l size) h hl hr hA htA l.length (Nat.le_refl _)
  obtain rfl := hjl rfl
  rw [List.take_length] at hst
  have hbl := Sst.Step.done hst (by omega)
  have w1 : Sst.win (Sst.fin l size) A T = Codec.frame (Sst.index (Sst.upto l size l.length).bl) := by
    unfold Sst.win
    rw [← List.drop_take, htT, hA]
    unfold Sst.two
    rw [List.drop_left]
  have w2 : Sst.win (Sst.fin l size) T E = Codec.frame (Sst.filter l) := by
    unfold Sst.win
    rw [← List.drop_take, htE, hT, List.drop_left]
  rw [opn_on hlen hs hnA hnT hAT hTE, hbl]
  simp only
  rw [if_neg (by rw [w1]; simp), if_neg (by rw [w2]; simp), if_neg (by rw [hnL]; simp)]
end Go.Proofs.YtjigfinpbdglnaaGreatDoor
end

section
set_option maxRecDepth 100000
set_option linter.unusedVariables false
set_option linter.unusedSimpArgs false
namespace Go.Proofs.YtjigfinpbdglnaaGreatDoor
open Go.RowKit

set_option maxHeartbeats 4000000 in
theorem rmay_any (af : Option Addr) (nf cf : Nat) (f s : List UInt8) (w : World) (h : Bs w af nf cf f) (hn : 1 ≤ nf) (hnb : nf ≤ 1000000) (hs : s.length ≤ 1000000000) :
    Calls Tryz.prog 14 #[.slice af nf cf, .string (bstr s)] w fun e w' => e = .returned (.bool (Sst.may f s)) ∧ Below w.heap.size w w' := by
  have hfl := h.1
  have hle := h.le
  have HT := Lib.hid h
  have HPC := Lib.hid (fun W : World => rspots_any s (8 * nf) W (by omega) (by omega) hs)
  have HSL : Hid (∀ j, Sst.spot s (8 * nf) j < 8 * nf) := Lib.hid (fun j => spot_lt (by omega))
  have HNO : Hid (∀ k, k < 4 → Sst.bit f (Sst.spot s (8 * nf) k) = false → Sst.may f s = false) := Lib.hid (fun k hk hb => may_no hk (by rw [hfl]; exact hb))
  have HYES : Hid ((∀ k, k < 4 → Sst.bit f (Sst.spot s (8 * nf) k) = true) → Sst.may f s = true) := Lib.hid (fun hb => may_yes (by rw [hfl]; exact hb))
  have HBIT : Hid (∀ p, Sst.bit f p = decide ((nth f (p / 8)).toNat / 2 ^ (p % 8) % 2 = 1)) := Lib.hid (fun p => rfl)
  have HFL := Lib.hid hfl
  clear h hfl
  generalize Sst.spot s (8 * nf) = sp at *
  have e8 : ((8 * nf : Nat) : Int) = 8 * (nf : Int) := by omega
  rw [e8] at HPC
  clear e8
  have hmul : IntKind.i64.wrap (8 * (nf : Int)) = 8 * (nf : Int) := by rw [IntKind.wrap_i64]; omega
  go_enter Tryz.func14, Tryz.ntmps14
  go_wp2_with fail
  refine (HPC.out _).mono ?_
  rintro en w3 ⟨rfl, hb3⟩
  have hr4 := heap_alloc_new w3 (.cells #[.int .i64 (sp 0 : Nat), .int .i64 (sp 1 : Nat), .int .i64 (sp 2 : Nat), .int .i64 (sp 3 : Nat)] 84)
  obtain ⟨w4, hw4⟩ : ∃ w4, w3.alloc (.cells #[.int .i64 (sp 0 : Nat), .int .i64 (sp 1 : Nat), .int .i64 (sp 2 : Nat), .int .i64 (sp 3 : Nat)] 84) = w4 := ⟨_, rfl⟩
  have hb34 : Below w3.heap.size w3 w4 := by rw [← hw4]; exact below_alloc1 _ _
  rw [hw4] at hr4
  have hb04 := hb3.trans (hb34.mono hb3.size)
  have HB3 := Lib.hid hb04
  have HSQ : Hid (∀ k, k < 4 → w4.cell? ⟨w3.heap.size, k, none⟩ = some (.int .i64 (sp k : Nat))) := Lib.hid (fun k hk => (cell_of_row _ _ k _ _ _ hr4).trans (by
    obtain rfl | rfl | rfl | rfl : k = 0 ∨ k = 1 ∨ k = 2 ∨ k = 3 := by omega
    all_goals rfl))
  have HW4 := Lib.hid hw4
  clear hb3 hb34 hb04 hr4 hw4 hmul
  go_upto_region 2 with fail
  rw [HW4.out]
  generalize w3.heap.size = gq at *
  clear HW4
  go_wp2_with fail
  go_loopw [6] (fun kv wr => ∃ k : Nat, k ≤ 4 ∧ kv = .int .i64 k ∧ Hid (∀ j, j < 4 → wr.cell? ⟨gq, j, none⟩ = some (.int .i64 (sp j : Nat))) ∧ Hid (∀ j, j < k → Sst.bit f (sp j) = true) ∧ Hid (Below w.heap.size w wr)) (fun kv _ => 4 - (intOf kv).toNat)
  case atStart => exact ⟨0, by omega, rfl, HSQ, Lib.hid (fun j hj => by omega), HB3⟩
  case round =>
    obtain ⟨k, hk, rfl, HC, HJ, HB⟩ := hrel
    by_cases hlt : k < 4
    · have htk : decide (k < 4) = true := decide_eq_true hlt
      have htk' : decide ((k : Int) < 4) = true := decide_eq_true (by omega)
      have hx := BW.cell (HC.out k hlt)
      have HCD := Lib.hid (fun W (hW : Below wr.heap.size wr W) j (hj : j < 4) => cell_later hW (HC.out j hj))
      have hsl := HSL.out k
      have HBT := Lib.hid (HBIT.out (sp k))
      have HNK := Lib.hid (HNO.out k hlt)
      have HJK : Hid (Sst.bit f (sp k) = true → ∀ j, j < k + 1 → Sst.bit f (sp j) = true) := Lib.hid (fun hb j hj => by
        by_cases e : j = k
        · rw [e]; exact hb
        · exact HJ.out j (by omega))
      generalize sp k = p at *
      obtain ⟨d, hd⟩ : ∃ d, d = p / 8 := ⟨_, rfl⟩
      obtain ⟨r, hr⟩ : ∃ r, r = p % 8 := ⟨_, rfl⟩
      have hr8 : r < 8 := by omega
      have hd8 : d < nf := by omega
      have ed : ((p : Int)) / 8 = (d : Int) := by omega
      have er : ((p : Int)) % 8 = (r : Int) := by omega
      have ed' : Int.tdiv (p : Int) 8 = (d : Int) := by rw [Int.tdiv_eq_ediv_of_nonneg (by omega)]; exact ed
      have er' : Int.tmod (p : Int) 8 = (r : Int) := by rw [Int.tmod_eq_emod_of_nonneg (by omega)]; exact er
      have ew : IntKind.i64.wrap (d : Int) = (d : Int) := by rw [IntKind.wrap_i64]; omega
      have ew2 : IntKind.u64.wrap (r : Int) = (r : Int) := by rw [IntKind.wrap_u64]; omega
      rw [← hd, ← hr] at HBT
      obtain ⟨bf, of, rfl, hcf⟩ := (HT.out.below HB.out).2.2.2 d (.int .u8 (n8 (nth f d))) (by
        unfold vs
        rw [List.getElem?_map, List.getElem?_eq_getElem (by rw [HFL.out]; exact hd8), ← nth_eq _ (by rw [HFL.out]; exact hd8)]
        rfl)
      have hy := BW.cell hcf
      clear hd hr hcf HC
      by_cases hb : (nth f d).toNat / 2 ^ r % 2 = 1
      · have hbt : Sst.bit f p = true := by rw [HBT.out]; exact decide_eq_true hb
        have tt : (bits BinOp.and IntKind.u8 (n8 (nth f d) / 2 ^ r) 1 == 0) = false := by rw [bit_and, hb]; rfl
        have HJ2 := Lib.hid (HJK.out hbt)
        clear hb hbt
        go_wp2_with fail
        refine wp_region_class (w0 := wr) (by kernel_rfl) (by kernel_rfl) (Below.refl _ _) ?_
        repeat (first | go_big_quiet_step (fail))
        refine wpQuiet_nil ?_
        intro w5 hb5; replace hb5 := BW.of hb5
        have HB5 := Lib.hid (HB.out.trans (hb5.mono HB.out.size))
        have HC5 : Hid (∀ j, j < 4 → w5.cell? ⟨gq, j, none⟩ = some (.int .i64 (sp j : Nat))) := Lib.hid (fun j hj => HCD.out w5 hb5 j hj)
        clear hb5 hx hy
        go_wp2
        go_roundw
        case rel => exact ⟨k + 1, by omega, by go_num, HC5, HJ2, HB5⟩
        case measure => simp [intOf]; omega
      · have hbt : Sst.bit f p = false := by rw [HBT.out]; exact decide_eq_false hb
        have hb0 : (nth f d).toNat / 2 ^ r % 2 = 0 := by omega
        have tt : (bits BinOp.and IntKind.u8 (n8 (nth f d) / 2 ^ r) 1 == 0) = true := by rw [bit_and, hb0]; rfl
        have HNN := Lib.hid (HNK.out hbt)
        clear hb hbt hb0
        go_wp2_with fail
        refine wp_region_class (w0 := wr) (by kernel_rfl) (by kernel_rfl) (Below.refl _ _) ?_
        repeat (first | go_big_quiet_step (fail))
        refine wpQuiet_nil ?_
        intro w5 hb5; replace hb5 := BW.of hb5
        have HB5 := Lib.hid (HB.out.trans (hb5.mono HB.out.size))
        clear hb5 hx hy
        go_wp2
        go_ret
        exact ⟨by rw [HNN.out]; rfl, HB5.out⟩
    · obtain rfl : k = 4 := by omega
      have HYY := Lib.hid (HYES.out HJ.out)
      go_wp2
      go_ret
      exact ⟨by rw [HYY.out]; rfl, HB.out⟩
/-! ### Places -/
namespace Ent
theorem lt_trans' {a b c : Ent} (h : lt a b) (k : lt b c) : lt a c := by
  rcases h with h | ⟨h1, h2⟩
  · rcases k with k | ⟨k1, k2⟩
    · exact .inl (klt_trans h k)
    · exact .inl (by rw [← k1]; exact h)
  · rcases k with k | ⟨k1, k2⟩
    · exact .inl (by rw [h1]; exact k)
    · exact .inr ⟨h1.trans k1, by omega⟩
/-- The place of the first entry that is not ahead of a key and a number. -/
def pl (l : List Ent) (key : List UInt8) (up : Nat) : Nat := l.findIdx (fun x => decide (0 ≤ cmp x ⟨key, up, false, []⟩))
theorem pl_le (l : List Ent) (key : List UInt8) (up : Nat) : pl l key up ≤ l.length := List.findIdx_le_length
theorem pl_lo {l : List Ent} {key : List UInt8} {up : Nat} : ∀ i, i < pl l key up → cmp (nth l i) ⟨key, up, false, []⟩ < 0 := by
  intro i hi
  have h := List.not_of_lt_findIdx hi
  have h2 := pl_le l key up
  rw [nth_eq l (by omega)]
  simpa using h
theorem pl_at {l : List Ent} {key : List UInt8} {up : Nat} (h : pl l key up < l.length) : 0 ≤ cmp (nth l (pl l key up)) ⟨key, up, false, []⟩ := by
  have h1 := List.findIdx_getElem (w := h)
  rw [nth_eq l h]
  exact of_decide_eq_true h1
theorem pl_hi {l : List Ent} {key : List UInt8} {up : Nat} (hr : rightB l = true) : ∀ i, pl l key up ≤ i → i < l.length → 0 ≤ cmp (nth l i) ⟨key, up, false, []⟩ := by
  intro i h1 h2
  have h3 := pl_at (l := l) (key := key) (up := up) (by omega)
  generalize pl l key up = p at *
  by_cases e : p = i
  · subst e; exact h3
  · have h4 := lt_of_adj hr (i - p - 1) p (by omega)
    rw [show p + (i - p - 1) + 1 = i by omega] at h4
    rcases cmp_cases (nth l i) ⟨key, up, false, []⟩ with h5 | h5 | h5
    · exfalso
      have h6 := lt_trans' h4 (cmp_lt.1 h5)
      rw [cmp_lt.2 h6] at h3
      omega
    · omega
    · omega
theorem cmp_pos {x : Ent} {key : List UInt8} {up : Nat} (h : 0 ≤ cmp x ⟨key, up, false, []⟩) : klt key x.key = true ∨ x.key = key ∧ x.seq ≤ up := by
  rcases cmp_cases x ⟨key, up, false, []⟩ with h5 | h5 | h5
  · omega
  · rcases klt_total x.key key with h1 | h1 | h1
    · have : cmp x ⟨key, up, false, []⟩ = -1 := cmp_lt.2 (.inl h1)
      omega
    · refine .inr ⟨h1, ?_⟩
      rcases Nat.lt_or_ge up x.seq with h2 | h2
      · have : cmp x ⟨key, up, false, []⟩ = -1 := cmp_lt.2 (.inr ⟨h1, h2⟩)
        omega
      · exact h2
    · exact .inl h1
  · rcases cmp_gt.1 h5 with h1 | ⟨h1, h2⟩
    · exact .inl h1
    · exact .inr ⟨h1.symm, Nat.le_of_lt h2⟩
theorem cmp_neg {x : Ent} {key : List UInt8} {up : Nat} (h : cmp x ⟨key, up, false, []⟩ < 0) : klt x.key key = true ∨ x.key = key ∧ up < x.seq := by
  rcases cmp_cases x ⟨key, up, false, []⟩ with h5 | h5 | h5
  · exact cmp_lt.1 h5
  · omega
  · omega
/-- The newest version stands at the place. -/
theorem firstAt_yes {l : List Ent} {key : List UInt8} {up : Nat} (hp : pl l key up < l.length) (hk : (nth l (pl l key up)).key = key) : firstAt l key up = some (nth l (pl l key up)) := by
  refine find_at hp (fun i hi => ?_) ?_
  · refine decide_eq_false fun ⟨h1, h2⟩ => ?_
    rcases cmp_neg (pl_lo i hi) with h3 | ⟨_, h3⟩
    · rw [h1, klt_irrefl] at h3; cases h3
    · omega
  · refine decide_eq_true ⟨hk, ?_⟩
    rcases cmp_pos (pl_at hp) with h3 | ⟨_, h3⟩
    · rw [hk, klt_irrefl] at h3; cases h3
    · exact h3
theorem firstAt_no {l : List Ent} {key : List UInt8} {up : Nat} (hr : rightB l = true) (hk : pl l key up < l.length → (nth l (pl l key up)).key ≠ key) : firstAt l key up = none := by
  refine find_no (fun i hi => ?_)
  refine decide_eq_false fun ⟨h1, h2⟩ => ?_
  rcases Nat.lt_or_ge i (pl l key up) with h3 | h3
  · rcases cmp_neg (pl_lo i h3) with h4 | ⟨_, h4⟩
    · rw [h1, klt_irrefl] at h4; cases h4
    · omega
  · have h4 : pl l key up < l.length := by omega
    have h5 := hk h4
    rcases cmp_pos (pl_at h4) with h6 | ⟨h6, _⟩
    · by_cases e : pl l key up = i
      · rw [e] at h5; exact h5 h1
      · have h7 := lt_of_adj hr (i - pl l key up - 1) (pl l key up) (by omega)
        rw [show pl l key up + (i - pl l key up - 1) + 1 = i by omega] at h7
        rcases h7 with h8 | ⟨h8, _⟩
        · rw [h1] at h8
          have := klt_trans h6 h8
          rw [klt_irrefl] at this; cases this
        · exact h5 (h8.trans h1)
    · exact h5 h6
theorem fromAt_pl {l : List Ent} {key : List UInt8} (hs : ∀ e ∈ l, e.seq ≤ 18446744073709551615) : fromAt l key = pl l key 18446744073709551615 := by
  unfold fromAt pl
  have h : ∀ e ∈ l, (!klt e.key key) = decide (0 ≤ cmp e ⟨key, 18446744073709551615, false, []⟩) := fun e he => by
    have h1 := hs e he
    cases hk : klt e.key key with
    | true =>
      have h2 : cmp e ⟨key, 18446744073709551615, false, []⟩ = -1 := cmp_lt.2 (.inl hk)
      rw [h2]; rfl
    | false =>
      symm
      refine decide_eq_true ?_
      rcases cmp_cases e ⟨key, 18446744073709551615, false, []⟩ with h5 | h5 | h5
      · rcases cmp_lt.1 h5 with h6 | ⟨_, h6⟩
        · rw [hk] at h6; cases h6
        · have h6' : 18446744073709551615 < e.seq := h6
          omega
      · omega
      · omega
  clear hs
  induction l with
  | nil => rfl
  | cons x l ih =>
    rw [List.findIdx_cons, List.findIdx_cons, h x (by simp), ih (fun e he => h e (by simp [he]))]
end Ent
/-- Get, of a table in order. -/
theorem sget_any {w : World} {bk : Nat} {a : Option Addr} {n c : Nat} {l : List Ent} {m : Nat} {af : Option Addr} {nf cf : Nat} {f : List UInt8} (h : Tb w bk a n c l m af nf cf f) (key : List UInt8) (up : Nat) (hn : n ≤ 1000000000) (hr : Ent.rightB l = true) (hv : ∀ e ∈ l, e.val.length ≤ 1000000000) :
    Calls Tryz.prog 10 #[.pointer (some ⟨bk, 0, none⟩), .string (bstr key), .int .u64 up] w (RNew w (Ent.firstAt l key up)) := by
  have hl := h.es.1
  have hp := Ent.pl_le l key up
  by_cases hy : Ent.pl l key up < l.length ∧ (nth l (Ent.pl l key up)).key = key
  · rw [Ent.firstAt_yes hy.1 hy.2]
    refine (get_yes h key up (Ent.pl l key up) hn (by omega) hy.2 (hv _ (by rw [nth_eq _ hy.1]; exact List.getElem_mem _)) Ent.pl_lo (fun i h1 h2 => Ent.pl_hi hr i h1 (by omega))).mono ?_
    rintro e w' ⟨a1, c1, rfl, h1, h2⟩
    exact ⟨h2, a1, c1, rfl, h1.bs⟩
  · have hk : Ent.pl l key up < l.length → (nth l (Ent.pl l key up)).key ≠ key := fun h1 h2 => hy ⟨h1, h2⟩
    rw [Ent.firstAt_no hr hk]
    refine (get_no h key up (Ent.pl l key up) hn (by omega) (fun h1 => hk (by omega)) Ent.pl_lo (fun i h1 h2 => Ent.pl_hi hr i h1 (by omega))).mono ?_
    rintro e w' ⟨rfl, h2⟩
    exact ⟨h2, rfl⟩
end Go.Proofs.YtjigfinpbdglnaaGreatDoor
end

section
set_option maxRecDepth 100000
set_option linter.unusedVariables false
set_option linter.unusedSimpArgs false
namespace Go.Proofs.YtjigfinpbdglnaaGreatDoor
open Go.RowKit

def celS : Cel (List UInt8) where
  f := fun k => [.string (bstr k)]
  s := 1
  len := fun _ => rfl
  one := fun x u hu => by simp only [List.mem_singleton] at hu; subst hu; rfl
theorem infoS : (Tryz.prog.info? 9).map (fun i => (i.zero, i.size, i.bytes)) = some (some (.string ByteArray.empty), 1, 16) := by kernel_rfl
abbrev AccS := Acc celS 9
theorem celS_two (x y : List UInt8) : [x, y].flatMap celS.f = [.string (bstr x), .string (bstr y)] := rfl
theorem AccS.two (w : World) (x y : List UInt8) : AccS (w.alloc (.cells #[.string (bstr x), .string (bstr y)] 9)) w.heap.size (some ⟨w.heap.size, 0, none⟩) 2 2 [x, y] := by
  refine ⟨rfl, ⟨rfl, .inr ⟨w.heap.size, 2, _, rfl, Nat.le_refl _, heap_alloc_new w _, Nat.le_refl _, by simp [maxLen], rfl, rfl⟩⟩⟩
section
variable {w : World} {ops : Array Oper} {rest : List Oper} {o : Oper} {a : Act} {Q : Exit → Act → World → Prop}
/-- append of strings. -/
theorem app_strs (hgd : Region.wanted o (yielded ops a.tmps) = true) (s x : Operand) (ho : o.op = .call { callee := .builtin .append, args := #[s, x], argTypes := #[35, 35] })
    (B : Nat) {aq : Option Addr} {n c : Nat} {l : List (List UInt8)} (hs : a.eval s = .slice aq n c) (hacc : AccS w B aq n c l)
    {ax : Option Addr} {m cx : Nat} {es : List (List UInt8)} (hx : a.eval x = .slice ax m cx) (hm : es.length = m) (hr : Row w ax (es.flatMap celS.f)) (hb : n ≤ 1000000) (hb2 : m ≤ 1000) (hB : B ≤ w.heap.size)
    (h : ∀ a' c' w', AccS w' B a' (n + m) c' (l ++ es) → Below B w w' → wpList Tryz.prog ops Q rest (a.put o.dst (.slice a' (n + m) c')) w') : wpList Tryz.prog ops Q (o :: rest) a w := by
  obtain ⟨i, hi, h0, h1, h2⟩ := info_parts infoS
  refine wpList_app_own hgd s x 35 ho B 9 i (.string ByteArray.empty) 1 16 Tryz.underlying35 hi h0 h1 h2 rfl (by decide) aq n c (l.flatMap celS.f) hs hacc.2 ax m cx (es.flatMap celS.f) hx hr (by rw [flat_len, hm]; rfl) (fun u hu => by
    obtain ⟨e, _, he⟩ := List.mem_flatMap.1 hu
    exact celS.one e u he) (by omega) (by simp only [maxLen]; omega) hB ?_
  intro a' c' w' g1 g2
  refine h a' c' w' ⟨by rw [List.length_append, hacc.1, hm], by rw [List.flatMap_append]; exact g1⟩ (g2.below hB (fun x hx => by subst hx; exact (World.ownsRow.lt hacc.2 x.block rfl).1))
end
section
variable {w : World} {o : Oper} {a : Act} {K : Act → World → Prop} {Q : Exit → Act → World → Prop}
theorem step_app_strs (s x : Operand) (ho : o.op = .call { callee := .builtin .append, args := #[s, x], argTypes := #[35, 35] })
    (B : Nat) {aq : Option Addr} {n c : Nat} {l : List (List UInt8)} (hs : a.eval s = .slice aq n c) (hacc : AccS w B aq n c l)
    {ax : Option Addr} {m cx : Nat} {es : List (List UInt8)} (hx : a.eval x = .slice ax m cx) (hm : es.length = m) (hr : Row w ax (es.flatMap celS.f)) (hb : n ≤ 1000000) (hb2 : m ≤ 1000) (hB : B ≤ w.heap.size)
    (h : ∀ a' c' w', AccS w' B a' (n + m) c' (l ++ es) → Below B w w' → K (a.put o.dst (.slice a' (n + m) c')) w') : o.wp Tryz.prog a w K Q := by
  obtain ⟨i, hi, h0, h1, h2⟩ := info_parts infoS
  obtain ⟨a', c', w', hr', g1, g2⟩ := run_append_own' (P := Tryz.prog) w B 35 o.type 9 i (.string ByteArray.empty) 1 16 Tryz.underlying35 hi h0 h1 h2 rfl (by decide) aq n c (l.flatMap celS.f) hacc.2 ax m cx (es.flatMap celS.f) (by rw [flat_len, hm]; rfl) hr (fun u hu => by
    obtain ⟨e, _, he⟩ := List.mem_flatMap.1 hu
    exact celS.one e u he) (by omega) (by simp only [maxLen]; omega) hB
  unfold Oper.wp execOp
  simp only [ho, resolve, invoke, builtin, Sem.run_bind, Sem.run_pure, Result.andThen_ok, List.map_toArray, List.map_cons, List.map_nil, hs, hx, hr']
  exact h a' c' w' ⟨by rw [List.length_append, hacc.1, hm], by rw [List.flatMap_append]; exact g1⟩ (g2.below hB (fun x hx => by subst hx; exact (World.ownsRow.lt hacc.2 x.block rfl).1))
end
theorem row_two (w : World) (x y : List UInt8) : Row (w.alloc (.cells #[.string (bstr x), .string (bstr y)] 9)) (some ⟨w.heap.size, 0, none⟩) ([x, y].flatMap celS.f) := fun j v hj => ⟨w.heap.size, 0, rfl, by
  rw [cell_of_row _ _ _ _ _ _ (heap_alloc_new w _), Nat.zero_add]
  rw [celS_two] at hj
  simpa using hj⟩
/-- The keys that are asked. -/
def Sst.asks (l : List Ent) (key : List UInt8) : Nat → List (List UInt8)
  | 0 => [key, []]
  | i + 1 => Sst.asks l key i ++ [(nth l i).key, (nth l i).key ++ [120]]
theorem asks_len (l : List Ent) (key : List UInt8) : ∀ i, (Sst.asks l key i).length = 2 + 2 * i
  | 0 => rfl
  | i + 1 => by rw [Sst.asks, List.length_append, asks_len l key i]; simp; omega
theorem asks_short {l : List Ent} {key : List UInt8} {M : Nat} (hk : key.length ≤ M) (hl : ∀ e ∈ l, e.key.length + 1 ≤ M) : ∀ i, i ≤ l.length → ∀ x ∈ Sst.asks l key i, x.length ≤ M
  | 0, _, x, hx => by
    simp only [Sst.asks, List.mem_cons, List.not_mem_nil, or_false] at hx
    rcases hx with rfl | rfl
    · exact hk
    · simp
  | i + 1, hi, x, hx => by
    rw [Sst.asks] at hx
    rcases List.mem_append.1 hx with hx | hx
    · exact asks_short hk hl i (by omega) x hx
    · have h1 := hl (nth l i) (by rw [nth_eq _ (by omega)]; exact List.getElem_mem _)
      simp only [List.mem_cons, List.not_mem_nil, or_false] at hx
      rcases hx with rfl | rfl
      · omega
      · simp; omega
end Go.Proofs.YtjigfinpbdglnaaGreatDoor
end
