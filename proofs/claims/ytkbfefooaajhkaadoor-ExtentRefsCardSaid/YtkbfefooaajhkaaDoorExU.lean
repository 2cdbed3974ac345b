/- Extents: plain laws of the statements: references, what is freed, what is spoilt. No program is walked. -/
import Derived.Test.YtkbfefooaajhkaaDoorExT
import Derived.Test.YtkbfefooaajhkaaDoorCodecP
set_option linter.unusedVariables false
set_option linter.unusedSimpArgs false
namespace Go.Proofs.YtkbfefooaajhkaaDoor
open Go.RowKit

theorem other_key {id id' : Nat} (h1 : U64 id) (h2 : U64 id') (hne : id ≠ id') {x y : List UInt8} (hx : Ex.of id x = true) (hy : Ex.of id' y = true) : x ≠ y := fun e => by
  have := of_other h1 h2 hne hx
  rw [e, hy] at this
  cases this
theorem holds_keep {L ws : List Wr} {id C R : Nat} {data : List UInt8} (h : Holds L id data C R) (hw : ∀ x ∈ ws, x.key ≠ Ex.key id) : Holds (Kv.does L ws) id data C R :=
  ⟨h.c1, h.c2, h.sz, h.rf, by rw [get_notin ws L _ hw]; exact h.hd⟩
theorem chunk_keep {L ws : List Wr} {id C k : Nat} {data : List UInt8} (h : ChunkIs L id data C k) (hw : ∀ x ∈ ws, x.key ≠ Ex.ck id k) : ChunkIs (Kv.does L ws) id data C k := by
  unfold ChunkIs
  rw [get_notin ws L _ hw]
  exact h
/-! References. -/
theorem ref_is {L : List Wr} {id C R : Nat} {data : List UInt8} {z : Int} (h : Holds L id data C R) (h1 : 0 ≤ (R : Int) + z) (h2 : (R : Int) + z ≤ 1073741824) : Ex.ref L id z = (Ex.refs (Hd.mk' data C R) id z, 0) := by
  unfold Ex.ref
  rw [h.look]
  exact refOf_ok id z (by show ¬ (z < -(R : Int) ∨ 1073741824 - (R : Int) < z); omega)
theorem ref_not {L : List Wr} {id C R : Nat} {data : List UInt8} {z : Int} (h : Holds L id data C R) (h1 : (R : Int) + z < 0) : Ex.ref L id z = ([], 1) := by
  unfold Ex.ref
  rw [h.look]
  exact refOf_arg id z (by show z < -(R : Int) ∨ 1073741824 - (R : Int) < z; omega)
theorem refs_keys {hd : Hd} {id : Nat} {z : Int} {x : Wr} (hx : x ∈ Ex.refs hd id z) : x.key = Ex.key id ∨ x.key = Ex.mark id := by
  unfold Ex.refs at hx
  rcases List.mem_cons.1 hx with rfl | hx
  · exact .inl rfl
  · right
    split at hx
    · obtain rfl : x = _ := by simpa using hx
      rfl
    · split at hx
      · obtain rfl : x = _ := by simpa using hx
        rfl
      · simp at hx
theorem refs_len (hd : Hd) (id : Nat) (z : Int) : (Ex.refs hd id z).length ≤ 2 := by
  unfold Ex.refs
  rw [List.length_cons]
  split
  · simp
  · split <;> simp
theorem refs_of {hd : Hd} {id : Nat} {z : Int} {x : Wr} (hx : x ∈ Ex.refs hd id z) : Ex.of id x.key = true := by
  rcases refs_keys hx with h | h
  · rw [h]; exact of_key id
  · rw [h]; exact of_mark id
theorem refs_holds {L : List Wr} {id C R R' : Nat} {data : List UInt8} {z : Int} (h : Holds L id data C R) (hR : (R : Int) + z = R') (hR2 : R' ≤ 1073741824) :
    Holds (Kv.does L (Ex.refs (Hd.mk' data C R) id z)) id data C R' ∧ (∀ k, ChunkIs L id data C k → ChunkIs (Kv.does L (Ex.refs (Hd.mk' data C R) id z)) id data C k) ∧
    Kv.get (Kv.does L (Ex.refs (Hd.mk' data C R) id z)) (Ex.mark id) = if R' = 0 then some [] else if R = 0 then none else Kv.get L (Ex.mark id) := by
  have e1 : (Ex.newRefs (Hd.mk' data C R) z) = Hd.mk' data C R' := by
    unfold Ex.newRefs Hd.mk'
    congr 1
    show ((R : Int) + z).toNat = R'
    omega
  have e2 : Ex.refs (Hd.mk' data C R) id z = ⟨Ex.key id, false, (Hd.mk' data C R').bytes⟩ :: (if R' = 0 then [⟨Ex.mark id, false, []⟩] else if R = 0 then [⟨Ex.mark id, true, []⟩] else []) := by
    unfold Ex.refs
    rw [e1]
    rfl
  refine ⟨⟨h.c1, h.c2, h.sz, hR2, ?_⟩, fun k hk => chunk_keep hk (fun x hx e => ?_), ?_⟩
  · rw [e2, does_cons, get_notin, get_do1, if_pos rfl]
    · rfl
    · intro x hx e
      split at hx
      · obtain rfl : x = _ := by simpa using hx
        exact key_mark id id e.symm
      · split at hx
        · obtain rfl : x = _ := by simpa using hx
          exact key_mark id id e.symm
        · simp at hx
  · rcases refs_keys hx with h' | h'
    · exact key_ck id k id (h'.symm.trans e)
    · exact mark_ck id k id (h'.symm.trans e)
  · rw [e2, does_cons]
    by_cases h0 : R' = 0
    · rw [if_pos h0, if_pos h0]
      show Kv.get (Kv.do1 _ _) _ = _
      rw [get_do1, if_pos rfl]
      rfl
    · rw [if_neg h0, if_neg h0]
      by_cases h1 : R = 0
      · rw [if_pos h1, if_pos h1]
        show Kv.get (Kv.do1 _ _) _ = _
        rw [get_do1, if_pos rfl]
        rfl
      · rw [if_neg h1, if_neg h1]
        show Kv.get (Kv.do1 L _) _ = _
        rw [get_do1, if_neg (key_mark id id)]
/-! What is freed. -/
def Ex.frees (id n : Nat) : List Wr := Ex.freeTo id n ++ [⟨Ex.mark id, true, []⟩]
theorem free_not {L : List Wr} {id C R : Nat} {data : List UInt8} (h : Holds L id data C R) (hR : R ≠ 0) : Ex.free L id = ([], 1) := by
  unfold Ex.free
  rw [h.look]
  exact freeOf_arg id hR
theorem free_is {L : List Wr} {id C : Nat} {data : List UInt8} (h : Holds L id data C 0) : Ex.free L id = (Ex.frees id (Ex.head data C).n, 0) := by
  unfold Ex.free
  rw [h.look]
  exact freeOf_ok (h := Hd.mk' data C 0) id rfl
theorem frees_keys {id n : Nat} {x : Wr} (hx : x ∈ Ex.frees id n) : Ex.of id x.key = true ∧ x.gone = true := by
  unfold Ex.frees Ex.freeTo at hx
  rcases List.mem_append.1 hx with hx | hx
  · rcases List.mem_cons.1 hx with rfl | hx
    · exact ⟨of_key id, rfl⟩
    · obtain ⟨k, _, rfl⟩ := List.mem_map.1 hx
      exact ⟨of_ck id k, rfl⟩
  · obtain rfl : x = _ := by simpa using hx
    exact ⟨of_mark id, rfl⟩
/-- All keys of id are those of an extent of n chunks. -/
def KeyOf (id n : Nat) (k : List UInt8) : Prop := k = Ex.key id ∨ k = Ex.mark id ∨ ∃ j, j < n ∧ k = Ex.ck id j
def KeysOf (L : List Wr) (id n : Nat) : Prop := ∀ e ∈ L, Ex.of id e.key = true → KeyOf id n e.key
theorem keysof_does {L ws : List Wr} {id n : Nat} (h : KeysOf L id n) (hw : KeysOf ws id n) : KeysOf (Kv.does L ws) id n := fun e he => (mem_does ws L e he).elim (h e) (hw e)
theorem keysof_make (id : Nat) (data : List UInt8) (C : Nat) : KeysOf (Ex.make id data C) id (Ex.head data C).n := fun e he _ => by
  unfold Ex.make at he
  rcases List.mem_cons.1 he with rfl | he
  · exact .inl rfl
  · obtain ⟨k, hk, rfl⟩ := List.mem_map.1 he
    exact .inr (.inr ⟨k, List.mem_range.1 hk, rfl⟩)
theorem keysof_refs (hd : Hd) (id n : Nat) (z : Int) : KeysOf (Ex.refs hd id z) id n := fun e he _ => by
  rcases refs_keys he with h | h
  · exact .inl h
  · exact .inr (.inl h)
theorem keysof_nil (id n : Nat) : KeysOf [] id n := fun e he => by simp at he
theorem keysof_other {ws : List Wr} {id id' n : Nat} (h1 : U64 id) (h2 : U64 id') (hne : id ≠ id') (h : ∀ x ∈ ws, Ex.of id' x.key = true) : KeysOf ws id n := fun e he ho => absurd rfl (other_key h1 h2 hne ho (h e he))
theorem free_left {L : List Wr} {id n : Nat} (h : KeysOf L id n) : Kv.does L (Ex.frees id n) = L.filter (fun e => !Ex.of id e.key) := by
  rw [← filter_does (Ex.of id) (Ex.frees id n) L (fun x hx => (frees_keys hx).1)]
  refine (List.filter_eq_self.2 (fun e he => ?_)).symm
  obtain ⟨h1, h2⟩ := mem_gone _ L e (fun x hx => (frees_keys hx).2) he
  cases ho : Ex.of id e.key with
  | false => rfl
  | true =>
    exfalso
    unfold Ex.frees Ex.freeTo at h2
    rcases h e h1 ho with hk | hk | ⟨j, hj, hk⟩
    · exact h2 ⟨Ex.key id, true, []⟩ (by simp) hk
    · exact h2 ⟨Ex.mark id, true, []⟩ (by simp) hk
    · exact h2 ⟨Ex.ck id j, true, []⟩ (List.mem_append.2 (.inl (List.mem_cons_of_mem _ (List.mem_map.2 ⟨j, List.mem_range.2 hj, rfl⟩)))) hk
theorem filter_all {id : Nat} {L : List Wr} (h : ∀ x ∈ L, Ex.of id x.key = true) : L.filter (fun e => !Ex.of id e.key) = [] := List.filter_eq_nil_iff.2 (fun e he => by rw [h e he]; simp)
/-! What is spoilt. -/
def Ex.spoilt (id : Nat) (data : List UInt8) (C n : Nat) (v : List UInt8) : List Wr := (Ex.make id data C).set (n + 1) ⟨Ex.ck id n, false, v⟩
theorem make_at {id : Nat} {data : List UInt8} {C n : Nat} (hn : n < (Ex.head data C).n) : (Ex.make id data C)[n + 1]? = some (Ex.cw id data C n) := by
  unfold Ex.make
  rw [List.getElem?_cons_succ, List.getElem?_map, List.getElem?_range hn]
  rfl
theorem spoilt_pair (id : Nat) (data : List UInt8) (C n : Nat) (v : List UInt8) (hC : 1 ≤ C) (hd : data.length ≤ 1000000) (hn : n < (Ex.head data C).n) : (Ex.spoilt id data C n v).Pairwise (fun a b => a.key ≠ b.key) := by
  have h := make_pair id data C hC hd
  have e : (Ex.spoilt id data C n v).map Wr.key = (Ex.make id data C).map Wr.key := by
    unfold Ex.spoilt
    rw [List.map_set]
    apply List.ext_getElem?
    intro i
    rw [List.getElem?_set]
    split
    · rename_i hi
      subst hi
      split
      · rw [List.getElem?_map, make_at hn]; rfl
      · rename_i h2
        rw [List.getElem?_eq_none (by omega)]
    · rfl
  have h1 : ((Ex.make id data C).map Wr.key).Pairwise (· ≠ ·) := List.pairwise_map.2 h
  rw [← e] at h1
  exact List.pairwise_map.1 h1
theorem spoilt_holds (id : Nat) (data : List UInt8) (C n : Nat) (v : List UInt8) (hC : 1 ≤ C) (hC2 : C ≤ 16777216) (hd : data.length ≤ 1000000) (hn : n < (Ex.head data C).n) :
    Holds (Kv.does [] (Ex.spoilt id data C n v)) id data C 1 ∧ (∀ k, k ≠ n → k * C < data.length → ChunkIs (Kv.does [] (Ex.spoilt id data C n v)) id data C k) ∧ Kv.get (Kv.does [] (Ex.spoilt id data C n v)) (Ex.ck id n) = some v := by
  have hp := spoilt_pair id data C n v hC hd hn
  have hlen : n + 1 < (Ex.make id data C).length := (List.getElem?_eq_some_iff.1 (make_at hn)).1
  refine ⟨⟨hC, hC2, hd, by decide, ?_⟩, fun k hkn hk => ?_, ?_⟩
  · exact get_mem _ [] hp ⟨Ex.key id, false, (Ex.head data C).bytes⟩ (by
      unfold Ex.spoilt Ex.make
      rw [List.set_cons_succ]
      simp)
  · exact get_mem _ [] hp (Ex.cw id data C k) (by
      have h1 := (n_iff data C k hC).2 hk
      refine List.mem_of_getElem? (i := k + 1) ?_
      unfold Ex.spoilt
      rw [List.getElem?_set_ne (by omega), make_at h1])
  · exact get_mem _ [] hp ⟨Ex.ck id n, false, v⟩ (by
      refine List.mem_of_getElem? (i := n + 1) ?_
      unfold Ex.spoilt
      rw [List.getElem?_set_self hlen])
theorem chunk_bad {L : List Wr} {id n : Nat} {h : Hd} {v : List UInt8} (hv : Kv.get L (Ex.ck id n) = some v) (hg : ¬ Ex.good h n v) : Ex.chunk L id h n = none := by
  unfold Ex.chunk
  rw [hv, pick_no hg]
theorem rd_bad {L : List Wr} {id C n : Nat} {data : List UInt8} (h : Holds L id data C 1) (hn : n * C < data.length) (hc : Ex.chunk L id (Hd.mk' data C 1) n = none) : Ex.rd L id = ([], 16) := by
  have hC := h.c1
  have hE : n < Ex.last (Hd.mk' data C 1) data.length := (lt_last (h := Hd.mk' data C 1) hC).2 hn
  have hg := gat_none (m := n) (k := 0) (by rw [Nat.zero_add]; exact hc) (Ex.last (Hd.mk' data C 1) data.length - (n + 1))
  rw [show n + 1 + (Ex.last (Hd.mk' data C 1) data.length - (n + 1)) = Ex.last (Hd.mk' data C 1) data.length by omega] at hg
  have hw : Ex.whole L id (Hd.mk' data C 1) 0 data.length = ([], 16) := whole_none (by
    show Ex.gat L id _ (0 / C) (_ - 0 / C) = none
    rw [Nat.zero_div, Nat.sub_zero]
    exact hg)
  unfold Ex.rd
  rw [h.look]
  have hp := part_whole L id 0 data.length (x := (Hd.mk' data C 1, 0)) rfl (by omega) (Nat.le_refl _)
  exact readOf_part L id (r := ([], 16)) (hp.trans hw) (by decide)
def Ex.sealed (p : List UInt8) : List UInt8 := Codec.four (Codec.sum p) ++ p
theorem sealed_len (p : List UInt8) : (Ex.sealed p).length = 4 + p.length := by unfold Ex.sealed; rw [List.length_append]; rfl
theorem len_piece (data : List UInt8) (C n : Nat) : (Hd.mk' data C 1).len n = (Ex.piece data C n).length := by
  unfold Ex.piece
  rw [List.length_take, List.length_drop]
  rfl
theorem cut_bad {h : Hd} {n j : Nat} {p : List UInt8} (hl : h.len n = p.length) (hj : j < 4 + p.length) : ¬ Ex.good h n ((Ex.sealed p).take j) := fun hg => by
  have := hg.1
  rw [List.length_take, sealed_len, hl] at this
  omega
theorem flip_bad {h : Hd} {n j : Nat} {p : List UInt8} {y : UInt8} (hj : j < (Ex.sealed p).length) (hy : y ≠ (Ex.sealed p)[j]) : ¬ Ex.good h n ((Ex.sealed p).set j y) := fun hg => by
  have h2 := hg.2
  rcases Nat.lt_or_ge j 4 with h4 | h4
  · have e1 : ((Ex.sealed p).set j y).drop 4 = p := by
      rw [List.drop_set, if_pos h4]
      rfl
    have e2 : ((Ex.sealed p).set j y).take 4 = (Codec.four (Codec.sum p)).set j y := by
      rw [List.take_set]
      rfl
    rw [e1, e2] at h2
    apply hy
    have h3 : ((Codec.four (Codec.sum p)).set j y)[j]? = (Codec.four (Codec.sum p))[j]? := by rw [← h2]
    rw [List.getElem?_set_self (by simp [Codec.four]; omega)] at h3
    have h5 : (Ex.sealed p)[j]? = (Codec.four (Codec.sum p))[j]? := by unfold Ex.sealed; rw [List.getElem?_append_left (by simp [Codec.four]; omega)]
    rw [← h5, List.getElem?_eq_getElem hj] at h3
    exact Option.some.inj h3
  · obtain ⟨i, rfl⟩ : ∃ i, j = 4 + i := ⟨j - 4, by omega⟩
    have hj' := hj
    rw [sealed_len] at hj
    have e1 : ((Ex.sealed p).set (4 + i) y).drop 4 = p.set i y := by
      rw [List.drop_set, if_neg (by omega)]
      show p.set (4 + i - 4) y = _
      congr 1
      omega
    have e2 : ((Ex.sealed p).set (4 + i) y).take 4 = Codec.four (Codec.sum p) := by
      rw [List.take_set, List.set_eq_of_length_le (by rw [List.length_take]; omega)]
      rfl
    rw [e1, e2] at h2
    have hi : i < p.length := by omega
    refine Codec.sum_set hi (v := y) (fun e => hy ?_) (Codec.four_inj h2)
    rw [e]
    have h6 : (Ex.sealed p)[4 + i]? = p[i]? := by
      unfold Ex.sealed
      rw [List.getElem?_append_right (by simp [Codec.four])]
      congr 1
      simp [Codec.four]
    rw [List.getElem?_eq_getElem hi, List.getElem?_eq_getElem hj'] at h6
    exact (Option.some.inj h6).symm
end Go.Proofs.YtkbfefooaajhkaaDoor
