/- A table as a list of entries: what its functions tell. -/
import Derived.Test.YtgcealgkhlbgmaaMma
import Derived.Test.YtgcealgkhlbgmaaMmL
namespace Go.Proofs.Ytgcealgkhlbgmaa
open Go.RowKit
set_option linter.unusedVariables false

theorem below_idx (ns : List Nd) (v : Ent) : below ns v = Ent.idx' (ns.map Nd.e) v := by
  unfold below Ent.idx'
  rw [List.findIdx_map]
  rfl
theorem found_at {ns : List Nd} {v : Ent} (hs : (ns.map Nd.e).Pairwise Ent.lt) {j : Nat} (hj : j < ns.length) (hc : Ent.cmp (nth ns j).e v = 0) : j = below ns v := by
  rcases Nat.lt_or_ge j (below ns v) with h | h
  · have := below_lt h
    omega
  · rcases Nat.eq_or_lt_of_le h with h | h
    · exact h.symm
    · exfalso
      have h1 := below_ge hs (v := v) (j := below ns v) (by omega) (Nat.le_refl _)
      have h2 := List.pairwise_iff_getElem.1 hs (below ns v) j (by simp; omega) (by simpa using hj) h
      rw [List.getElem_map, List.getElem_map, ← nth_eq _ (by omega), ← nth_eq _ hj] at h2
      exact h1 (Ent.cmp_lt.2 (Ent.lt_eqv h2 (Ent.cmp_eq.1 hc)))
theorem has_iff {ns : List Nd} {v : Ent} : Ent.has (ns.map Nd.e) v ↔ below ns v < ns.length ∧ Ent.cmp (nth ns (below ns v)).e v = 0 := by
  unfold Ent.has
  rw [← below_idx]
  constructor
  · rintro ⟨h1, h2⟩
    have h3 : below ns v < ns.length := by simpa using h1
    exact ⟨h3, by rw [nth_ents h3] at h2; exact h2⟩
  · rintro ⟨h1, h2⟩
    exact ⟨by simpa using h1, by rw [nth_ents h1]; exact h2⟩
def db (ad : Option Addr) : List Nat := (ad.map (·.block)).toList
theorem mem_db {ad : Option Addr} {b : Nat} : b ∈ db ad ↔ ∃ x, ad = some x ∧ b = x.block := by
  cases ad with
  | none => simp [db]
  | some x => simp [db]
/-- A table of the call's own, from block B on: its blocks, its entries, heights. -/
def Tbl (w : World) (B tb : Nat) (bs : List Nat) (L : List Ent) (hg : Nat) (hs : List Nat) (ld : List Int) : Prop :=
  ∃ t0 ns ad nd cd, Tb w B tb t0 ns hg (Ent.costs L) ad nd cd ld ∧ bs = db ad ++ blocks tb t0 ns ∧ L = ns.map Nd.e ∧ hs = ns.map Nd.h ∧ ∀ x, ad = some x → B ≤ x.block
theorem Tbl.below {w w' : World} {B tb hg : Nat} {bs : List Nat} {L : List Ent} {hs : List Nat} {ld : List Int} (h : Tbl w B tb bs L hg hs ld) (hb : Below w.heap.size w w') : Tbl w' B tb bs L hg hs ld := by
  obtain ⟨t0, ns, ad, nd, cd, h1, h2⟩ := h
  exact ⟨t0, ns, ad, nd, cd, h1.below hb, h2⟩
theorem Tbl.sorted {w : World} {B tb hg : Nat} {bs : List Nat} {L : List Ent} {hs : List Nat} {ld : List Int} (h : Tbl w B tb bs L hg hs ld) : L.Pairwise Ent.lt := by
  obtain ⟨t0, ns, ad, nd, cd, h1, _, rfl, _⟩ := h
  exact h1.sl.sorted
theorem Tbl.hlen {w : World} {B tb hg : Nat} {bs : List Nat} {L : List Ent} {hs : List Nat} {ld : List Int} (h : Tbl w B tb bs L hg hs ld) : hs.length = L.length := by
  obtain ⟨t0, ns, ad, nd, cd, h1, _, rfl, rfl, _⟩ := h
  simp
theorem Tbl.bs {w : World} {B tb hg : Nat} {bs : List Nat} {L : List Ent} {hs : List Nat} {ld : List Int} (h : Tbl w B tb bs L hg hs ld) : ∀ b ∈ bs, B ≤ b ∧ b < w.heap.size := by
  obtain ⟨t0, ns, ad, nd, cd, h1, rfl, _, _, h2⟩ := h
  intro b hb
  rcases List.mem_append.1 hb with hb | hb
  · obtain ⟨x, hx, rfl⟩ := mem_db.1 hb
    exact ⟨h2 x hx, h1.old x hx⟩
  · exact ⟨(h1.own b hb).1, (h1.own b hb).2.1⟩
/-- What touches none of its blocks leaves it. -/
theorem Tbl.keep {S : List Nat} {w w' : World} {B tb hg : Nat} {bs : List Nat} {L : List Ent} {hs : List Nat} {ld : List Int} (h : Tbl w B tb bs L hg hs ld) (k : Keep S w w') (hn : ∀ b ∈ S, b ∉ bs) : Tbl w' B tb bs L hg hs ld := by
  obtain ⟨t0, ns, ad, nd, cd, h1, rfl, h2⟩ := h
  exact ⟨t0, ns, ad, nd, cd, h1.keep k (fun b hb hm => hn b hb (List.mem_append.2 (.inr hm))) (fun x hx hm => hn _ hm (List.mem_append.2 (.inl (mem_db.2 ⟨x, hx, rfl⟩)))), rfl, h2⟩
/-! What the functions leave. -/
def TNew (w : World) (ld : List Int) (e : Ending) (w' : World) : Prop := ∃ tb bs, e = .returned (.pointer (some ⟨tb, 0, none⟩)) ∧ Tbl w' w.heap.size tb bs [] 0 [] ld ∧ Below w.heap.size w w'
def TPut (w : World) (B tb : Nat) (bs : List Nat) (L : List Ent) (hg : Nat) (hs : List Nat) (ld : List Int) (v : Ent) (e : Ending) (w' : World) : Prop :=
  ∃ bs', e = .returned (.tuple #[]) ∧ Keep bs w w' ∧ (∀ b ∈ bs', b ∈ bs ∨ w.heap.size ≤ b) ∧
    Tbl w' B tb bs' (Ent.lay L v) (if Ent.has L v then hg else max hg (tower ld L.length)) (Ent.layh L hs v (tower ld L.length)) ld
theorem tlay_any (B tb : Nat) (bs : List Nat) (L : List Ent) (hg : Nat) (hs : List Nat) (ld : List Int) (v : Ent) (va : Option Addr) (vc : Nat) (w : World) (h : Tbl w B tb bs L hg hs ld) (hv : Bs w va v.val.length vc v.val) (hn : L.length ≤ 1000000000)
    (hk : v.key.length ≤ 1000000000) (hvl : v.val.length ≤ 1000000000) (hsz : Ent.costs L ≤ 1000000000000000) (hfew : ∀ e ∈ L, e.key.length ≤ 1000000000 ∧ e.val.length ≤ 1000000000) :
    Calls Try.prog 11 #[.pointer (some ⟨tb, 0, none⟩), ev v va vc] w (TPut w B tb bs L hg hs ld v.laid) := by
  obtain ⟨t0, ns, ad, nd, cd, h1, rfl, rfl, rfl, h2⟩ := h
  refine (tput_any B tb t0 ns hg ad nd cd ld v va vc w h1 hv (by simpa using hn) hk hvl hsz hfew).mono ?_
  rintro e w' ⟨va', vc', ns', hg', rfl, hnew, hkeep, hT, hcase⟩
  rcases hcase with ⟨j, hj, hc, rfl, rfl⟩ | ⟨hno, rfl, x, hx1, hx2, hx3, hx4, hx5, rfl⟩
  · have hjb := found_at h1.sl.sorted hj hc
    subst hjb
    have hhas : Ent.has (ns.map Nd.e) v.laid := has_iff.2 ⟨hj, hc⟩
    refine ⟨db ad ++ blocks tb t0 (setv ns (below ns v.laid) v.laid va' vc'), rfl, hkeep.more (fun g hg => List.mem_append.2 (.inr hg)), fun b hb => .inl (by rwa [setv_blocks _ _ _ hj] at hb), ?_⟩
    rw [if_pos hhas]
    refine ⟨t0, _, ad, nd, cd, ?_, rfl, ?_, ?_, h2⟩
    · have e1 : Ent.lay (ns.map Nd.e) v.laid = (setv ns (below ns v.laid) v.laid va' vc').map Nd.e := by
        unfold Ent.lay
        rw [if_pos hhas, setv_ents, below_idx]
      rw [e1]; exact hT
    · unfold Ent.lay
      rw [if_pos hhas, setv_ents, below_idx]
    · unfold Ent.layh
      rw [if_pos hhas]
      exact (setv_map Nd.h v.laid va' vc' hj rfl).symm
  · have hhas : ¬ Ent.has (ns.map Nd.e) v.laid := fun h => by
      obtain ⟨h3, h4⟩ := has_iff.1 h
      exact hno _ h3 h4
    have e1 : Ent.lay (ns.map Nd.e) v.laid = (ins ns (below ns v.laid) x).map Nd.e := by
      unfold Ent.lay ins
      rw [if_neg hhas, below_idx]
      simp [hx1]
    refine ⟨db ad ++ blocks tb t0 (ins ns (below ns v.laid) x), rfl, hkeep.more (fun g hg => List.mem_append.2 (.inr hg)), fun b hb => ?_, ?_⟩
    · rcases List.mem_append.1 hb with hb | hb
      · exact .inl (List.mem_append.2 (.inl hb))
      rcases List.mem_cons.1 ((blocks_perm tb t0 ns _ x).mem_iff.1 hb) with e | e
      · exact .inr (by omega)
      · rcases List.mem_cons.1 e with e | e
        · exact .inr (by omega)
        · exact .inl (List.mem_append.2 (.inr e))
    · rw [if_neg hhas]
      refine ⟨t0, ins ns (below ns v.laid) x, ad, nd, cd, ?_, rfl, e1, ?_, h2⟩
      · rw [e1, List.length_map]; exact hT
      · unfold Ent.layh ins
        rw [if_neg hhas, below_idx, List.length_map]
        simp [hx4]
theorem tnew_any (a : Option Addr) (n c : Nat) (l : List Int) (w : World) (h : Is w a n c l) (hn : n ≤ 1000000000) :
    Calls Try.prog 10 #[.slice a n c] w (TNew w l) := by
  refine (new_any a n c l w h hn).mono ?_
  rintro e w' ⟨tb, t0, ad, cd, rfl, hT, hb, hd⟩
  exact ⟨tb, _, rfl, ⟨t0, [], ad, n, cd, hT, rfl, rfl, rfl, hd⟩, hb⟩
/-- What Get tells of a list of entries. -/
def Ent.getAt (L : List Ent) (key : List UInt8) (up : Nat) : Option Ent := if Ent.idx' L (key0 key up) < L.length ∧ (nth L (Ent.idx' L (key0 key up))).key = key then some (nth L (Ent.idx' L (key0 key up))) else none
/-- An entry, its bytes the call's own, or none. -/
def TGet (w : World) (o : Option Ent) (e : Ending) (w' : World) : Prop :=
  Below w.heap.size w w' ∧ match o with
    | some x => ∃ a c, e = .returned (.tuple #[ev x a c, .bool true]) ∧ Own w' w.heap.size a x.val.length c x.val
    | none => e = .returned (.tuple #[ev default none 0, .bool false])
theorem tget_any (B tb : Nat) (bs : List Nat) (L : List Ent) (hg : Nat) (hs : List Nat) (ld : List Int) (key : List UInt8) (up : Nat) (w : World) (h : Tbl w B tb bs L hg hs ld) (hvl : ∀ e ∈ L, e.val.length ≤ 1000000000) :
    Calls Try.prog 20 #[.pointer (some ⟨tb, 0, none⟩), .string (bstr key), .int .u64 up] w (TGet w (Ent.getAt L key up)) := by
  obtain ⟨t0, ns, ad, nd, cd, h1, rfl, rfl, rfl, h2⟩ := h
  refine (get_any B tb t0 ns hg _ ad nd cd ld key up w h1 (fun i hi => by rw [← nth_ents hi, nth_eq _ (by simpa using hi)]; exact hvl _ (List.getElem_mem _))).mono ?_
  rintro e w' ⟨hb, hcase⟩
  refine ⟨hb, ?_⟩
  unfold Ent.getAt
  rw [← below_idx]
  rcases hcase with ⟨hp, hk, a, c, rfl, ho⟩ | ⟨hn, rfl⟩
  · rw [if_pos ⟨by simpa using hp, by rw [nth_ents hp]; exact hk⟩, nth_ents hp]
    exact ⟨a, c, rfl, ho⟩
  · rw [if_neg (fun h => hn (by
      have h3 : below ns (key0 key up) < ns.length := by simpa using h.1
      exact ⟨h3, by have := h.2; rwa [nth_ents h3] at this⟩))]
    rfl
theorem tlen_any (B tb : Nat) (bs : List Nat) (L : List Ent) (hg : Nat) (hs : List Nat) (ld : List Int) (w : World) (h : Tbl w B tb bs L hg hs ld) :
    Calls Try.prog 14 #[.pointer (some ⟨tb, 0, none⟩)] w fun e w' => e = .returned (.int .i64 L.length) ∧ Below w.heap.size w w' := by
  obtain ⟨t0, ns, ad, nd, cd, h1, rfl, rfl, rfl, h2⟩ := h
  have c7 := h1.sl.count
  clear h1 h2
  rw [List.length_map]
  go_enter Try.func14, Try.ntmps14
  go_wp2
  go_ret
  exact ⟨rfl, Below.refl _ _⟩
theorem tsize_any (B tb : Nat) (bs : List Nat) (L : List Ent) (hg : Nat) (hs : List Nat) (ld : List Int) (w : World) (h : Tbl w B tb bs L hg hs ld) :
    Calls Try.prog 15 #[.pointer (some ⟨tb, 0, none⟩)] w fun e w' => e = .returned (.int .i64 (Ent.costs L)) ∧ Below w.heap.size w w' := by
  obtain ⟨t0, ns, ad, nd, cd, h1, rfl, h3, rfl, h2⟩ := h
  have c9 := h1.size
  clear h1 h2 h3
  go_enter Try.func15, Try.ntmps15
  go_wp2
  go_ret
  exact ⟨rfl, Below.refl _ _⟩
theorem theight_any (B tb : Nat) (bs : List Nat) (L : List Ent) (hg : Nat) (hs : List Nat) (ld : List Int) (w : World) (h : Tbl w B tb bs L hg hs ld) :
    Calls Try.prog 24 #[.pointer (some ⟨tb, 0, none⟩)] w fun e w' => e = .returned (.int .i64 hg) ∧ Below w.heap.size w w' := by
  obtain ⟨t0, ns, ad, nd, cd, h1, rfl, h3, rfl, h2⟩ := h
  have c6 := h1.height
  clear h1 h2 h3
  go_enter Try.func24, Try.ntmps24
  go_wp2
  go_ret
  exact ⟨rfl, Below.refl _ _⟩
theorem tallrow_any (B tb : Nat) (bs : List Nat) (L : List Ent) (hg : Nat) (hs : List Nat) (ld : List Int) (w : World) (h : Tbl w B tb bs L hg hs ld) (hn : L.length ≤ 1000000000) (hsq : ∀ e ∈ L, e.seq ≤ 18446744073709551615) (hvl : ∀ e ∈ L, e.val.length ≤ 1000000000) :
    Calls Try.prog 13 #[.pointer (some ⟨tb, 0, none⟩)] w (ColP w L) := by
  obtain ⟨t0, ns, ad, nd, cd, h1, rfl, rfl, rfl, h2⟩ := h
  have hm : ∀ i, i < ns.length → (nth ns i).e ∈ ns.map Nd.e := fun i hi => by rw [nth_eq _ hi]; exact List.mem_map.2 ⟨_, List.getElem_mem _, rfl⟩
  exact lall_any tb t0 ns w h1.sl (by simpa using hn) (fun i hi => hsq _ (hm i hi)) (fun i hi => hvl _ (hm i hi))
theorem tfromrow_any (B tb : Nat) (bs : List Nat) (L : List Ent) (hg : Nat) (hs : List Nat) (ld : List Int) (key : List UInt8) (w : World) (h : Tbl w B tb bs L hg hs ld) (hn : L.length ≤ 1000000000) (hvl : ∀ e ∈ L, e.val.length ≤ 1000000000) :
    Calls Try.prog 28 #[.pointer (some ⟨tb, 0, none⟩), .string (bstr key)] w (ColP w (L.drop (Ent.idx' L (keyHi key)))) := by
  obtain ⟨t0, ns, ad, nd, cd, h1, rfl, rfl, rfl, h2⟩ := h
  have hm : ∀ i, i < ns.length → (nth ns i).e ∈ ns.map Nd.e := fun i hi => by rw [nth_eq _ hi]; exact List.mem_map.2 ⟨_, List.getElem_mem _, rfl⟩
  rw [← below_idx]
  exact lfrom_any tb t0 ns key w h1.sl (by simpa using hn) (fun i hi => hvl _ (hm i hi))
theorem lay_costs (L : List Ent) (v : Ent) : Ent.costs (Ent.lay L v) ≤ Ent.costs L + v.cost := by
  unfold Ent.lay
  split
  · rename_i h
    have := sum_set Ent.cost v L (Ent.idx' L v) h.1
    unfold Ent.costs
    omega
  · unfold Ent.costs
    conv => rhs; rw [← List.take_append_drop (Ent.idx' L v) L]
    simp only [List.map_append, List.map_cons, List.sum_append, List.sum_cons]
    omega
end Go.Proofs.Ytgcealgkhlbgmaa
