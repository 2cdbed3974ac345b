/- Bytes that are written over: what stays. -/
import Derived.Test.YtgcealgkhlbgmaaMml
import Derived.Test.YtgcealgkhlbgmaaMmg
namespace Go.Proofs.Ytgcealgkhlbgmaa
open Go.RowKit
set_option linter.unusedVariables false

/-- Only the row at a may be another one. -/
structure Spo (a : Option Addr) (w w' : World) : Prop where
  os : w'.os = w.os
  tape : w'.tape = w.tape
  output : w'.output = w.output
  size : w.heap.size ≤ w'.heap.size
  block : ∀ b, b < w.heap.size → (∀ x, a = some x → x.block ≠ b) → w'.heap[b]? = w.heap[b]?
theorem Spo.refl (a : Option Addr) (w : World) : Spo a w w := ⟨rfl, rfl, rfl, Nat.le_refl _, fun _ _ _ => rfl⟩
theorem Spo.of_below {a : Option Addr} {w w' : World} (h : Below w.heap.size w w') : Spo a w w' := ⟨h.os, h.tape, h.output, h.size, fun b hb _ => h.block b hb⟩
theorem Spo.trans {a : Option Addr} {w w1 w2 : World} (h : Spo a w w1) (k : Spo a w1 w2) : Spo a w w2 :=
  ⟨k.os.trans h.os, k.tape.trans h.tape, k.output.trans h.output, Nat.le_trans h.size k.size, fun b hb hn => (k.block b (Nat.lt_of_lt_of_le hb h.size) hn).trans (h.block b hb hn)⟩
theorem Spo.set {a : Option Addr} {w w1 : World} (h : Spo a w w1) {p x : Addr} (ha : a = some x) (hp : p.block = x.block) (v : Value) : Spo a w (w1.setCell p v) :=
  ⟨h.os, h.tape, h.output, by rw [World.size_setCell]; exact h.size, fun b hb hn => (Below.heap_setCell _ _ _ _ (by rw [hp]; exact fun e => hn x ha e.symm)).trans (h.block b hb hn)⟩
theorem Spo.below {a : Option Addr} {w w' : World} {n : Nat} (h : Spo a w w') (hn : n ≤ w.heap.size) (ha : ∀ x, a = some x → n ≤ x.block) : Below n w w' :=
  ⟨h.os, h.tape, h.output, h.size, fun b hb => h.block b (by omega) (fun x hx e => by have := ha x hx; omega)⟩
theorem Spo.cell {a : Option Addr} {w w' : World} {p : Addr} {v : Value} (h : Spo a w w') (hn : ∀ x, a = some x → x.block ≠ p.block) (hc : w.cell? p = some v) : w'.cell? p = some v :=
  (World.cell?_of_block (h.block p.block (World.block_lt_of_cell? _ _ hc) hn)).trans hc
theorem Bs.spo {a : Option Addr} {w w' : World} {a' : Option Addr} {n c : Nat} {l : List UInt8} (h : Bs w a' n c l) (k : Spo a w w') (hn : 0 < l.length → ∀ x y, a = some x → a' = some y → x.block ≠ y.block) : Bs w' a' n c l := by
  refine ⟨h.1, h.2.1, h.2.2.1, fun j v hj => ?_⟩
  obtain ⟨b, off, e, hc⟩ := h.2.2.2 j v hj
  have hl : 0 < l.length := by
    have h1 := (List.getElem?_eq_some_iff.1 hj).1
    rw [vs_len] at h1
    omega
  exact ⟨b, off, e, k.cell (fun x hx => hn hl x ⟨b, off, none⟩ hx e) hc⟩
theorem bs_old {w : World} {a : Option Addr} {n c : Nat} {l : List UInt8} (h : Bs w a n c l) (hn : 0 < l.length) : ∀ x, a = some x → x.block < w.heap.size := by
  intro x hx
  obtain ⟨b, off, e, hc⟩ := h.2.2.2 0 _ (List.getElem?_eq_getElem (by rw [vs_len]; exact hn))
  rw [hx] at e
  cases e
  exact World.block_lt_of_cell? _ _ hc
/-- Where a node's bytes lie. -/
def VIn (P : Nat → Prop) (x : Nd) : Prop := 0 < x.e.val.length → ∀ y, x.va = some y → P y.block
theorem Tb.spo {w w' : World} {a : Option Addr} {B tb t0 : Nat} {ns : List Nd} {hg sz : Nat} {ad : Option Addr} {nd cd : Nat} {ld : List Int} (h : Tb w B tb t0 ns hg sz ad nd cd ld) (k : Spo a w w') (hn : ∀ x, a = some x → x.block ∉ blocks tb t0 ns) (hd : ∀ x y, a = some x → ad = some y → x.block ≠ y.block) (hv : ∀ x ∈ ns, VIn (fun b => ∀ y, a = some y → y.block ≠ b) x) : Tb w' B tb t0 ns hg sz ad nd cd ld := by
  have hcell : ∀ {b j : Nat} {v : Value}, b ∈ blocks tb t0 ns → w.cell? ⟨b, j, none⟩ = some v → w'.cell? ⟨b, j, none⟩ = some v := fun hb hc => k.cell (fun x hx e => hn x hx (by rw [e]; exact hb)) hc
  have hblk : ∀ b ∈ blocks tb t0 ns, w'.heap[b]? = w.heap[b]? := fun b hb => k.block b (h.own b hb).2.1 (fun x hx e => hn x hx (by rw [e]; exact hb))
  have m0 : tb ∈ blocks tb t0 ns := by simp [blocks]
  have m1 : t0 ∈ blocks tb t0 ns := by simp [blocks]
  have mi : ∀ i, i < ns.length → (nth ns i).b ∈ blocks tb t0 ns ∧ (nth ns i).t ∈ blocks tb t0 ns := fun i hi => by
    have h1 : nth ns i ∈ ns := by rw [nth_eq _ hi]; exact List.getElem_mem _
    constructor
    · exact List.mem_cons_of_mem _ (List.mem_cons_of_mem _ (List.mem_flatMap.2 ⟨_, h1, by simp⟩))
    · exact List.mem_cons_of_mem _ (List.mem_cons_of_mem _ (List.mem_flatMap.2 ⟨_, h1, by simp⟩))
  refine ⟨⟨hcell m0 h.sl.head, hcell m0 h.sl.cmp, hcell m0 h.sl.count, fun i hi => hcell m1 (h.sl.h0 i hi), fun i hi => ?_, h.sl.sorted⟩, hcell m0 h.height, hcell m0 h.draws, hcell m0 h.size, fun b hb => ?_, h.nodup, ?_, h.apart, fun x hx => Nat.lt_of_lt_of_le (h.old x hx) k.size⟩
  · obtain ⟨h1, h2⟩ := h.sl.nd i hi
    obtain ⟨mb, mt⟩ := mi i hi
    refine ⟨⟨⟨hcell mb h1.ent.key, hcell mb h1.ent.seq, hcell mb h1.ent.gone, hcell mb h1.ent.val⟩, hcell mb h1.nx, h1.val.spo k (fun h0 x y hx hy => ?_), h1.h1, h1.h2⟩, fun j hj => hcell mt (h2 j hj)⟩
    exact hv (nth ns i) (by rw [nth_eq _ hi]; exact List.getElem_mem _) h0 y hy x hx
  · obtain ⟨h1, h2, h3, t, n, h4, h5⟩ := h.own b hb
    refine ⟨h1, Nat.lt_of_lt_of_le h2 k.size, fun j => ?_, t, n, (shape_same (hblk b hb)).trans h4, h5⟩
    have := h3 j
    simp only [World.frozen?] at this ⊢
    rw [hblk b hb]
    exact this
  · refine ⟨h.ints.1, h.ints.2.1, h.ints.2.2.1, fun j v hj => ?_, h.ints.2.2.2.2⟩
    obtain ⟨b, off, e, hc⟩ := h.ints.2.2.2.1 j v hj
    exact ⟨b, off, e, k.cell (fun x hx e2 => hd x ⟨b, off, none⟩ hx e e2) hc⟩
/-- What Put makes of a table's nodes. -/
theorem put_nodes {w : World} {tb t0 : Nat} {ns ns' : List Nd} {hg hg' : Nat} {ld : List Int} {v : Ent} {va : Option Addr} {vc : Nat} (hs : (ns.map Nd.e).Pairwise Ent.lt)
    (h : (∃ j, j < ns.length ∧ Ent.cmp (nth ns j).e v = 0 ∧ ns' = setv ns j v va vc ∧ hg' = hg) ∨
     ((∀ j, j < ns.length → Ent.cmp (nth ns j).e v ≠ 0) ∧ hg' = max hg (tower ld ns.length) ∧ ∃ x : Nd, x.e = v ∧ x.va = va ∧ x.vc = vc ∧ x.h = tower ld ns.length ∧ (w.heap.size ≤ x.b ∧ w.heap.size ≤ x.t) ∧ ns' = ins ns (below ns v) x)) :
    ns'.map Nd.e = Ent.lay (ns.map Nd.e) v ∧ (∀ b ∈ blocks tb t0 ns', b ∈ blocks tb t0 ns ∨ w.heap.size ≤ b) ∧ (∀ x ∈ ns', x ∈ ns ∨ x.va = va) := by
  rcases h with ⟨j, hj, hc, rfl, rfl⟩ | ⟨hno, rfl, x, hx1, hx2, hx3, hx4, hx5, rfl⟩
  · have hjb := found_at hs hj hc
    subst hjb
    have hhas : Ent.has (ns.map Nd.e) v := has_iff.2 ⟨hj, hc⟩
    refine ⟨?_, fun b hb => .inl (by rwa [setv_blocks _ _ _ hj] at hb), fun x hx => ?_⟩
    · unfold Ent.lay
      rw [if_pos hhas, setv_ents, below_idx]
    · unfold setv at hx
      rcases List.mem_or_eq_of_mem_set hx with h | h
      · exact .inl h
      · exact .inr (by rw [h])
  · have hhas : ¬ Ent.has (ns.map Nd.e) v := fun h => by
      obtain ⟨h3, h4⟩ := has_iff.1 h
      exact hno _ h3 h4
    refine ⟨?_, fun b hb => ?_, fun y hy => ?_⟩
    · unfold Ent.lay ins
      rw [if_neg hhas, below_idx]
      simp [hx1]
    · rcases List.mem_cons.1 ((blocks_perm tb t0 ns _ x).mem_iff.1 hb) with e | e
      · exact .inr (by omega)
      · rcases List.mem_cons.1 e with e | e
        · exact .inr (by omega)
        · exact .inl e
    · unfold ins at hy
      rcases List.mem_append.1 hy with h | h
      · exact .inl (List.mem_of_mem_take h)
      · rcases List.mem_cons.1 h with h | h
        · exact .inr (by rw [h]; exact hx2)
        · exact .inl (List.mem_of_mem_drop h)
/-- A put into a table, and then the bytes that were handed in are written over. -/
theorem One.putSpo {wo W W1 : World} {tb : Nat} {L : List Ent} {ld : List Int} (h : One wo W tb L ld) (hb : Below W.heap.size W W1) (v : Ent) (va : Option Addr) (vc : Nat) (hv : Bs W1 va v.val.length vc v.val) (hva : ∀ x, va = some x → W.heap.size ≤ x.block ∧ x.block < W1.heap.size) (hn : L.length ≤ 10000) (hsm : ∀ e ∈ L, Sm e) (hsv : Sm v) :
    Calls Try.prog 11 #[.pointer (some ⟨tb, 0, none⟩), ev v va vc] W1 fun e W' => e = .returned (.tuple #[]) ∧ W1.heap.size ≤ W'.heap.size ∧ (∀ b, W.heap.size ≤ b → b < W1.heap.size → W'.heap[b]? = W1.heap[b]?) ∧ ∀ W3, Spo va W' W3 → One wo W3 tb (Ent.lay L v.laid) ld := by
  obtain ⟨bs, hg, hs, ⟨t0, ns, ad, nd, cd, h1, rfl, rfl, rfl, h2⟩, h3⟩ := h
  have hc := costs_sm hsm
  refine (tput_any wo.heap.size tb t0 ns hg ad nd cd ld v va vc W1 (h1.below hb) hv (by have := hn; rw [List.length_map] at this; omega) (by have := hsv.1; omega) (by have := hsv.1; omega) (by omega) (fun e he => by have := (hsm e he).1; omega)).mono ?_
  rintro e W' ⟨va', vc', ns', hg', rfl, hnew, hkeep, hT, hcase⟩
  have hold : ∀ b ∈ blocks tb t0 ns, b < W.heap.size := fun b hb => (h1.own b hb).2.1
  obtain ⟨n1, n2, n3⟩ := put_nodes (tb := tb) (t0 := t0) h1.sl.sorted hcase
  refine ⟨rfl, hkeep.size, fun b hb1 hb2 => hkeep.block b hb2 (fun hm => by have := hold b hm; omega), fun W3 k => ?_⟩
  have hT3 := hT.spo k (fun x hx hm => by
      obtain ⟨g1, g2⟩ := hva x hx
      rcases n2 _ hm with g3 | g3
      · have := hold _ g3
        omega
      · omega) (fun x y hx hy e => by
      have := h1.old y hy
      have := (hva x hx).1
      omega) (fun x hx hl y hy z hz e => by
      obtain ⟨g1, g2⟩ := hva z hz
      rcases n3 x hx with g3 | g3
      · obtain ⟨i, hi, rfl⟩ := List.mem_iff_getElem.1 g3
        have g4 := (h1.sl.nd i hi).1.val
        rw [nth_eq _ hi] at g4
        have := bs_old g4 hl y hy
        omega
      · have := (hnew y (by rw [← g3]; exact hy)).1
        omega)
  refine ⟨_, hg', _, ⟨t0, ns', ad, nd, cd, ?_, rfl, n1.symm, rfl, h2⟩, ?_⟩
  · rw [← n1]
    exact hT3
  · have k1 : Below wo.heap.size W1 W' := hkeep.below (fun b hm => (h1.own b hm).1) (Nat.le_trans h3.size hb.size)
    have k2 : Below wo.heap.size W' W3 := k.below (Nat.le_trans (Nat.le_trans h3.size hb.size) hkeep.size) (fun x hx => by
      have := (hva x hx).1
      have := h3.size
      omega)
    exact ((h3.trans (hb.mono h3.size)).trans k1).trans k2
set_option maxHeartbeats 1000000 in
theorem spoil_any (B : Nat) (a : Option Addr) (n c : Nat) (l : List UInt8) (w : World) (h : Own w B a n c l) :
    Calls Try.prog 18 #[.slice a n c] w fun e w' => e = .returned (.tuple #[]) ∧ Spo a w w' := by
  have hle := h.bs.le.1
  have HL := Lib.hid h.bs.1
  have H0 : Hid (∃ cs, w.ownsRow B 5 1 (.slice a n c) n cs ∧ ∀ i, 0 ≤ i → cs[i]? = (vs l)[i]?) := Lib.hid ⟨vs l, h, fun i _ => rfl⟩
  clear h
  go_enter Try.func18, Try.ntmps18
  go_wp2_with fail
  go_loopw [2] (fun i wr => ∃ k : Nat, k ≤ n ∧ i = .int .i64 k ∧ Hid (∃ cs, wr.ownsRow B 5 1 (.slice a n c) n cs ∧ ∀ i, k ≤ i → cs[i]? = (vs l)[i]?) ∧ Hid (Spo a w wr)) (fun i _ => n - (intOf i).toNat)
  case atStart => exact ⟨0, Nat.zero_le _, rfl, H0, Lib.hid (Spo.refl _ _)⟩
  case round =>
    obtain ⟨k, hk, rfl, hcs, hsp⟩ := hrel
    by_cases hlt : k < n
    · obtain ⟨cs, h1, h2⟩ := hcs.out
      obtain ⟨g, rfl, h3, h4⟩ := own_form h1 (by omega)
      have h5 : cs[k]? = some (.int .u8 (n8 (nth l k))) := by
        rw [h2 k (Nat.le_refl _)]
        unfold vs
        rw [List.getElem?_map, List.getElem?_eq_getElem (by rw [HL.out]; exact hlt), nth_eq _ (by rw [HL.out]; exact hlt)]
        rfl
      obtain ⟨b, off, e1, h6⟩ := Row.of_own h1 k _ h5
      cases e1
      have hfr : wr.frozen? ⟨g, k, none⟩ = false := (own_frozen h1 k).1
      rw [Nat.zero_add] at h6
      have HST : Hid (∀ u, ∃ cs, (wr.setCell ⟨g, k, none⟩ u).ownsRow B 5 1 (.slice (some ⟨g, 0, none⟩) n c) n cs ∧ ∀ i, k + 1 ≤ i → cs[i]? = (vs l)[i]?) := Lib.hid fun u => ⟨_, own_set h1 k u, fun i hi => by rw [List.getElem?_set_ne (by omega)]; exact h2 i (by omega)⟩
      have HSP : Hid (∀ u, Spo (some ⟨g, 0, none⟩) w (wr.setCell ⟨g, k, none⟩ u)) := Lib.hid fun u => hsp.out.set (p := ⟨g, k, none⟩) rfl rfl u
      obtain ⟨x, hx⟩ : ∃ x, x = nth l k := ⟨_, rfl⟩
      rw [← hx] at h5
      clear hcs hsp h1 h2 h3 h4 h5 H0
      rw [← hx] at h6
      clear hx
      go_wp2
      go_roundw
      case rel => exact ⟨k + 1, by omega, by go_num, Lib.hid (HST.out _), Lib.hid (HSP.out _)⟩
      case measure => simp [intOf]; omega
    · obtain rfl : k = n := by omega
      go_wp2
      go_end0
      exact ⟨rfl, hsp.out⟩
end Go.Proofs.Ytgcealgkhlbgmaa
