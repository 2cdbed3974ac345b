/- A table that is written: a value replaced, a node put in. -/
import Derived.Test.YtgcealgkhlbgmaaMmQ
namespace Go.Proofs.Ytgcealgkhlbgmaa
open Go.RowKit
set_option linter.unusedVariables false

theorem Tb.keep {S : List Nat} {w w' : World} {B tb t0 : Nat} {ns : List Nd} {hg sz : Nat} {ad : Option Addr} {nd cd : Nat} {ld : List Int} (h : Tb w B tb t0 ns hg sz ad nd cd ld) (k : Keep S w w') (hn : ∀ b ∈ S, b ∉ blocks tb t0 ns) (hd : ∀ x, ad = some x → x.block ∉ S) : Tb w' B tb t0 ns hg sz ad nd cd ld := by
  have hb : tb ∉ S := fun hm => hn _ hm (by simp [blocks])
  have hc := h.sl.ch.keep (tb := tb) k (fun b hm h' => hn b hm (List.mem_cons_of_mem _ h'))
  refine ⟨⟨k.cell hb h.sl.head, k.cell hb h.sl.cmp, k.cell hb h.sl.count, hc.h0, hc.nd, h.sl.sorted⟩, k.cell hb h.height, k.cell hb h.draws, k.cell hb h.size, fun b hm => ?_, h.nodup, ?_, h.apart, fun x hx => Nat.lt_of_lt_of_le (h.old x hx) k.size⟩
  · obtain ⟨h1, h2, h3, t, n, h4, h5⟩ := h.own b hm
    exact ⟨h1, Nat.lt_of_lt_of_le h2 k.size, fun j => (k.frz ⟨b, j, none⟩ h2).trans (h3 j), t, n, (k.shp b h2).trans h4, h5⟩
  · refine ⟨h.ints.1, h.ints.2.1, h.ints.2.2.1, fun j v hj => ?_, h.ints.2.2.2.2⟩
    obtain ⟨b, off, e, hc⟩ := h.ints.2.2.2.1 j v hj
    exact ⟨b, off, e, k.cell (fun hm => hd _ e hm) hc⟩

/-- An entry stored into a block's first cells. -/
def put4 (w : World) (b : Nat) (e : Ent) (a : Option Addr) (c : Nat) : World :=
  (((w.setCell ⟨b, 0, none⟩ (.string (bstr e.key))).setCell ⟨b, 1, none⟩ (.int .u64 e.seq)).setCell ⟨b, 2, none⟩ (.bool e.gone)).setCell ⟨b, 3, none⟩ (.slice a e.val.length c)
theorem put4_other {w : World} {b : Nat} {e : Ent} {a : Option Addr} {c : Nat} {p : Addr} (h : ∀ j, j < 4 → (⟨b, j, none⟩ : Addr) ≠ p) : (put4 w b e a c).cell? p = w.cell? p := by
  unfold put4
  rw [World.cell?_setCell_other _ _ _ _ (h 3 (by omega)), World.cell?_setCell_other _ _ _ _ (h 2 (by omega)), World.cell?_setCell_other _ _ _ _ (h 1 (by omega)), World.cell?_setCell_other _ _ _ _ (h 0 (by omega))]
theorem addr_ne {b j k : Nat} (h : j ≠ k) : (⟨b, j, none⟩ : Addr) ≠ ⟨b, k, none⟩ := fun e => h (by cases e; rfl)
theorem put4_at {w : World} {b : Nat} {e e' : Ent} {a a' : Option Addr} {c c' : Nat} (h : EntAt w b 0 e' a' c') : EntAt (put4 w b e a c) b 0 e a c := by
  have h0 := h.key
  have h1 := h.seq
  have h2 := h.gone
  have h3 := h.val
  simp only [Nat.zero_add] at h0 h1 h2 h3
  unfold put4
  refine EntAt.of_cells fun j v hj => ?_
  rw [Nat.zero_add]
  match j, hj with
  | 0, hj =>
    cases hj
    rw [World.cell?_setCell_other _ _ _ _ (addr_ne (by decide)), World.cell?_setCell_other _ _ _ _ (addr_ne (by decide)), World.cell?_setCell_other _ _ _ _ (addr_ne (by decide))]
    exact World.cell?_setCell_same' _ _ _ (by rw [h0]; rfl)
  | 1, hj =>
    cases hj
    rw [World.cell?_setCell_other _ _ _ _ (addr_ne (by decide)), World.cell?_setCell_other _ _ _ _ (addr_ne (by decide))]
    exact World.cell?_setCell_same' _ _ _ (by rw [World.cell?_setCell_other _ _ _ _ (addr_ne (by decide)), h1]; rfl)
  | 2, hj =>
    cases hj
    rw [World.cell?_setCell_other _ _ _ _ (addr_ne (by decide))]
    exact World.cell?_setCell_same' _ _ _ (by rw [World.cell?_setCell_other _ _ _ _ (addr_ne (by decide)), World.cell?_setCell_other _ _ _ _ (addr_ne (by decide)), h2]; rfl)
  | 3, hj =>
    cases hj
    exact World.cell?_setCell_same' _ _ _ (by rw [World.cell?_setCell_other _ _ _ _ (addr_ne (by decide)), World.cell?_setCell_other _ _ _ _ (addr_ne (by decide)), World.cell?_setCell_other _ _ _ _ (addr_ne (by decide)), h3]; rfl)
  | j + 4, hj => simp [entCells] at hj
theorem Keep.put4 {S : List Nat} {w w1 : World} {b : Nat} {e e' : Ent} {a a' : Option Addr} {c c' : Nat} (h : Keep S w w1) (hb : w.heap.size ≤ b ∨ b ∈ S ∧ EntAt w1 b 0 e' a' c') : Keep S w (put4 w1 b e a c) := by
  unfold Go.Proofs.Ytgcealgkhlbgmaa.put4
  rcases hb with hb | ⟨hb, hE⟩
  · exact (((h.set _ (.inl hb)).set _ (.inl hb)).set _ (.inl hb)).set _ (.inl hb)
  · have h0 := hE.key
    have h1 := hE.seq
    have h2 := hE.gone
    have h3 := hE.val
    simp only [Nat.zero_add] at h0 h1 h2 h3
    refine (((h.set _ (.inr ⟨hb, fun n => ?_⟩)).set _ (.inr ⟨hb, fun n => ?_⟩)).set _ (.inr ⟨hb, fun n => ?_⟩)).set _ (.inr ⟨hb, fun n => ?_⟩)
    · rw [h0]; exact fun e => by cases e
    · rw [World.cell?_setCell_other _ _ _ _ (addr_ne (by decide)), h1]; exact fun e => by cases e
    · rw [World.cell?_setCell_other _ _ _ _ (addr_ne (by decide)), World.cell?_setCell_other _ _ _ _ (addr_ne (by decide)), h2]; exact fun e => by cases e
    · rw [World.cell?_setCell_other _ _ _ _ (addr_ne (by decide)), World.cell?_setCell_other _ _ _ _ (addr_ne (by decide)), World.cell?_setCell_other _ _ _ _ (addr_ne (by decide)), h3]; exact fun e => by cases e
theorem Mid.drew {W wr : World} {t0 : Nat} {ns : List Nd} {p : Nat} {x : Nd} {k : Nat} (h : Mid W wr t0 ns p x k) : Mid W wr.drew t0 ns p x k :=
  ⟨h.keep.trans (Keep.of_below (Below.refl _ _).drew), h.low, h.high, h.new⟩
theorem Kind.keep {S : List Nat} {w w' : World} {b : Nat} (h : Kind w b) (hl : b < w.heap.size) (k : Keep S w w') : Kind w' b := by
  obtain ⟨t, n, h1, h2⟩ := h
  exact ⟨t, n, (k.shp b hl).trans h1, h2⟩
theorem Is.keep {S : List Nat} {w w' : World} {a : Option Addr} {n c : Nat} {l : List Int} (h : Is w a n c l) (k : Keep S w w') (hd : ∀ x, a = some x → x.block ∉ S) : Is w' a n c l := by
  refine ⟨h.1, h.2.1, h.2.2.1, fun j v hj => ?_, h.2.2.2.2⟩
  obtain ⟨b, off, e, hc⟩ := h.2.2.2.1 j v hj
  exact ⟨b, off, e, k.cell (fun hm => hd _ e hm) hc⟩
theorem Tb.replace {w : World} {B tb t0 : Nat} {ns : List Nd} {hg sz : Nat} {ad : Option Addr} {nd cd : Nat} {ld : List Int} {p : Nat} {v : Ent} {va : Option Addr} {vc : Nat} (h : Tb w B tb t0 ns hg sz ad nd cd ld) (hp : p < ns.length) (hc : Ent.cmp (nth ns p).e v = 0) (hv : Bs w va v.val.length vc v.val) :
    Tb (put4 w (nth ns p).b v va vc) B tb t0 (setv ns p v va vc) hg sz ad nd cd ld := by
  have hE := (h.sl.nd p hp).1.ent
  have k : Keep [(nth ns p).b] w (Go.Proofs.Ytgcealgkhlbgmaa.put4 w (nth ns p).b v va vc) := (Keep.refl _ w).put4 (.inr ⟨List.mem_singleton.2 rfl, hE⟩)
  have hbk : ∀ i, i ≤ ns.length → i ≠ p + 1 → bk tb ns i ∉ [(nth ns p).b] := fun i hi hne hm => by
    rw [List.mem_singleton, nth_bk (tb := tb)] at hm
    exact bk_ne h.nodup hi (by omega) hne hm
  have htw : ∀ i, i ≤ ns.length → tw t0 ns i ∉ [(nth ns p).b] := fun i hi hm => by
    rw [List.mem_singleton, nth_bk (tb := tb)] at hm
    exact bk_tw h.nodup (by omega) hi hm.symm
  have htb : tb ∉ [(nth ns p).b] := hbk 0 (Nat.zero_le _) (by omega)
  have hlen : ((setv ns p v va vc).length : Int) = ns.length := by rw [setv_length]
  refine ⟨⟨k.cell htb h.sl.head, k.cell htb h.sl.cmp, by rw [hlen]; exact k.cell htb h.sl.count, fun j hj => ?_, fun i hi => ?_, setv_sorted v va vc hp h.sl.sorted hc⟩, k.cell htb h.height, k.cell htb h.draws, k.cell htb h.size, fun b hm => ?_, by rw [setv_blocks v va vc hp]; exact h.nodup, h.ints.keep k (fun x hx hm => ?_), by rw [setv_blocks v va vc hp]; exact h.apart, fun x hx => Nat.lt_of_lt_of_le (h.old x hx) k.size⟩
  · have := k.cell (htw 0 (Nat.zero_le _)) (h.sl.h0 j hj)
    rw [this, show nxt j (setv ns p v va vc) = nxt j ns from setv_nxt v va vc hp j 0]
  · rw [setv_length] at hi
    obtain ⟨h1, h2⟩ := h.sl.nd i hi
    have ht : ∀ x : Nd, x.t = (nth ns i).t → x.h = (nth ns i).h → Twr (Go.Proofs.Ytgcealgkhlbgmaa.put4 w (nth ns p).b v va vc) x.t x.h ((setv ns p v va vc).drop (i + 1)) := fun x e1 e2 j hj => by
      rw [e1, setv_nxt v va vc hp]
      rw [e2] at hj
      exact k.cell (by have := htw (i + 1) (by omega); rwa [← nth_tw] at this) (h2 j hj)
    rw [setv_nth v va vc hp]
    by_cases e : i = p
    · subst e
      rw [if_pos rfl]
      refine ⟨⟨put4_at hE, ?_, hv.keep k, h1.h1, h1.h2⟩, ht _ rfl rfl⟩
      exact (put4_other (fun j hj => addr_ne (by omega))).trans h1.nx
    · rw [if_neg e]
      exact ⟨h1.keep k (by have := hbk (i + 1) (by omega) (by omega); rwa [← nth_bk] at this), ht _ rfl rfl⟩
  · rw [setv_blocks v va vc hp] at hm
    obtain ⟨h1, h2, h3, h4⟩ := h.own b hm
    exact ⟨h1, Nat.lt_of_lt_of_le h2 k.size, fun j => (k.frz ⟨b, j, none⟩ h2).trans (h3 j), h4.keep h2 k⟩
  · have h1 := h.apart x hx
    rw [List.mem_singleton, nth_bk (tb := tb)] at hm
    exact h1 (hm ▸ bk_mem (by omega))
theorem Tb.insert {W wr : World} {B tb t0 : Nat} {ns : List Nd} {hg sz : Nat} {ad : Option Addr} {nd cd : Nat} {ld : List Int} {p hg' : Nat} {x : Nd} (h : Tb W B tb t0 ns hg sz ad nd cd ld) (hm : Mid W wr t0 ns p x x.h) (hp : p = Go.Proofs.Ytgcealgkhlbgmaa.below ns x.e)
    (hx : NdAt W x) (hno : ∀ j, j < ns.length → Ent.cmp (nth ns j).e x.e ≠ 0) (hnew : ∀ b, b = x.b ∨ b = x.t → b ∉ blocks tb t0 ns ∧ B ≤ b ∧ b < W.heap.size ∧ (∀ j, W.frozen? ⟨b, j, none⟩ = false) ∧ Kind W b ∧ ∀ a, ad = some a → a.block ≠ b) (hbt : x.b ≠ x.t) :
    Tb ((wr.setCell ⟨tb, 6, none⟩ (.int .i64 (hg' : Nat))).setCell ⟨tb, 7, none⟩ (.int .i64 ((ns.length + 1 : Nat) : Int))) B tb t0 (ins ns p x) hg' sz ad nd cd ld := by
  have hpl : p ≤ ns.length := by rw [hp]; exact Go.Proofs.Ytgcealgkhlbgmaa.below_le ns x.e
  have hc := hm.done h.sl hpl hx h.nodup (hnew _ (.inl rfl)).1 (hnew _ (.inr rfl)).1 hbt
  have htb : tb ∉ x.t :: tws t0 ns := fun h' => by
    rcases List.mem_cons.1 h' with e | e
    · exact (hnew _ (.inr rfl)).1 (e ▸ (by simp [blocks]))
    · exact bk_tws h.nodup (i := 0) (Nat.zero_le _) e
  have c6 := hm.keep.cell (p := ⟨tb, 6, none⟩) htb h.height
  have c7 := hm.keep.cell (p := ⟨tb, 7, none⟩) htb h.sl.count
  have c7' : (wr.setCell ⟨tb, 6, none⟩ (.int .i64 (hg' : Nat))).cell? ⟨tb, 7, none⟩ = some (.int .i64 ns.length) := (World.cell?_setCell_other _ _ _ _ (addr_ne (by decide))).trans c7
  have k : Keep [tb] wr ((wr.setCell ⟨tb, 6, none⟩ (.int .i64 (hg' : Nat))).setCell ⟨tb, 7, none⟩ (.int .i64 ((ns.length + 1 : Nat) : Int))) :=
    ((Keep.refl [tb] wr).set (p := ⟨tb, 6, none⟩) (.int .i64 (hg' : Nat)) (.inr ⟨List.mem_singleton.2 rfl, fun n => by rw [c6]; exact fun e => by cases e⟩)).set (p := ⟨tb, 7, none⟩) _ (.inr ⟨List.mem_singleton.2 rfl, fun n => by rw [c7']; exact fun e => by cases e⟩)
  have hnd : (blocks tb t0 (ins ns p x)).Nodup := by
    rw [(blocks_perm tb t0 ns p x).nodup_iff, List.nodup_cons, List.nodup_cons]
    refine ⟨fun h' => ?_, (hnew _ (.inr rfl)).1, h.nodup⟩
    rcases List.mem_cons.1 h' with e | e
    · exact hbt e
    · exact (hnew _ (.inl rfl)).1 e
  have hc' : Ch ((wr.setCell ⟨tb, 6, none⟩ (.int .i64 (hg' : Nat))).setCell ⟨tb, 7, none⟩ (.int .i64 ((ns.length + 1 : Nat) : Int))) t0 (ins ns p x) := hc.keep (tb := tb) k (fun b hb => by
    rw [List.mem_singleton.1 hb]
    exact (List.nodup_cons.1 hnd).1)
  have hcell : ∀ j v, j ≠ 6 → j ≠ 7 → W.cell? ⟨tb, j, none⟩ = some v → ((wr.setCell ⟨tb, 6, none⟩ (.int .i64 (hg' : Nat))).setCell ⟨tb, 7, none⟩ (.int .i64 ((ns.length + 1 : Nat) : Int))).cell? ⟨tb, j, none⟩ = some v := fun j v h6 h7 hv =>
    (World.cell?_setCell_other _ _ _ _ (addr_ne (Ne.symm h7))).trans ((World.cell?_setCell_other _ _ _ _ (addr_ne (Ne.symm h6))).trans (hm.keep.cell (p := ⟨tb, j, none⟩) htb hv))
  have hmem : ∀ b, b ∈ blocks tb t0 (ins ns p x) → (b = x.b ∨ b = x.t) ∨ b ∈ blocks tb t0 ns := fun b hb => by
    rcases List.mem_cons.1 ((blocks_perm tb t0 ns p x).mem_iff.1 hb) with e | e
    · exact .inl (.inl e)
    · rcases List.mem_cons.1 e with e | e
      · exact .inl (.inr e)
      · exact .inr e
  refine ⟨⟨hcell 4 _ (by decide) (by decide) h.sl.head, hcell 5 _ (by decide) (by decide) h.sl.cmp, ?_, hc'.h0, hc'.nd, by rw [hp]; exact ins_sorted h.sl.sorted (fun j hj _ => hno j hj)⟩, ?_, hcell 8 _ (by decide) (by decide) h.draws, hcell 9 _ (by decide) (by decide) h.size, fun b hb => ?_, hnd, ?_, fun a ha hb => ?_, fun a ha => Nat.lt_of_lt_of_le (Nat.lt_of_lt_of_le (h.old a ha) hm.keep.size) k.size⟩
  · rw [ins_length hpl]
    exact World.cell?_setCell_same' _ _ _ (by rw [c7']; rfl)
  · exact (World.cell?_setCell_other _ _ _ _ (addr_ne (by decide))).trans (World.cell?_setCell_same' _ _ _ (by rw [c6]; rfl))
  · have hb' : B ≤ b ∧ b < W.heap.size ∧ (∀ j, W.frozen? ⟨b, j, none⟩ = false) ∧ Kind W b := by
      rcases hmem b hb with h1 | h1
      · obtain ⟨_, g1, g2, g3, g4, _⟩ := hnew b h1
        exact ⟨g1, g2, g3, g4⟩
      · exact h.own b h1
    obtain ⟨g1, g2, g3, g4⟩ := hb'
    have g5 := Nat.lt_of_lt_of_le g2 hm.keep.size
    exact ⟨g1, Nat.lt_of_lt_of_le g5 k.size, fun j => (k.frz ⟨b, j, none⟩ g5).trans ((hm.keep.frz ⟨b, j, none⟩ g2).trans (g3 j)), (g4.keep g2 hm.keep).keep g5 k⟩
  · refine (h.ints.keep hm.keep (fun a ha hb => ?_)).keep k (fun a ha hb => ?_)
    · rcases List.mem_cons.1 hb with e | e
      · exact (hnew _ (.inr rfl)).2.2.2.2.2 a ha e
      · exact h.apart a ha (tws_sub e)
    · exact h.apart a ha (by rw [List.mem_singleton.1 hb]; simp [blocks])
  · rcases hmem _ hb with h1 | h1
    · exact (hnew _ h1).2.2.2.2.2 a ha rfl
    · exact h.apart a ha h1
end Go.Proofs.Ytgcealgkhlbgmaa
