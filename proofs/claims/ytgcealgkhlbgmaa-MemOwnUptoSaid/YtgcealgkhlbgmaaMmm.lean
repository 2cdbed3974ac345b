/- A table and the reference's beside each other. -/
import Derived.Test.YtgcealgkhlbgmaaMml
import Derived.Test.YtgcealgkhlbgmaaMme
namespace Go.Proofs.Ytgcealgkhlbgmaa
open Go.RowKit
set_option linter.unusedVariables false

theorem firstAt_eq {L : List Ent} (hs : L.Pairwise Ent.lt) (key : List UInt8) (up : Nat) : Ent.firstAt L key up = Ent.getAt L key up := by
  have hp := List.pairwise_iff_getElem.1 hs
  cases hf : Ent.firstAt L key up with
  | none =>
    cases hg : Ent.getAt L key up with
    | none => rfl
    | some x =>
      exfalso
      obtain ⟨h1, h2, h3⟩ := (getAt_iff hs key up x).1 hg
      have := List.find?_eq_none.1 hf x h1
      exact this (decide_eq_true ⟨h2, h3.1⟩)
  | some x =>
    obtain ⟨h1, i, hi, rfl, hlo⟩ := List.find?_eq_some_iff_getElem.1 hf
    have h2 := of_decide_eq_true h1
    refine ((getAt_iff hs key up _).2 ⟨List.getElem_mem _, h2.1, h2.2, fun y hy hk hu => ?_⟩).symm
    obtain ⟨j, hj, rfl⟩ := List.mem_iff_getElem.1 hy
    rcases Nat.lt_trichotomy j i with h3 | h3 | h3
    · have h4 := hlo j h3
      rw [decide_eq_true (show L[j].key = key ∧ L[j].seq ≤ up from ⟨hk.trans h2.1, hu⟩)] at h4
      cases h4
    · subst h3; exact Nat.le_refl _
    · rcases hp i j hi hj h3 with h4 | h4
      · rw [hk, Ent.klt_irrefl] at h4
        cases h4
      · exact Nat.le_of_lt h4.2
theorem findIdx_same {α : Type} {p q : α → Bool} : ∀ {l : List α}, (∀ x ∈ l, p x = q x) → l.findIdx p = l.findIdx q
  | [], _ => rfl
  | x :: l, h => by rw [List.findIdx_cons, List.findIdx_cons, h x List.mem_cons_self, findIdx_same (fun y hy => h y (List.mem_cons_of_mem _ hy))]
theorem fromAt_eq {L : List Ent} (key : List UInt8) (hsq : ∀ e ∈ L, e.seq ≤ 18446744073709551615) : Ent.fromAt L key = Ent.idx' L (keyHi key) := by
  refine findIdx_same fun x hx => ?_
  have h1 : Ent.cmp x (keyHi key) = -1 ↔ Ent.klt x.key key = true := by
    rw [Ent.cmp_lt]
    constructor
    · rintro (h | h)
      · exact h
      · have h2 : 18446744073709551615 < x.seq := h.2
        have := hsq x hx
        omega
    · exact .inl
  cases hk : Ent.klt x.key key with
  | true => rw [decide_eq_true (h1.2 hk)]
  | false =>
    rw [decide_eq_false]
    intro h
    rw [h1.1 h] at hk
    cases hk
theorem foldl_max (a : Nat) : ∀ l : List Nat, l.foldl max a = max a (l.foldl max 0)
  | [] => by simp
  | x :: l => by
    rw [List.foldl_cons, List.foldl_cons, foldl_max (max a x) l, foldl_max (max 0 x) l]
    omega
theorem maxs_app (l m : List Nat) : maxs (l ++ m) = max (maxs l) (maxs m) := by
  unfold maxs
  rw [List.foldl_append, foldl_max]
theorem maxs_cons (x : Nat) (l : List Nat) : maxs (x :: l) = max x (maxs l) := by
  unfold maxs
  rw [List.foldl_cons, foldl_max]
  omega
theorem maxs_layh (L : List Ent) (hs : List Nat) (v : Ent) (h : Nat) : maxs (Ent.layh L hs v h) = if Ent.has L v then maxs hs else max (maxs hs) h := by
  unfold Ent.layh
  split
  · rfl
  · have h1 := maxs_app (hs.take (Ent.idx' L v)) (hs.drop (Ent.idx' L v))
    rw [List.take_append_drop] at h1
    rw [maxs_app, maxs_cons, h1]
    omega
theorem tower_le (ld : List Int) (n : Nat) : tower ld n ≤ 12 := by
  unfold tower
  split
  · omega
  · omega
theorem layh_le {L : List Ent} {hs : List Nat} {v : Ent} {h : Nat} (hh : ∀ x ∈ hs, x ≤ 12) (h1 : h ≤ 12) : ∀ x ∈ Ent.layh L hs v h, x ≤ 12 := by
  unfold Ent.layh
  split
  · exact hh
  · intro x hx
    rcases List.mem_append.1 hx with h2 | h2
    · exact hh x (List.mem_of_mem_take h2)
    · rcases List.mem_cons.1 h2 with h3 | h3
      · omega
      · exact hh x (List.mem_of_mem_drop h3)
/-! Put, and what kind of blocks it touches. -/
def TPut2 (w : World) (B tb : Nat) (bs : List Nat) (L : List Ent) (hg : Nat) (hs : List Nat) (ld : List Int) (v : Ent) (e : Ending) (w' : World) : Prop :=
  ∃ bs' S, e = .returned (.tuple #[]) ∧ Keep S w w' ∧ (∀ b ∈ S, b ∈ bs ∧ Kind w b) ∧ (∀ b ∈ bs', b ∈ bs ∨ w.heap.size ≤ b) ∧
    Tbl w' B tb bs' (Ent.lay L v) (if Ent.has L v then hg else max hg (tower ld L.length)) (Ent.layh L hs v (tower ld L.length)) ld
theorem tlay2_any (B tb : Nat) (bs : List Nat) (L : List Ent) (hg : Nat) (hs : List Nat) (ld : List Int) (v : Ent) (va : Option Addr) (vc : Nat) (w : World) (h : Tbl w B tb bs L hg hs ld) (hv : Bs w va v.val.length vc v.val) (hn : L.length ≤ 1000000000)
    (hk : v.key.length ≤ 1000000000) (hvl : v.val.length ≤ 1000000000) (hsz : Ent.costs L ≤ 1000000000000000) (hfew : ∀ e ∈ L, e.key.length ≤ 1000000000 ∧ e.val.length ≤ 1000000000) :
    Calls Try.prog 11 #[.pointer (some ⟨tb, 0, none⟩), ev v va vc] w (TPut2 w B tb bs L hg hs ld v.laid) := by
  obtain ⟨t0, ns, ad, nd, cd, h1, rfl, rfl, rfl, h2⟩ := h
  refine (tput_any B tb t0 ns hg ad nd cd ld v va vc w h1 hv (by simpa using hn) hk hvl hsz hfew).mono ?_
  rintro e w' ⟨va', vc', ns', hg', rfl, hnew, hkeep, hT, hcase⟩
  rcases hcase with ⟨j, hj, hc, rfl, rfl⟩ | ⟨hno, rfl, x, hx1, hx2, hx3, hx4, hx5, rfl⟩
  · have hjb := found_at h1.sl.sorted hj hc
    subst hjb
    have hhas : Ent.has (ns.map Nd.e) v.laid := has_iff.2 ⟨hj, hc⟩
    refine ⟨db ad ++ blocks tb t0 (setv ns (below ns v.laid) v.laid va' vc'), blocks tb t0 ns, rfl, hkeep, fun g hg => ⟨List.mem_append.2 (.inr hg), (h1.own g hg).2.2.2⟩, fun b hb => .inl (by rwa [setv_blocks _ _ _ hj] at hb), ?_⟩
    rw [if_pos hhas]
    refine ⟨t0, _, ad, nd, cd, ?_, rfl, ?_, ?_, h2⟩
    · have e1 : Ent.lay (ns.map Nd.e) v.laid = (setv ns (below ns v.laid) v.laid va' vc').map Nd.e := by
        unfold Ent.lay
        rw [if_pos hhas, setv_ents, below_idx]
      rw [e1]; exact hT
    · unfold Ent.lay
      rw [if_pos hhas, setv_ents, below_idx]
    · unfold Ent.layh
      rw [if_pos hhas]
      exact (setv_map Nd.h v.laid va' vc' hj rfl).symm
  · have hhas : ¬ Ent.has (ns.map Nd.e) v.laid := fun h => by
      obtain ⟨h3, h4⟩ := has_iff.1 h
      exact hno _ h3 h4
    have e1 : Ent.lay (ns.map Nd.e) v.laid = (ins ns (below ns v.laid) x).map Nd.e := by
      unfold Ent.lay ins
      rw [if_neg hhas, below_idx]
      simp [hx1]
    refine ⟨db ad ++ blocks tb t0 (ins ns (below ns v.laid) x), blocks tb t0 ns, rfl, hkeep, fun g hg => ⟨List.mem_append.2 (.inr hg), (h1.own g hg).2.2.2⟩, fun b hb => ?_, ?_⟩
    · rcases List.mem_append.1 hb with hb | hb
      · exact .inl (List.mem_append.2 (.inl hb))
      rcases List.mem_cons.1 ((blocks_perm tb t0 ns _ x).mem_iff.1 hb) with e | e
      · exact .inr (by omega)
      · rcases List.mem_cons.1 e with e | e
        · exact .inr (by omega)
        · exact .inl (List.mem_append.2 (.inr e))
    · rw [if_neg hhas]
      refine ⟨t0, ins ns (below ns v.laid) x, ad, nd, cd, ?_, rfl, e1, ?_, h2⟩
      · rw [e1, List.length_map]; exact hT
      · unfold Ent.layh ins
        rw [if_neg hhas, below_idx, List.length_map]
        simp [hx4]
theorem Kind.apart {w : World} {b : Nat} (h : Kind w b) : ∃ t n, w.shape? b = some (t, n) ∧ t ≠ 43 ∧ t ≠ 30 ∧ t ≠ 3 := by
  obtain ⟨t, n, h1, h2⟩ := h
  refine ⟨t, n, h1, ?_⟩
  rcases h2 with rfl | rfl | rfl <;> decide
theorem RT.bs {w : World} {B rb : Nat} {R : List Nat} {ad : Option Addr} {nd cd : Nat} {ld : List Int} {L : List Ent} {hs : List Nat} (h : RT w B rb R ad nd cd ld L hs) : ∀ b ∈ R, B ≤ b ∧ b < w.heap.size := by
  obtain ⟨aL, cL, aH, cH, h1, h2, h3, h4, h5, h6, h7, rfl⟩ := h
  intro b hb
  rcases List.mem_cons.1 hb with hb | hb
  · subst hb
    exact ⟨h5, (Array.getElem?_eq_some_iff.1 h1).1⟩
  · obtain ⟨x, hx, rfl⟩ := mem_db.1 hb
    exact h2.new x hx
theorem RT.es {w : World} {B rb : Nat} {R : List Nat} {ad : Option Addr} {nd cd : Nat} {ld : List Int} {L : List Ent} {hs : List Nat} (h : RT w B rb R ad nd cd ld L hs) : ∃ aL cL, w.cell? ⟨rb, 1, none⟩ = some (.slice aL L.length cL) ∧ Es w aL L.length cL L := by
  obtain ⟨aL, cL, aH, cH, h1, h2, _⟩ := h
  have c1 := cell_of_row _ _ 1 _ _ _ h1
  simp at c1
  exact ⟨aL, cL, c1, h2.es⟩
theorem RT.start {w : World} {B : Nat} {ad : Option Addr} {nd cd : Nat} {ld : List Int} (h : Is w ad nd cd ld) (hB : B ≤ w.heap.size) (ho : 0 < nd → ∀ x, ad = some x → x.block < B) :
    RT (w.alloc (.cells #[.slice ad nd cd, .slice none 0 0, .slice none 0 0, .int .i64 0] 43)) B w.heap.size [w.heap.size] ad nd cd ld [] [] :=
  ⟨none, 0, none, 0, (show (w.heap.push _)[w.heap.size]? = _ from Array.getElem?_push_size), AccE.nil _ _, World.ownsRow_nil _ _ _ _, h.below (below_alloc1 _ _), hB, rfl, ho, rfl⟩
/-- A table and the reference's: what they hold. -/
structure Duo (wo W : World) (tb rb : Nat) (ad : Option Addr) (nd cd : Nat) (ld : List Int) (LT LR : List Ent) (hT hR : List Nat) : Prop where
  ex : ∃ bs R, Tbl W wo.heap.size tb bs LT (maxs hT) hT ld ∧ RT W wo.heap.size rb R ad nd cd ld LR hR ∧ (∀ b ∈ R, b ∉ bs)
  below : Below wo.heap.size wo W
theorem Duo.later {wo W W' : World} {tb rb : Nat} {ad : Option Addr} {nd cd : Nat} {ld : List Int} {LT LR : List Ent} {hT hR : List Nat} (h : Duo wo W tb rb ad nd cd ld LT LR hT hR) (hb : Below W.heap.size W W') : Duo wo W' tb rb ad nd cd ld LT LR hT hR := by
  obtain ⟨bs, R, h1, h2, h3⟩ := h.ex
  exact ⟨⟨bs, R, h1.below hb, h2.below hb, h3⟩, h.below.trans (hb.mono h.below.size)⟩
theorem Duo.putT {wo W : World} {tb rb : Nat} {ad : Option Addr} {nd cd : Nat} {ld : List Int} {LT LR : List Ent} {hT hR : List Nat} (h : Duo wo W tb rb ad nd cd ld LT LR hT hR) (v : Ent) (va : Option Addr) (vc : Nat) (hv : Bs W va v.val.length vc v.val) (hn : LT.length ≤ 10000) (hsm : ∀ e ∈ LT, Sm e) (hsv : Sm v) :
    Calls Try.prog 11 #[.pointer (some ⟨tb, 0, none⟩), ev v va vc] W fun e W' => e = .returned (.tuple #[]) ∧ Duo wo W' tb rb ad nd cd ld (Ent.lay LT v.laid) LR (Ent.layh LT hT v.laid (tower ld LT.length)) hR := by
  obtain ⟨bs, R, h1, h2, h3⟩ := h.ex
  refine (tlay2_any _ tb bs LT _ hT ld v va vc W h1 hv (by omega) (by have := hsv.1; omega) (by have := hsv.1; omega) (by have := costs_sm hsm; omega) (fun e he => by have := (hsm e he).1; omega)).mono ?_
  rintro e W' ⟨bs', S, rfl, hk, hS, hsub, hT'⟩
  rw [← maxs_layh] at hT'
  refine ⟨rfl, ⟨bs', R, hT', h2.keep hk (fun b hb => (h1.bs b (hS b hb).1).1) (fun b hb => (hS b hb).2.apart), fun b h4 h5 => ?_⟩, h.below.trans (hk.below (fun b hb => (h1.bs b (hS b hb).1).1) h.below.size)⟩
  rcases hsub b h5 with h6 | h6
  · exact h3 b h4 h6
  · have := (h2.bs b h4).2
    omega
theorem Duo.putR {wo W : World} {tb rb : Nat} {ad : Option Addr} {nd cd : Nat} {ld : List Int} {LT LR : List Ent} {hT hR : List Nat} (h : Duo wo W tb rb ad nd cd ld LT LR hT hR) (v : Ent) (va : Option Addr) (vc : Nat) (hv : Bs W va v.val.length vc v.val) (hn : LR.length ≤ 10000) (hso : LR.Pairwise Ent.lt) (hsv : Sm v) :
    Calls Try.prog 19 #[.pointer (some ⟨rb, 0, none⟩), ev v va vc] W fun e W' => e = .returned (.tuple #[]) ∧ Duo wo W' tb rb ad nd cd ld LT (Ent.lay LR v.laid) hT (Ent.layh LR hR v.laid (tower ld LR.length)) := by
  obtain ⟨bs, R, h1, h2, h3⟩ := h.ex
  refine (refput_any _ rb R ad nd cd ld LR hR v va vc W h2 h.below.size hv (by have := hsv.1; omega) (by omega) hso).mono ?_
  rintro e W' ⟨R', rfl, hk, hsub, hR'⟩
  refine ⟨rfl, ⟨bs, R', h1.keep hk h3, hR', fun b h4 h5 => ?_⟩, h.below.trans (hk.below (fun b hb => (h2.bs b hb).1) h.below.size)⟩
  rcases hsub b h4 with h6 | h6
  · exact h3 b h6 h5
  · have := (h1.bs b h5).2
    omega
theorem Duo.lens {wo W : World} {tb rb : Nat} {ad : Option Addr} {nd cd : Nat} {ld : List Int} {LT LR : List Ent} {hT hR : List Nat} (h : Duo wo W tb rb ad nd cd ld LT LR hT hR) :
    Calls Try.prog 14 #[.pointer (some ⟨tb, 0, none⟩)] W fun e w' => e = .returned (.int .i64 LT.length) ∧ Below W.heap.size W w' := by
  obtain ⟨bs, R, h1, h2, h3⟩ := h.ex
  exact tlen_any _ _ _ _ _ _ _ W h1
theorem Duo.sizeT {wo W : World} {tb rb : Nat} {ad : Option Addr} {nd cd : Nat} {ld : List Int} {LT LR : List Ent} {hT hR : List Nat} (h : Duo wo W tb rb ad nd cd ld LT LR hT hR) :
    Calls Try.prog 15 #[.pointer (some ⟨tb, 0, none⟩)] W fun e w' => e = .returned (.int .i64 (Ent.costs LT)) ∧ Below W.heap.size W w' := by
  obtain ⟨bs, R, h1, h2, h3⟩ := h.ex
  exact tsize_any _ _ _ _ _ _ _ W h1
theorem Duo.sizeR {wo W : World} {tb rb : Nat} {ad : Option Addr} {nd cd : Nat} {ld : List Int} {LT LR : List Ent} {hT hR : List Nat} (h : Duo wo W tb rb ad nd cd ld LT LR hT hR) (hn : LR.length ≤ 10000) (hsm : ∀ e ∈ LR, Sm e) :
    Calls Try.prog 26 #[.pointer (some ⟨rb, 0, none⟩)] W fun e w' => e = .returned (.int .i64 (Ent.costs LR)) ∧ Below W.heap.size W w' := by
  obtain ⟨bs, R, h1, h2, h3⟩ := h.ex
  exact refsize_any _ _ _ _ _ _ _ _ _ W h2 (by have := costs_sm hsm; omega)
theorem Duo.heightT {wo W : World} {tb rb : Nat} {ad : Option Addr} {nd cd : Nat} {ld : List Int} {LT LR : List Ent} {hT hR : List Nat} (h : Duo wo W tb rb ad nd cd ld LT LR hT hR) :
    Calls Try.prog 24 #[.pointer (some ⟨tb, 0, none⟩)] W fun e w' => e = .returned (.int .i64 (maxs hT : Nat)) ∧ Below W.heap.size W w' := by
  obtain ⟨bs, R, h1, h2, h3⟩ := h.ex
  exact theight_any _ _ _ _ _ _ _ W h1
theorem Duo.heightR {wo W : World} {tb rb : Nat} {ad : Option Addr} {nd cd : Nat} {ld : List Int} {LT LR : List Ent} {hT hR : List Nat} (h : Duo wo W tb rb ad nd cd ld LT LR hT hR) (hh : ∀ x ∈ hR, x ≤ 12) :
    Calls Try.prog 25 #[.pointer (some ⟨rb, 0, none⟩)] W fun e w' => e = .returned (.int .i64 (maxs hR : Nat)) ∧ Below W.heap.size W w' := by
  obtain ⟨bs, R, h1, h2, h3⟩ := h.ex
  exact refheight_any _ _ _ _ _ _ _ _ _ W h2 hh
theorem Duo.get {wo W : World} {tb rb : Nat} {ad : Option Addr} {nd cd : Nat} {ld : List Int} {LT LR : List Ent} {hT hR : List Nat} (h : Duo wo W tb rb ad nd cd ld LT LR hT hR) (key : List UInt8) (up : Nat) (hsm : ∀ e ∈ LT, Sm e) :
    Calls Try.prog 20 #[.pointer (some ⟨tb, 0, none⟩), .string (bstr key), .int .u64 up] W (TGet W (Ent.getAt LT key up)) := by
  obtain ⟨bs, R, h1, h2, h3⟩ := h.ex
  exact tget_any _ _ _ _ _ _ _ key up W h1 (fun e he => by have := (hsm e he).1; omega)
theorem Duo.all {wo W : World} {tb rb : Nat} {ad : Option Addr} {nd cd : Nat} {ld : List Int} {LT LR : List Ent} {hT hR : List Nat} (h : Duo wo W tb rb ad nd cd ld LT LR hT hR) (hn : LT.length ≤ 10000) (hsm : ∀ e ∈ LT, Sm e) :
    Calls Try.prog 13 #[.pointer (some ⟨tb, 0, none⟩)] W (ColP W LT) := by
  obtain ⟨bs, R, h1, h2, h3⟩ := h.ex
  exact tallrow_any _ _ _ _ _ _ _ W h1 (by omega) (fun e he => (hsm e he).2) (fun e he => by have := (hsm e he).1; omega)
theorem Duo.from {wo W : World} {tb rb : Nat} {ad : Option Addr} {nd cd : Nat} {ld : List Int} {LT LR : List Ent} {hT hR : List Nat} (h : Duo wo W tb rb ad nd cd ld LT LR hT hR) (key : List UInt8) (hn : LT.length ≤ 10000) (hsm : ∀ e ∈ LT, Sm e) :
    Calls Try.prog 28 #[.pointer (some ⟨tb, 0, none⟩), .string (bstr key)] W (ColP W (LT.drop (Ent.fromAt LT key))) := by
  obtain ⟨bs, R, h1, h2, h3⟩ := h.ex
  rw [fromAt_eq key (fun e he => (hsm e he).2)]
  exact tfromrow_any _ _ _ _ _ _ _ key W h1 (by omega) (fun e he => by have := (hsm e he).1; omega)
theorem Duo.es {wo W : World} {tb rb : Nat} {ad : Option Addr} {nd cd : Nat} {ld : List Int} {LT LR : List Ent} {hT hR : List Nat} (h : Duo wo W tb rb ad nd cd ld LT LR hT hR) : ∃ aL cL, W.cell? ⟨rb, 1, none⟩ = some (.slice aL LR.length cL) ∧ Es W aL LR.length cL LR := by
  obtain ⟨bs, R, h1, h2, h3⟩ := h.ex
  exact h2.es
end Go.Proofs.Ytgcealgkhlbgmaa
