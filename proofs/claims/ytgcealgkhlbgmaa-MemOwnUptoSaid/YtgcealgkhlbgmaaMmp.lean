/- MemOwn: a table and the reference's, the table's draws its own. -/
import Derived.Test.YtgcealgkhlbgmaaMmo
import Derived.Test.YtgcealgkhlbgmaaMmm
import Derived.Test.YtgcealgkhlbgmaaRangeX
namespace Go.Proofs.Ytgcealgkhlbgmaa
open Go.RowKit
set_option linter.unusedVariables false

theorem lays_hits : ∀ {es L : List Ent} {v : Ent}, L.Pairwise Ent.lt → ((∃ y ∈ L, Ent.cmp y v = 0) ∨ v ∈ es) → ∃ y ∈ Ent.lays L es, Ent.cmp y v = 0
  | [], L, v, hs, h => by
    rcases h with h | h
    · exact h
    · cases h
  | u :: es, L, v, hs, h => by
    show ∃ y ∈ Ent.lays (Ent.lay L u) es, Ent.cmp y v = 0
    refine lays_hits (sorted_lay hs) ?_
    rcases h with ⟨y, hy, hc⟩ | h
    · by_cases hu : Ent.cmp y u = 0
      · refine .inl ⟨u, (mem_lay hs).2 (.inl rfl), ?_⟩
        have h1 := Ent.cmp_eq.1 hu
        have h2 := Ent.cmp_eq.1 hc
        exact Ent.cmp_eq.2 ⟨h1.1.symm.trans h2.1, h1.2.symm.trans h2.2⟩
      · exact .inl ⟨y, (mem_lay hs).2 (.inr ⟨hy, hu⟩), hc⟩
    · rcases List.mem_cons.1 h with h | h
      · exact .inl ⟨u, (mem_lay hs).2 (.inl rfl), by rw [h]; exact Ent.cmp_eq.2 ⟨rfl, rfl⟩⟩
      · exact .inr h
theorem lays_get {l : List Ent} {v : Ent} (hv : v ∈ l) : ∃ y, Ent.getAt (Ent.lays [] (l.map Ent.laid)) v.key v.seq = some y := by
  have hs : (Ent.lays [] (l.map Ent.laid)).Pairwise Ent.lt := lays_sorted List.Pairwise.nil
  obtain ⟨y, hy, hc⟩ := lays_hits (es := l.map Ent.laid) (L := []) (v := v.laid) List.Pairwise.nil (.inr (List.mem_map.2 ⟨v, hv, rfl⟩))
  have h1 := Ent.cmp_eq.1 hc
  refine ⟨y, (getAt_iff hs _ _ _).2 ⟨hy, h1.1, Nat.le_of_eq h1.2, fun x hx hk hu => ?_⟩⟩
  rw [h1.2]
  exact hu
/-- The two tables; the cell that holds where the reference's lies. -/
structure Pair (wo W : World) (tb rb b8 : Nat) (lt : List Int) (LT LR : List Ent) : Prop where
  ex : ∃ bs hg hs R hR, Tbl W wo.heap.size tb bs LT hg hs lt ∧ RT W wo.heap.size rb R none 0 0 [] LR hR ∧ (∀ b ∈ R, b ∉ bs) ∧ b8 ∉ bs ∧ b8 ∉ R
  below : Below wo.heap.size wo W
  cell : W.cell? ⟨b8, 0, none⟩ = some (.pointer (some ⟨rb, 0, none⟩))
theorem Pair.later {wo W W' : World} {tb rb b8 : Nat} {lt : List Int} {LT LR : List Ent} (h : Pair wo W tb rb b8 lt LT LR) (hb : Below W.heap.size W W') : Pair wo W' tb rb b8 lt LT LR := by
  obtain ⟨bs, hg, hs, R, hR, h1, h2, h3⟩ := h.ex
  exact ⟨⟨bs, hg, hs, R, hR, h1.below hb, h2.below hb, h3⟩, h.below.trans (hb.mono h.below.size), cell_later hb h.cell⟩
theorem Pair.putR {wo W : World} {tb rb b8 : Nat} {lt : List Int} {LT LR : List Ent} (h : Pair wo W tb rb b8 lt LT LR) (v : Ent) (va : Option Addr) (vc : Nat) (hv : Bs W va v.val.length vc v.val) (hn : LR.length ≤ 10000) (hso : LR.Pairwise Ent.lt) (hsv : Sm v) :
    Calls Try.prog 19 #[.pointer (some ⟨rb, 0, none⟩), ev v va vc] W fun e W' => e = .returned (.tuple #[]) ∧ Pair wo W' tb rb b8 lt LT (Ent.lay LR v.laid) := by
  obtain ⟨bs, hg, hs, R, hR, h1, h2, h3, h4, h5⟩ := h.ex
  have hc8 : b8 < W.heap.size := World.block_lt_of_cell? _ _ h.cell
  refine (refput_any _ rb R none 0 0 [] LR hR v va vc W h2 h.below.size hv (by have := hsv.1; omega) (by omega) hso).mono ?_
  rintro e W' ⟨R', rfl, hk, hsub, hR'⟩
  refine ⟨rfl, ⟨bs, hg, hs, R', _, h1.keep hk h3, hR', fun b h6 h7 => ?_, h4, fun h6 => ?_⟩, h.below.trans (hk.below (fun b hb => (h2.bs b hb).1) h.below.size), hk.cell h5 h.cell⟩
  · rcases hsub b h6 with h8 | h8
    · exact h3 b h8 h7
    · have := (h1.bs b h7).2
      omega
  · rcases hsub b8 h6 with h8 | h8
    · exact h5 h8
    · omega
theorem Pair.get {wo W : World} {tb rb b8 : Nat} {lt : List Int} {LT LR : List Ent} (h : Pair wo W tb rb b8 lt LT LR) (key : List UInt8) (up : Nat) (hsm : ∀ e ∈ LT, Sm e) :
    Calls Try.prog 20 #[.pointer (some ⟨tb, 0, none⟩), .string (bstr key), .int .u64 up] W (TGet W (Ent.getAt LT key up)) := by
  obtain ⟨bs, hg, hs, R, hR, h1, h2, h3⟩ := h.ex
  exact tget_any _ _ _ _ _ _ _ key up W h1 (fun e he => by have := (hsm e he).1; omega)
theorem Pair.all {wo W : World} {tb rb b8 : Nat} {lt : List Int} {LT LR : List Ent} (h : Pair wo W tb rb b8 lt LT LR) (hn : LT.length ≤ 10000) (hsm : ∀ e ∈ LT, Sm e) :
    Calls Try.prog 21 #[.pointer (some ⟨tb, 0, none⟩)] W (FromP W LT) := by
  obtain ⟨bs, hg, hs, R, hR, ⟨t0, ns, ad, nd, cd, h1, rfl, rfl, rfl, h2⟩, h3⟩ := h.ex
  have hm : ∀ i, i < ns.length → (nth ns i).e ∈ ns.map Nd.e := fun i hi => by rw [nth_eq _ hi]; exact List.mem_map.2 ⟨_, List.getElem_mem _, rfl⟩
  exact tall_any tb t0 ns W h1.sl (by have := hn; rw [List.length_map] at this; omega) (fun i hi => (hsm _ (hm i hi)).2)
/-- What is read of both: the rows that the sequence goes over, and the reference's. -/
structure Rd (W : World) (rb b8 bx : Nat) (L LR : List Ent) : Prop where
  seq : ∃ a k c, W.cell? ⟨bx, 0, none⟩ = some (.slice a k c) ∧ Es W a k c L
  ref : ∃ a k c, W.cell? ⟨rb, 1, none⟩ = some (.slice a k c) ∧ Es W a k c LR
  cell : W.cell? ⟨b8, 0, none⟩ = some (.pointer (some ⟨rb, 0, none⟩))
theorem Rd.later {W W' : World} {rb b8 bx : Nat} {L LR : List Ent} (h : Rd W rb b8 bx L LR) (hb : Below W.heap.size W W') : Rd W' rb b8 bx L LR := by
  obtain ⟨a, k, c, h1, h2⟩ := h.seq
  obtain ⟨a', k', c', h3, h4⟩ := h.ref
  exact ⟨⟨a, k, c, cell_later hb h1, h2.below hb⟩, ⟨a', k', c', cell_later hb h3, h4.below hb⟩, cell_later hb h.cell⟩
theorem AccE.keepRows {S : List Nat} {w w' : World} {B n c : Nat} {a : Option Addr} {l : List Ent} (h : AccE w B a n c l) (k : Keep S w w') (hn : ∀ b ∈ S, b < B) : AccE w' B a n c l := by
  obtain ⟨cs, h1, h2⟩ := h.row
  refine ⟨h.len, cs, ⟨h1.1, ?_⟩, fun i hi => ?_⟩
  · rcases h1.2 with g | ⟨g, cap, cur, g1, g2, g3, g4⟩
    · exact .inl g
    · refine .inr ⟨g, cap, cur, g1, g2, ?_, g4⟩
      rw [k.block g (Array.getElem?_eq_some_iff.1 g3).1 (fun hm => by have := hn g hm; omega)]
      exact g3
  · obtain ⟨ai, ci, e1, e2, e3⟩ := h2 i hi
    exact ⟨ai, ci, e1, e2.keep k, e3⟩
/-- A version laid in behind the sequence changes nothing of what is read. -/
theorem Pair.putLate {wo W W1 : World} {tb rb b8 bx : Nat} {lt : List Int} {LT LR : List Ent} {a : Option Addr} {k c : Nat} (h : Pair wo W tb rb b8 lt LT LR) (hb : Below W.heap.size W W1) (hbx : W.heap.size ≤ bx) (hbox : W1.cell? ⟨bx, 0, none⟩ = some (.slice a k c)) (hacc : AccE W1 W.heap.size a k c LT) (v : Ent) (va : Option Addr) (vc : Nat) (hv : Bs W1 va v.val.length vc v.val) (hn : LT.length ≤ 10000) (hsm : ∀ e ∈ LT, Sm e) (hsv : Sm v) :
    Calls Try.prog 11 #[.pointer (some ⟨tb, 0, none⟩), ev v va vc] W1 fun e W' => e = .returned (.tuple #[]) ∧ Rd W' rb b8 bx LT LR ∧ Below wo.heap.size W1 W' := by
  obtain ⟨bs, hg, hs, R, hR, h1, h2, h3, h4, h5⟩ := h.ex
  have hc := costs_sm hsm
  refine (tlay2_any _ tb bs LT _ hs lt v va vc W1 (h1.below hb) hv (by omega) (by have := hsv.1; omega) (by have := hsv.1; omega) (by omega) (fun e he => by have := (hsm e he).1; omega)).mono ?_
  rintro e W' ⟨bs', S, rfl, hk, hS, hsub, hT'⟩
  have hlt : ∀ b ∈ S, b < W.heap.size := fun b hb => (h1.bs b (hS b hb).1).2
  have hR2 := (h2.below hb).keep hk (fun b hb => (h1.bs b (hS b hb).1).1) (fun b hb => (hS b hb).2.apart)
  obtain ⟨aL, cL, e1, e2⟩ := hR2.es
  refine ⟨rfl, ⟨⟨a, k, c, hk.cell (fun hm => by have h9 : bx < W.heap.size := hlt _ hm; omega) hbox, (hacc.keepRows hk hlt).es⟩, ⟨aL, _, cL, e1, e2⟩, hk.cell (fun hm => h4 (hS _ hm).1) (cell_later hb h.cell)⟩, hk.below (fun b hb => (h1.bs b (hS b hb).1).1) (Nat.le_trans h.below.size hb.size)⟩
/-! A range that may be left by 'break'; what a function with two ranges leaves. -/
section
variable {P : Program} {Q : Exit → Act → World → Prop} {a : Act} {w : World} {α : Type}
theorem range_brk {g : Operand} {ps : Array Tmp} {assign body : Code} {gf id : Nat} {lb : Array Value} (hg : a.eval g = .func (.func gf) #[] lb) (eg : ∀ args w, (callFunc gf args).run P w = .ok (.enter gf args) w)
    {encs : α → Array Value} {X : α → World → Prop} {Kp : World → World → Prop} {S Sp : List α → Prop} {N : Nat} {w0 : World} (hseq : SeqX 3 P gf lb encs X Kp S Sp N w0) (hKt : ∀ {A B C : World}, Kp A B → Kp B C → Kp A C) (hKb : ∀ (W : World) (l : Nat) (o o' : Obj), w.heap.size ≤ l → W.heap[l]? = some o → o.isCells = false → o.isWalk = false → Kp W (W.putObj l o')) (hKa : ∀ (W : World) (o : Obj), w.heap.size ≤ W.heap.size → Kp W (W.alloc o)) (hb0 : Below w0.heap.size w0 w) (hps : ∀ x, (encs x).size = ps.size)
    (I : List α → World → Prop) (Ix : Code → List α → World → Prop) (hI : OwnFrom w.heap.size I) (hIx : ∀ c, OwnFrom w.heap.size (Ix c)) (hX : OwnFrom w.heap.size X) (h0 : I [] w) (hIs : ∀ pre W, I pre W → w.heap.size ≤ W.heap.size)
    (cs : α → Array Value) (t : TypeId) (h : ∃ a₁ : α → Nat → Act,
    (∀ (l : Nat) (x : α) (W : World) (K : Act → World → Prop) (b : Nat), W.heap.size = b → K (a₁ x b) (W.alloc (.cells (cs x) t)) →
        assign.wpIn (inR l) 3 P (Exit.then K (fun _ _ _ => False)) { tmps := (ps.zip (encs x)).foldl (fun t (p, v) => t.setIfInBounds p v) a.tmps, defers := [] } W) ∧
    (∀ (l : Nat) (pre : List α) (x : α) (b : Nat) (W : World), I pre W → X x W → w.heap.size ≤ b → W.heap[b]? = some (.cells (cs x) t) → pre.length < N → body.wpIn (inR l) 3 P (ownPostG w.heap.size Kp I Ix (pre ++ [x]) W) (a₁ x b) W))
    (J : World → Prop) (hd : ∀ xs W, S xs → I xs W → J W) (hs : ∀ c pre W, Sp pre → Ix c pre W → c = .exit id ∧ J W)
    (hrest : ∀ (D : Nat) (W : World), w.heap.size ≤ D → J W → W.heap[D]? = some (.deferred (some [])) → Q .normal { a with defers := { target := .collected D, args := #[] } :: a.defers } W) :
    (Code.rangeFunc g ps assign body).wp P (Exit.inBlock id Q) a w :=
  range_x hg eg hseq hKt hKb hKa hb0 hps I Ix hI hIx hX h0 hIs cs t h (fun D xs W h1 h2 h3 h4 => hrest D W h1 (hd xs W h2 h3) h4) (fun D c pre W h1 h2 h3 h4 => by
    obtain ⟨rfl, hj⟩ := hs c pre W h2 h3
    refine wp_exit ?_
    show (if id = id then Q .normal _ _ else Q (.exit id) _ _)
    rw [if_pos rfl]
    exact hrest D W h1 hj h4)
theorem ret_m2 {fn : Func} {R : Ending → World → Prop} {tmps : Array Value} {v : Value} {D D' : Nat} (hD : w.heap[D]? = some (.deferred (some []))) (hD' : (w.putObj D (.deferred none)).heap[D']? = some (.deferred (some []))) (hr : (results fn tmps).run P ((w.putObj D (.deferred none)).putObj D' (.deferred none)) = .ok v ((w.putObj D (.deferred none)).putObj D' (.deferred none)))
    (h : R (.returned v) ((w.putObj D (.deferred none)).putObj D' (.deferred none))) : bodyPostM Fence.wide 9 P fn R .ret { tmps := tmps, defers := [{ target := .collected D, args := #[] }, { target := .collected D', args := #[] }] } w :=
  ⟨by simp, .inl ⟨D, _, rfl, run_takeDeferred hD, by simp, .inl ⟨D', _, rfl, run_takeDeferred hD', v, hr, h⟩⟩⟩
end
/-- The sequence of a row that stays as long as all below n₁ stays. -/
theorem from2_low (m Bx : Nat) (a : Option Addr) (n c : Nat) (es : List Ent) (w0 w : World) (hb : Below w0.heap.size w0 w) (hE : Es w0 a n c es) (hvl : ∀ i, i < n → (nth es i).val.length ≤ 1000000000) (hBx : w0.cell? ⟨Bx, 0, none⟩ = some (.slice a n c)) :
    SeqX m Try.prog 46 #[.pointer (some ⟨Bx, 0, none⟩)] (otv es) (OtX w.heap.size es) (Below w0.heap.size) (fun xs => xs.map Prod.fst = List.range n) (fun pre => pre.map Prod.fst = List.range pre.length) n w :=
  fun l J Jx W hbW hJ hY h0 => from2_in m l Bx a n c es w.heap.size hE.le hE.1 (Below w0.heap.size) hvl J Jx W hbW.size (fun V hV => hE.below ((hb.trans (hbW.mono hb.size)).trans hV)) (Below.refl _ _) (fun h k => h.trans k) (fun A B h1 h2 => h2.mono (Nat.le_trans (Nat.le_trans hb.size hbW.size) h1)) (fun A B h => h.size) hJ hY (cell_later (hb.trans (hbW.mono hb.size)) hBx) h0
end Go.Proofs.Ytgcealgkhlbgmaa
