/- The law's Opened: what Open tells of bytes is what the document says. -/
import Derived.Test.YtjigfinpbdglnaaGreatDoorZSoL
import Derived.Test.YtjigfinpbdglnaaGreatDoorZSbQ
import Derived.Sort.LoopGhostIn
set_option linter.unusedVariables false
set_option linter.unusedSimpArgs false
section
set_option maxRecDepth 100000
set_option linter.unusedVariables false
set_option linter.unusedSimpArgs false
namespace Go.Proofs.YtjigfinpbdglnaaGreatDoor
open Go.RowKit

theorem Rtb.below {w w' : World} {bk : Nat} {a : Option Addr} {n c : Nat} {l : List Ent} {ab : Option Addr} {m cb : Nat} {bl : List Bk} {af : Option Addr} {nf cf : Nat} {f : List UInt8} (h : Rtb w bk a n c l ab m cb bl af nf cf f) (k : Below w.heap.size w w') : Rtb w' bk a n c l ab m cb bl af nf cf f :=
  ⟨(k.block bk (Array.getElem?_eq_some_iff.1 h.heap).1).trans h.heap, h.es.below k, h.rd.below k, h.fs.below k⟩
theorem Wr.below {w w' : World} {g k er : Nat} (h : Wr w g k er) (hb : Below w.heap.size w w') : Wr w' g k er := (hb.block g (Array.getElem?_eq_some_iff.1 h).1).trans h
/-- What Opened tells. -/
def RetOpd (R : Except (Nat × Nat) (List Ent × List Bk)) (w : World) (e : Ending) (w' : World) : Prop := Below w.heap.size w w' ∧
  ((∃ q, R = .error q ∧ e = .returned (.tuple #[.pointer none, .pointer none, .bool true])) ∨
   (∃ L bl bt al cl af nf cf rt ar cr ab cb ag ng cg, R = .ok (L, bl) ∧ e = .returned (.tuple #[.pointer (some ⟨bt, 0, none⟩), .pointer (some ⟨rt, 0, none⟩), .bool true]) ∧ Tb w' bt al L.length cl L bl.length af nf cf (Sst.filter L) ∧ Rtb w' rt ar L.length cr L ab bl.length cb bl ag ng cg (Sst.filter L)))
set_option maxHeartbeats 4000000 in
theorem opened_any (a : Option Addr) (n c : Nat) (b : List UInt8) (w : World) (h : Bs w a n c b) (hbig : n ≤ 1000000) (hc : Cst w) :
    Calls Tryz.prog 6 #[.slice a n c] w (RetOpd (Sst.opn b) w) := by
  have HA := Lib.hid (sopn_any a n c b w h hbig)
  have HB : Hid (∀ W, Below w.heap.size w W → Calls Tryz.prog 22 #[.slice a n c] W (RetRop (Sst.opn b) W)) := Lib.hid fun W hW => rop_any a n c b W (h.below hW) hbig
  have HO := Lib.hid (opn_out (b := b) (by rw [h.1]; exact hbig))
  have HN : Hid (b.length ≤ 1000000) := Lib.hid (by rw [h.1]; exact hbig)
  have HC := Lib.hid hc
  clear h hc
  go_enter Tryz.func6, Tryz.ntmps6
  go_wp2_with fail
  refine HA.out.mono ?_
  rintro e w1 ⟨hb1, ⟨k, er, g, hR, hg, rfl, hw⟩ | ⟨L, bl, bt, al, cl, af, nf, cf, hR, rfl, hT⟩⟩
  · have HR := Lib.hid hR
    have HW := Lib.hid hw
    have HB1 := Lib.hid hb1
    clear hR hw hb1
    go_wp2_with fail
    refine (HB.out w1 HB1.out).mono ?_
    rintro e w2 ⟨hb2, ⟨k', er', hR', h0, rfl⟩ | ⟨L, bl, bt, al, cl, ab, cb, af, nf, cf, hR', rfl, hT⟩⟩
    · obtain ⟨rfl, rfl⟩ : k' = k ∧ er' = er := by
        have := HR.out.symm.trans hR'
        cases this
        exact ⟨rfl, rfl⟩
      have HB2 := Lib.hid (HB1.out.trans (hb2.mono HB1.out.size))
      have HW2 := Lib.hid (HW.out.below hb2)
      have HE := Lib.hid (HO.out.1 _ _ HR.out)
      have ez : (((er' : Nat) : Int) == 0) = false := by rw [beq_eq_false_iff_ne]; omega
      have HZ := Lib.hid h0
      have hki : k' ≤ 1000000 := by have h1 := HE.out.2; have h2 := HN.out; omega
      clear hR' hb2 h0
      go_wp2_with fail
      have hb3 := below_alloc1 w2 (.cells #[.pointer none] 61)
      have HC3 := Lib.hid ((HC.out.below HB2.out).below hb3)
      refine (as_any g w2.heap.size w2.heap.size _ HC3.out (World.alloc_heap_new w2 _) (Nat.le_refl _)).mono ?_
      rintro e w4 ⟨rfl, ht4, hb4⟩
      have HB4 := Lib.hid (hb3.trans hb4)
      have HW4 := Lib.hid (HW2.out.below HB4.out)
      have HC4 := Lib.hid ((HC.out.below HB2.out).below HB4.out)
      obtain ⟨c0, c1, _⟩ := cells2 HW4.out
      clear hb3 hb4 HC3
      go_wp2_with fail
      refine (is_wrong g k' er' w4 HW4.out).mono ?_
      rintro e w4 ⟨rfl, rfl⟩
      go_wp2_with fail
      refine (werr_any g k' er' w4 HW4.out HE.out.1 (by omega) HC4.out).mono ?_
      rintro e w5 ⟨rfl, hb5⟩
      have HB5 := Lib.hid hb5
      clear hb5
      have hwl := (wd_word HE.out.1).2
      have hdl := dec_len k'
      have hl1 : (Sst.wd er').length + 4 ≤ 9223372036854775807 := by omega
      have hl1' : decide (9223372036854775807 < (Sst.wd er').length + 4) = false := decide_eq_false (by omega)
      have hl2 : (Sst.wd er').length + 4 + (Lib.decDigits k').length ≤ 9223372036854775807 := by omega
      have hl2' : decide (9223372036854775807 < (Sst.wd er').length + 4 + (Lib.decDigits k').length) = false := decide_eq_false (by omega)
      go_wp2_with fail
      refine (errno_any' er' HE.out.1 w5).mono ?_
      rintro e w5 ⟨rfl, rfl⟩
      go_wp2_with fail
      refine (decimal_any k' (by omega) w5).mono ?_
      rintro e w6 ⟨rfl, hb6⟩
      have HB6 := Lib.hid hb6
      clear hb6
      go_wp2_with fail
      go_ret3
      refine ⟨HB2.out.trans ((HB4.out.mono HB2.out.size).trans ((HB5.out.mono (Nat.le_trans HB2.out.size HB4.out.size)).trans (HB6.out.mono (Nat.le_trans (Nat.le_trans HB2.out.size HB4.out.size) HB5.out.size)))), .inl ⟨_, HR.out, ?_⟩⟩
      have hq : ((bstr (Sst.said k' er')).toList == (bstr (Sst.wd er') ++ (⟨#[32, 97, 116, 32]⟩ : ByteArray) ++ bstr (Lib.decDigits k')).toList) = true := by
        rw [bstr_at, bstr_join, bstr_join]
        exact beq_self_eq_true _
      rw [hq]
      rfl
    · exfalso
      have := HR.out.symm.trans hR'
      cases this
  · have HR := Lib.hid hR
    have HT := Lib.hid hT
    have HB1 := Lib.hid hb1
    clear hR hT hb1
    go_wp2_with fail
    refine (HB.out w1 HB1.out).mono ?_
    rintro e w2 ⟨hb2, ⟨k', er', hR', h0, rfl⟩ | ⟨L', bl', bt', al', cl', ab, cb, af', nf', cf', hR', rfl, hT'⟩⟩
    · exfalso
      have := HR.out.symm.trans hR'
      cases this
    · obtain ⟨rfl, rfl⟩ : L' = L ∧ bl' = bl := by
        have := HR.out.symm.trans hR'
        cases this
        exact ⟨rfl, rfl⟩
      have HB2 := Lib.hid (HB1.out.trans (hb2.mono HB1.out.size))
      have HT2 := Lib.hid (HT.out.below hb2)
      have HT3 := Lib.hid hT'
      clear hR' hb2 hT'
      go_wp2
      go_ret3
      exact ⟨HB2.out, .inr ⟨_, _, _, _, _, _, _, _, _, _, _, _, _, _, _, _, HR.out, rfl, HT2.out, HT3.out⟩⟩
end Go.Proofs.YtjigfinpbdglnaaGreatDoor
end

section
set_option linter.unusedVariables false
set_option linter.unusedSimpArgs false
namespace Go.Proofs.YtjigfinpbdglnaaGreatDoor
open Go.RowKit
attribute [local go_sem] Oper.semAt_some

theorem grown_of_below {W W' : World} (h : Below W.heap.size W W') : W.grownBy W' none := ⟨h.os, h.tape, h.output, h.size, fun k hk _ => h.block k hk⟩
def ColP (w : World) (l : List Ent) (e : Ending) (w' : World) : Prop := ∃ a k c, e = .returned (.slice a k c) ∧ AccE w' w.heap.size a k c l ∧ Below w.heap.size w w'
/-- What is handed out: the place; where its bytes lie. -/
abbrev Ot := Nat × Option Addr × Nat
def otv (l : List Ent) (x : Ot) : Array Value := #[ev (nth l x.1) x.2.1 x.2.2]
/-- Its bytes are its own. -/
def OtX (n₀ : Nat) (l : List Ent) (x : Ot) (W : World) : Prop := x.1 < l.length ∧ Own W n₀ x.2.1 (nth l x.1).val.length x.2.2 (nth l x.1).val
theorem OtX.own {n₀ B : Nat} {l : List Ent} : OwnFrom B (OtX n₀ l) := fun x W W' row hs hg hr => ⟨hs.1, own_turned (hs.2 : World.ownsRow _ _ _ _ _ _ _) hg (fun r e => (hr r e).2)⟩
set_option maxRecDepth 100000 in
set_option maxHeartbeats 4000000 in
theorem from2_in (m l Bx : Nat) (a : Option Addr) (n c : Nat) (es : List Ent) (n₀ : Nat) (hle : n ≤ 9223372036854775807 ∧ c ≤ 9223372036854775807) (hlen0 : es.length = n) (Kp : World → World → Prop) (hvl : ∀ i, i < n → (nth es i).val.length ≤ 1000000000) (J Jx : List Ot → World → Prop) (W : World) (hn₀ : n₀ ≤ W.heap.size)
    (hE : ∀ V, Kp W V → Es V a n c es) (hKr : Kp W W) (hKt : ∀ {A B C : World}, Kp A B → Kp B C → Kp A C) (hKw : ∀ A B, W.heap.size ≤ A.heap.size → Below A.heap.size A B → Kp A B) (hKs : ∀ A B, Kp A B → A.heap.size ≤ B.heap.size) (hJ : AbidesFrom W.heap.size J)
    (hY : ∀ pre x W1, J pre W1 → OtX n₀ es x W1 → pre.length < n → YieldAt Fence.wide m Tryz.prog l (otv es x) W1 fun e W' =>
      (e = .returned (.bool true) ∧ J (pre ++ [x]) W' ∧ Kp W1 W') ∨ (e = .returned (.bool false) ∧ Jx (pre ++ [x]) W'))
    (hBx : W.cell? ⟨Bx, 0, none⟩ = some (.slice a n c)) (h0 : J [] W) :
    CallsIn Fence.wide (m + 1) Tryz.prog 75 #[.func (.yield l) #[] #[], .pointer (some ⟨Bx, 0, none⟩)] W fun e W' => (∃ v, e = .returned v) ∧
      ((∃ xs : List Ot, xs.map Prod.fst = List.range n ∧ J xs W') ∨ (∃ pre : List Ot, pre.map Prod.fst = List.range pre.length ∧ Jx pre W')) := by
  have HN := Lib.hid hlen0
  have HE : Hid (∀ V, Kp W V → Es V a n c es) := Lib.hid hE
  have HVL := Lib.hid hvl
  have HKR := Lib.hid hKr
  have HKT : Hid (∀ A B C : World, Kp A B → Kp B C → Kp A C) := Lib.hid fun A B C => hKt
  have HKW := Lib.hid hKw
  have HKS := Lib.hid hKs
  have HJ := Lib.hid hJ
  have HY := Lib.hid hY
  have h1 : 1 ≤ m + 1 := by omega
  clear hE hvl hKr hKw hKs hJ hY hlen0
  refine callsIn_of_wp Tryz.func75 rfl trivial ?_ rfl
  simp only [Tryz.ntmps75, List.size_toArray, List.length_cons, List.length_nil, Nat.reduceAdd, Nat.reduceSub, Array.replicate_succ, Array.replicate_zero, List.push_toArray, List.append_toArray, List.nil_append, List.cons_append]
  gi_wp2_with fail
  clear hBx
  gi_loopw [7] (fun i wr => ∃ (f : Nat) (pre : List Ot), f ≤ n ∧ i = .int .i64 f ∧ Hid (pre.map Prod.fst = List.range f) ∧ Hid (J pre wr) ∧ Hid (Kp W wr)) (fun i _ => n - (intOf i).toNat)
  case atStart => exact ⟨0, [], Nat.zero_le _, rfl, Lib.hid rfl, Lib.hid h0, HKR⟩
  case round =>
    obtain ⟨f, pre, hf, rfl, hpre, hJp, hbw⟩ := hrel
    by_cases hlt : f < n
    · obtain ⟨b1, o1, a1, d1, rfl, he1, hv1⟩ := (HE.out _ hbw.out).vals hlt
      have p1 := he1.key
      have p2 := he1.seq
      have p3 := he1.gone
      have p4 := he1.val
      have hvf := HVL.out f hlt
      have hb2 := below_alloc1 wr (.cells #[.string (bstr (nth es f).key), .int .u64 (nth es f).seq, .bool (nth es f).gone, .slice a1 (nth es f).val.length d1] 37)
      have HV2 := Lib.hid (hv1.below hb2)
      have HX2 := Lib.hid (load_box wr (nth es f) a1 d1)
      have HB2 := Lib.hid hb2
      clear he1 hv1 hb2
      gi_wp2_with fail
      refine ⟨trivial, ?_⟩
      have hap := sapart_any (nth es f) a1 d1 _ HV2.out hvf
      unfold RetEv ev at hap
      refine (callsIn_wide.2 hap).mono ?_
      clear hap
      rintro e w3 ⟨a3, c3, rfl, ho3, hb3⟩
      have hwb : Below wr.heap.size wr w3 := HB2.out.trans (hb3.mono HB2.out.size)
      have hJ3 : J pre w3 := HJ.out pre wr w3 none hJp.out (grown_of_below hwb) (fun r e => by cases e)
      have hWs := HKS.out _ _ hbw.out
      have hb3S : Kp W w3 := HKT.out _ _ _ hbw.out (HKW.out _ _ hWs hwb)
      have hlen : pre.length < n := by have := congrArg List.length hpre.out; simp at this; omega
      have hox : OtX n₀ es (f, a3, c3) w3 := ⟨by rw [HN.out]; exact hlt, own_mono (ho3 : World.ownsRow _ _ _ _ _ _ _) (Nat.le_trans (Nat.le_trans hn₀ hWs) HB2.out.size)⟩
      obtain ⟨fn, tmps, assign, body, hy, hR⟩ := HY.out pre (f, a3, c3) w3 hJ3 hox hlen
      have HPR : Hid ((pre ++ [((f, a3, c3) : Ot)]).map Prod.fst = List.range (f + 1)) := Lib.hid (by rw [List.map_append, hpre.out, List.range_succ]; rfl)
      have HB3 := Lib.hid hb3S
      have HWB := Lib.hid hwb
      dsimp only [otv, ev] at hy
      clear hJ3 hox ho3 hb3 hwb hb3S p1 p2 p3 p4
      gi_wp2
      refine hR.mono ?_
      rintro e W3 (⟨rfl, hJ4, hk4⟩ | ⟨rfl, hJx4⟩)
      · have HJ4 := Lib.hid hJ4
        have HB4 : Hid (Kp W W3) := Lib.hid (HKT.out _ _ _ HB3.out hk4)
        clear hJ4 hk4
        gi_wp2
        go_roundw
        case rel => exact ⟨f + 1, pre ++ [(f, a3, c3)], by omega, by go_num, HPR, HJ4, HB4⟩
        case measure => simp [intOf]; omega
      · gi_wp2
        refine bodyPost_ret (results_none rfl _ _ _) rfl ?_
        exact ⟨⟨_, rfl⟩, .inr ⟨pre ++ [(f, a3, c3)], by rw [HPR.out, List.length_append]; have h9 := congrArg List.length hpre.out; simp at h9; rw [h9]; simp, hJx4⟩⟩
    · obtain rfl : f = n := by omega
      gi_wp2
      go_end0
      exact ⟨⟨_, rfl⟩, .inl ⟨pre, hpre.out, hJp.out⟩⟩
/-- All below n₀ stays, but for one block. -/
structure KeepB (n₀ Bo : Nat) (A B : World) : Prop where
  os : B.os = A.os
  tape : B.tape = A.tape
  output : B.output = A.output
  size : A.heap.size ≤ B.heap.size
  block : ∀ g, g < n₀ → g ≠ Bo → B.heap[g]? = A.heap[g]?
theorem KeepB.trans {n₀ Bo : Nat} {A B C : World} (h : KeepB n₀ Bo A B) (k : KeepB n₀ Bo B C) : KeepB n₀ Bo A C := ⟨k.os.trans h.os, k.tape.trans h.tape, k.output.trans h.output, Nat.le_trans h.size k.size, fun g hg hn => (k.block g hg hn).trans (h.block g hg hn)⟩
theorem KeepB.of_below {n₀ Bo n : Nat} {A B : World} (h : Below n A B) (hn : n₀ ≤ n) : KeepB n₀ Bo A B := ⟨h.os, h.tape, h.output, h.size, fun g hg _ => h.block g (by omega)⟩
theorem KeepB.set {n₀ Bo : Nat} {A B : World} (h : KeepB n₀ Bo A B) (j : Nat) (v : Value) : KeepB n₀ Bo A (B.setCell ⟨Bo, j, none⟩ v) := ⟨h.os, h.tape, h.output, by rw [World.size_setCell]; exact h.size, fun g hg hn => (Below.heap_setCell _ _ _ _ hn).trans (h.block g hg hn)⟩
theorem KeepB.es {n₀ Bo n c : Nat} {A B : World} {a : Option Addr} {l : List Ent} {t : TypeId} {p : Option Addr} {m k : Nat} (h : Es A a n c l) (hk : KeepB n₀ Bo A B) (hn : A.heap.size ≤ n₀) (hb : Boxed A Bo t (.slice p m k)) (ha : 0 < n → ∀ x, a = some x → x.block ≠ Bo) : Es B a n c l := by
  have hcell : ∀ (q : Addr) (v : Value), q.block ≠ Bo → A.cell? q = some v → B.cell? q = some v := fun q v h1 h2 => (World.cell?_of_block (hk.block q.block (Nat.lt_of_lt_of_le (World.block_lt_of_cell? _ _ h2) hn) h1)).trans h2
  refine ⟨h.1, h.2.1, h.2.2.1, fun i hi => ?_⟩
  obtain ⟨b, off, ai, ci, rfl, h2, h3⟩ := h.2.2.2 i hi
  have hne := ha (by omega) _ rfl
  refine ⟨b, off, ai, ci, rfl, ⟨hcell _ _ hne h2.key, hcell _ _ hne h2.seq, hcell _ _ hne h2.gone, hcell _ _ hne h2.val⟩, h3.1, h3.2.1, h3.2.2.1, fun j v hj => ?_⟩
  obtain ⟨b', off', e, hc⟩ := h3.2.2.2 j v hj
  refine ⟨b', off', e, hcell _ _ (fun e2 => ?_) hc⟩
  have e3 : b' = Bo := e2
  have h1 : A.heap[b']? = some (.cells #[.slice p m k] t (0, 0)) := by rw [e3]; exact hb
  have hv := List.mem_of_getElem? hj
  unfold vs at hv
  obtain ⟨x, _, rfl⟩ := List.mem_map.1 hv
  simp only [World.cell?, h1] at hc
  have h0 : off' + j = 0 := by
    rcases Nat.eq_zero_or_pos (off' + j) with h0 | h0
    · exact h0
    · simp [Array.getElem?_eq_none (show (#[Value.slice p m k] : Array Value).size ≤ off' + j by simp; omega)] at hc
  rw [h0] at hc
  simp at hc
theorem from2_seq (m Bx Bo : Nat) (a : Option Addr) (n c : Nat) (es : List Ent) (w : World) (hE : Es w a n c es) (hvl : ∀ i, i < n → (nth es i).val.length ≤ 1000000000) (hBx : w.cell? ⟨Bx, 0, none⟩ = some (.slice a n c)) {t : TypeId} {p : Option Addr} {q k : Nat} (hb : Boxed w Bo t (.slice p q k)) (ha : 0 < n → ∀ x, a = some x → x.block ≠ Bo) :
    SeqX m Tryz.prog 75 #[.pointer (some ⟨Bx, 0, none⟩)] (otv es) (OtX w.heap.size es) (KeepB w.heap.size Bo) (fun xs => xs.map Prod.fst = List.range n) (fun pre => pre.map Prod.fst = List.range pre.length) n w :=
  fun l J Jx W hbW hJ hY h0 => from2_in m l Bx a n c es w.heap.size hE.le hE.1 (KeepB w.heap.size Bo) hvl J Jx W hbW.size (fun V hV => KeepB.es hE ((KeepB.of_below hbW (Nat.le_refl _)).trans hV) (Nat.le_refl _) hb ha) (KeepB.of_below (Below.refl _ _) (Nat.le_refl _)) (fun h k => h.trans k) (fun A B h1 h2 => KeepB.of_below h2 (Nat.le_trans hbW.size h1)) (fun A B h => h.size) hJ hY (cell_later hbW hBx) h0
/-- A boxed slice of entries that gathers, its row from B on. -/
def Gt (w : World) (B Bo : Nat) (ls : List Ent) (W : World) : Prop := (∃ a k c, Boxed W Bo 30 (.slice a k c) ∧ AccE W B a k c ls) ∧ Below w.heap.size w W
theorem Gt.turned {w W W' : World} {B Bo : Nat} {ls : List Ent} {row : Option Nat} (h : Gt w B Bo ls W) (hg : W.grownBy W' row) (hr : ∀ r, row = some r → ∃ o : Obj, W.heap[r]? = some o ∧ o.isCells = false) (hB : ∀ r, row = some r → w.heap.size ≤ r) : Gt w B Bo ls W' := by
  obtain ⟨⟨a, k, c, h1, h2⟩, h4⟩ := h
  exact ⟨⟨a, k, c, Boxed.turned h1 hg hr, h2.turned hg hr⟩, h4.grown hg h4.size hB⟩
def entsOt (l : List Ent) (xs : List Ot) : List Ent := xs.map fun x => nth l x.1
theorem entsOt_all {l : List Ent} {xs : List Ot} (h : xs.map Prod.fst = List.range l.length) : entsOt l xs = l := by
  have h1 : entsOt l xs = (List.range l.length).map fun i => nth l i := by
    rw [← h, List.map_map]
    rfl
  rw [h1]
  apply List.ext_getElem
  · simp
  · intro i h2 h3
    rw [List.getElem_map, List.getElem_range, nth_eq _ h3]
/-- What From tells: a sequence over these. -/
theorem Tb.low {w : World} {bk : Nat} {a : Option Addr} {n c : Nat} {l : List Ent} {m : Nat} {af : Option Addr} {nf cf : Nat} {f : List UInt8} (h : Tb w bk a n c l m af nf cf f) : 0 < n → ∀ x, a = some x → x.block < w.heap.size := fun h0 x hx => by
  obtain ⟨b, off, ai, ci, e, h2, _⟩ := h.es.2.2.2 0 h0
  rw [hx] at e
  cases e
  exact World.block_lt_of_cell? _ _ h2.key
def FromL (D : Nat) (w : World) (l : List Ent) (e : Ending) (w' : World) : Prop := ∃ bx a k c, e = .returned (.func (.func 75) #[] #[.pointer (some ⟨bx, 0, none⟩)]) ∧ w.heap.size ≤ bx ∧ Boxed w' bx 30 (.slice a k c) ∧ Es w' a k c l ∧ (0 < k → ∀ x, a = some x → x.block < D) ∧ Below w.heap.size w w'
theorem Es.low {w : World} {a : Option Addr} {n c : Nat} {l : List Ent} (h : Es w a n c l) (hn : 0 < n) : ∀ x, a = some x → x.block < w.heap.size := by
  intro x hx
  obtain ⟨b, off, ai, ci, e, h2, _⟩ := h.2.2.2 0 hn
  rw [hx] at e
  cases e
  exact World.block_lt_of_cell? _ _ h2.key
theorem subAn_block {a : Option Addr} {c k s : Nat} : ∀ x, subAn a c k s = some x → ∃ y, a = some y ∧ x.block = y.block := by
  intro x hx
  unfold subAn at hx
  split at hx
  · exact ⟨x, hx, rfl⟩
  · cases a with
    | none => cases hx
    | some y => cases hx; exact ⟨y, rfl, by simp [Addr.add]; split <;> rfl⟩
set_option maxRecDepth 100000 in
set_option maxHeartbeats 2000000 in
theorem sfrom_low {w : World} {bk : Nat} {a : Option Addr} {n c : Nat} {l : List Ent} {m : Nat} {af : Option Addr} {nf cf : Nat} {f : List UInt8} (h : Tb w bk a n c l m af nf cf f) (s : List UInt8) (p : Nat) (hn : n ≤ 1000000000) (hp : p ≤ n)
    (h1 : ∀ i, i < p → Ent.cmp (nth l i) ⟨s, 18446744073709551615, false, []⟩ < 0) (h2 : ∀ i, p ≤ i → i < n → 0 ≤ Ent.cmp (nth l i) ⟨s, 18446744073709551615, false, []⟩) {D : Nat} (hD : 0 < n → ∀ x, a = some x → x.block < D) :
    Calls Tryz.prog 38 #[.pointer (some ⟨bk, 0, none⟩), .string (bstr s)] w (FromL D w (l.drop p)) := by
  have hle := h.es.le.1
  have hnc := h.es.2.1
  have hln := h.es.1
  obtain ⟨i, hi0, _, g1, _⟩ := info_parts infoE
  have HSL : Hid (∀ W, (Instr.slice 30 (.slice a n c) (some (.int .i64 (p : Int))) none none).run Tryz.prog W = .ok (.slice (subAn a c p 4) (n - p) (c - p)) W) := Lib.hid fun W => run_slice_l (P := Tryz.prog) Tryz.underlying30 hi0 g1 a n c (lo := (p : Int)) rfl hp W
  have HE : Hid (Es w (subAn a c p 4) (n - p) (c - p) (l.drop p)) := Lib.hid (by
    have := h.es.part (lo := p) (hi := n) (mx := c) hp (Nat.le_refl _) hnc (Nat.le_refl _)
    rwa [← hln, List.take_length, hln] at this)
  have HP : Hid (∀ W, Below w.heap.size w W → Calls Tryz.prog 34 #[.pointer (some ⟨bk, 0, none⟩), .string (bstr s), .int .u64 18446744073709551615] W fun e w' => e = .returned (.int .i64 p) ∧ Below W.heap.size W w') := Lib.hid fun W hW => place_any (h.below hW) s 18446744073709551615 p hn hp h1 h2
  obtain ⟨c0, _, _, _⟩ := cells3 h.heap
  have q0 := fun W (hW : Below w.heap.size w W) => cell_later hW c0
  have HQ := Lib.hid q0
  have HD := Lib.hid hD
  clear h h1 h2 q0 c0 hD
  go_enter Tryz.func38, Tryz.ntmps38
  go_upto_region 1 with fail
  go_cut [5] (fun pv wx => ∃ gq : Nat, pv = .pointer (some ⟨gq, 0, none⟩) ∧ w.heap.size ≤ gq ∧ Hid (Boxed wx gq 30 (.slice (subAn a c p 4) (n - p) (c - p))) ∧ Hid (Below w.heap.size w wx))
  case first =>
    refine wp_region_steps [9] 9 9 (by kernel_rfl) (by kernel_rfl) rfl (fun W' => ∃ V : BW w, W' = V.w) ?_
    refine anyT_pull [0, 1, 2, 3, 4, 5] 9 3 (by intro c a d v w h; cases d <;> exact h) (by kernel_rfl) ⟨⟨_, (Below.refl _ _).drew⟩, rfl⟩ ?_
    simp only [opsAt, List.filterMap_cons, List.filterMap_nil, List.getElem?_cons_zero, List.getElem?_cons_succ]
    iterate 6
      apply held_step
      · kernel_rfl
      · rintro _ ⟨V, rfl⟩
        have q0 := HQ.out V.w V.b
        go_simp
        rfl
    refine held_nil ?_
    have HBD : Below w.heap.size w w.drew := (Below.refl _ _).drew
    generalize w.drew = wD at *
    refine anyT_two 6 8 rfl rfl (by kernel_rfl) (by kernel_rfl) (by kernel_rfl) (fun K hK => ?_) (fun K hK => ?_)
    · go_simp
      refine (HP.out wD HBD).mono ?_
      rintro en w1 ⟨rfl, hb1⟩
      have HB1 := Lib.hid (HBD.trans (hb1.mono HBD.size))
      refine hK _ _ ⟨⟨_, HB1.out⟩, rfl⟩ ?_
      clear hK hb1
      refine anyT_pull [7] 9 1 (by intro c a d v w h; cases d <;> exact h) (by kernel_rfl) ⟨⟨_, HB1.out⟩, rfl⟩ ?_
      simp only [opsAt, List.filterMap_cons, List.filterMap_nil, List.getElem?_cons_zero, List.getElem?_cons_succ]
      apply held_step
      · kernel_rfl
      · rintro _ ⟨V, rfl⟩
        have sl := HSL.out V.w
        go_simp
        rfl
      refine held_nil ?_
      apply anyT_one 8
      · rfl
      · kernel_rfl
      · kernel_rfl
      intro K hK
      go_simp
      have hb2 := HB1.out.trans ((below_alloc1 w1 (.cells #[.slice none 0 0] 30)).mono HB1.out.size)
      have hbx : Boxed (w1.alloc (.cells #[.slice none 0 0] 30)) w1.heap.size 30 (.slice none 0 0) := Boxed.new w1 _ _
      refine hK _ _ ⟨⟨_, hb2⟩, rfl⟩ ?_
      clear hK
      have hgq := HB1.out.size
      generalize w1.alloc (.cells #[.slice none 0 0] 30) = w2 at *
      generalize w1.heap.size = gq at *
      refine anyT_done (by kernel_rfl) ?_
      simp only [opsAt, List.filterMap_cons, List.filterMap_nil, List.getElem?_cons_zero, List.getElem?_cons_succ]
      have HX := Lib.hid (hbx.set (.slice (subAn a c p 4) (n - p) (c - p)))
      have HB2 := Lib.hid (hb2.setCell (p := ⟨gq, 0, none⟩) hgq (.slice (subAn a c p 4) (n - p) (c - p)))
      have cb := hbx.cell
      have fb := hbx.frozen
      clear hbx hb2
      go_wp2
      go_meet
      exact ⟨gq, rfl, hgq, HX, HB2⟩
    · go_simp
      have hb1 := HBD.trans ((below_alloc1 wD (.cells #[.slice none 0 0] 30)).mono HBD.size)
      have hbx : Boxed (wD.alloc (.cells #[.slice none 0 0] 30)) wD.heap.size 30 (.slice none 0 0) := Boxed.new wD _ _
      refine hK _ _ ⟨⟨_, hb1⟩, rfl⟩ ?_
      clear hK
      have hgq := HBD.size
      generalize wD.alloc (.cells #[.slice none 0 0] 30) = w1 at *
      generalize wD.heap.size = gq at *
      apply anyT_one 6
      · rfl
      · kernel_rfl
      · kernel_rfl
      intro K hK
      go_simp
      refine (HP.out w1 hb1).mono ?_
      rintro en w2 ⟨rfl, hb2⟩
      have HB2' := Lib.hid (hb1.trans (hb2.mono hb1.size))
      have hbx2 := Boxed.below hbx hb2
      refine hK _ _ ⟨⟨_, HB2'.out⟩, rfl⟩ ?_
      clear hK hb2 hbx
      refine anyT_pull [7] 9 0 (by intro c a d v w h; cases d <;> exact h) (by kernel_rfl) ⟨⟨_, HB2'.out⟩, rfl⟩ ?_
      simp only [opsAt, List.filterMap_cons, List.filterMap_nil, List.getElem?_cons_zero, List.getElem?_cons_succ]
      apply held_step
      · kernel_rfl
      · rintro _ ⟨V, rfl⟩
        have sl := HSL.out V.w
        go_simp
        rfl
      refine held_nil ?_
      refine anyT_done (by kernel_rfl) ?_
      simp only [opsAt, List.filterMap_cons, List.filterMap_nil, List.getElem?_cons_zero, List.getElem?_cons_succ]
      have HX := Lib.hid (hbx2.set (.slice (subAn a c p 4) (n - p) (c - p)))
      have HB2 := Lib.hid (HB2'.out.setCell (p := ⟨gq, 0, none⟩) hgq (.slice (subAn a c p 4) (n - p) (c - p)))
      have cb := hbx2.cell
      have fb := hbx2.frozen
      clear hbx2
      go_wp2
      go_meet
      exact ⟨gq, rfl, hgq, HX, HB2⟩
  case rest =>
  obtain ⟨gq, rfl, hgq, HX, HB⟩ := hcut
  go_wp2
  go_ret
  exact ⟨gq, _, _, _, rfl, hgq, HX.out, HE.out.below HB.out, fun h0 x hx => by obtain ⟨y, hy, e⟩ := subAn_block x hx; rw [e]; exact HD.out (by omega) y hy, HB.out⟩
theorem cmp_top {e : Ent} (h : e.seq ≤ 18446744073709551615) : 0 ≤ Ent.cmp e ⟨[], 18446744073709551615, false, []⟩ := by
  rcases Int.lt_or_le (Ent.cmp e ⟨[], 18446744073709551615, false, []⟩) 0 with h1 | h1
  · exfalso
    have h1 : Ent.cmp e ⟨[], 18446744073709551615, false, []⟩ = -1 := by rcases Ent.cmp_cases e ⟨[], 18446744073709551615, false, []⟩ with h | h | h <;> omega
    rcases Ent.cmp_lt.1 h1 with h4 | ⟨_, h4⟩
    · revert h4
      show Ent.klt e.key [] = true → False
      intro h4
      cases h5 : e.key with
      | nil => rw [h5] at h4; cases h4
      | cons a b => rw [h5] at h4; cases h4
    · have h5 : 18446744073709551615 < e.seq := h4
      omega
  · exact h1
theorem sall_low {w : World} {bk : Nat} {a : Option Addr} {n c : Nat} {l : List Ent} {m : Nat} {af : Option Addr} {nf cf : Nat} {f : List UInt8} (h : Tb w bk a n c l m af nf cf f) (hn : n ≤ 1000000000) (hsq : ∀ i, i < n → (nth l i).seq ≤ 18446744073709551615) {D : Nat} (hD : 0 < n → ∀ x, a = some x → x.block < D) :
    Calls Tryz.prog 66 #[.pointer (some ⟨bk, 0, none⟩)] w (FromL D w l) := by
  have HA := Lib.hid (sfrom_low h [] 0 hn (Nat.zero_le _) (fun i hi => by omega) (fun i _ hi => cmp_top (hsq i hi)) hD)
  rw [List.drop_zero] at HA
  have e0 : bstr [] = (⟨#[]⟩ : ByteArray) := rfl
  rw [e0] at HA
  clear h
  go_enter Tryz.func66, Tryz.ntmps66
  go_wp2_with fail
  refine HA.out.mono ?_
  rintro e w1 ⟨bx, a1, k1, c1, rfl, h1, h2, h3, h4, h5⟩
  have H := Lib.hid (show FromL D w l (.returned (.func (.func 75) #[] #[.pointer (some ⟨bx, 0, none⟩)])) w1 from ⟨bx, a1, k1, c1, rfl, h1, h2, h3, h4, h5⟩)
  clear h1 h2 h3 h4 h5 HA
  go_wp2
  go_ret
  exact H.out
end Go.Proofs.YtjigfinpbdglnaaGreatDoor
end

section
set_option linter.unusedVariables false
set_option linter.unusedSimpArgs false
namespace Go.Proofs.YtjigfinpbdglnaaGreatDoor
open Go.RowKit
attribute [local go_sem] Oper.semAt_some

set_option maxRecDepth 100000 in
set_option maxHeartbeats 4000000 in
theorem lall_any {w : World} {bk : Nat} {a0 : Option Addr} {n0 c0 : Nat} {L : List Ent} {m0 : Nat} {af : Option Addr} {nf cf : Nat} {f : List UInt8} (hT : Tb w bk a0 n0 c0 L m0 af nf cf f) (hn : n0 ≤ 1000000000) (hvl : ∀ e ∈ L, e.val.length ≤ 1000000000) (hsq : ∀ i, i < n0 → (nth L i).seq ≤ 18446744073709551615) :
    Calls Tryz.prog 29 #[.pointer (some ⟨bk, 0, none⟩)] w (ColP w L) := by
  have HT := Lib.hid hT
  have HVL : Hid (∀ e ∈ L, e.val.length ≤ 1000000000) := Lib.hid hvl
  have hll : L.length ≤ 1000000000 := by rw [hT.es.1]; exact hn
  have HC : Hid (∀ W, Tb W bk a0 n0 c0 L m0 af nf cf f → ∀ D, (0 < n0 → ∀ x, a0 = some x → x.block < D) → Calls Tryz.prog 66 #[.pointer (some ⟨bk, 0, none⟩)] W (FromL D W L)) := Lib.hid fun W hW D hD => sall_low hW hn hsq hD
  have hL := trivial
  clear hT hvl hL
  refine calls_marks Tryz.func29 rfl ?_
  simp only [Tryz.ntmps29, List.size_toArray, List.length_cons, List.length_nil, Nat.reduceAdd, Nat.reduceSub, Array.replicate_succ, Array.replicate_zero, List.push_toArray, List.append_toArray, List.nil_append, List.cons_append]
  go_wp2_with fail
  have hb0 := below_alloc1 w (.cells #[.slice none 0 0] 30)
  refine (HC.out _ (HT.out.below hb0) w.heap.size (HT.out.low)).mono ?_
  rintro e w2 ⟨bx, a, n, c, rfl, hbx, hbox, hes, hal, hb2⟩
  have hzz : (w.alloc (.cells #[.slice none 0 0] 30)).heap.size = w.heap.size + 1 := by simp
  have hlen : n ≤ 1000000000 := by have := hes.1; omega
  have hz2 := hb2.size
  have hG0 : Gt w w2.heap.size w.heap.size [] w2 := ⟨⟨none, 0, 0, Boxed.below (Boxed.new w _ _) hb2, AccE.nil _ _⟩, hb0.trans (hb2.mono (by simp))⟩
  have hnl : L.length = n := hes.1
  have hbo0 : Boxed w2 w.heap.size 30 (.slice none 0 0) := Boxed.below (Boxed.new w _ _) hb2
  have hne0 : 0 < n → ∀ x, a = some x → x.block ≠ w.heap.size := fun h0 x hx => Nat.ne_of_lt (hal h0 x hx)
  have HST := Lib.hid (from2_seq 3 bx w.heap.size a n c L w2 hes (fun i hi => HVL.out _ (by rw [nth_eq _ (by omega)]; exact List.getElem_mem _)) hbox.cell hbo0 hne0)
  have HG0 := Lib.hid hG0
  have HNL := Lib.hid hnl
  clear hG0 hbo0 hbox hes hal hne0 hbx hb2 hb0 hll hnl
  have eg := enters_of Tryz.func75 (by kernel_rfl) rfl
  go_wp2_with fail
  refine range_x (gf := 75) (lb := #[.pointer (some ⟨bx, 0, none⟩)]) rfl eg HST.out (fun h k => h.trans k) (fun W l o o' hl h hc hw => KeepB.of_below (below_put (Nat.le_refl _) h) hl) (fun W o hW => KeepB.of_below (below_alloc1 W o) hW) (Below.refl _ _) (fun _ => rfl)
    (fun pre W => Gt w w2.heap.size w.heap.size (entsOt L pre) W ∧ w2.heap.size ≤ W.heap.size ∧ pre.length ≤ n) (fun c pre W => False)
    ?_ (fun _ _ _ _ _ h _ _ => h) OtX.own ⟨HG0.out, Nat.le_refl _, Nat.zero_le _⟩ (fun pre W h => h.2.1) (fun x => #[.string (bstr (nth L x.1).key), .int .u64 (nth L x.1).seq, .bool (nth L x.1).gone, .slice x.2.1 (nth L x.1).val.length x.2.2]) 37 ?_ ?_ ?_
  · rintro s W W' row ⟨h1, h2, h3⟩ hg hr
    exact ⟨h1.turned hg (fun r e => (hr r e).2) (fun r e => by have := (hr r e).1; omega), Nat.le_trans h2 hg.size, h3⟩
  · apply Exists.intro
    apply And.intro
    · intro l x W K b hb hK
      simp only [otv, ev]
      gi_wp2
      exact hK
    · rintro l pre ⟨xi, xa, xc⟩ b W ⟨⟨⟨ao, k, co, hbo, hac⟩, hbel⟩, hb2, hpn⟩ hox hb hc hlen
      have hk : k ≤ 1000000000 := by have := hac.len; simp [entsOt] at this; omega
      have hva := hox.2
      have hne := own_ne (hva : World.ownsRow _ _ _ _ _ _ _) hac.row.choose_spec.1 (by decide)
      have hxe : EntAt W b 0 (nth L xi) xa xc := EntAt.of_cells fun j v hj => by
        rw [cell_of_row _ _ _ _ _ _ hc, Nat.zero_add]
        match j, hj with
        | 0, hj => exact hj
        | 1, hj => exact hj
        | 2, hj => exact hj
        | 3, hj => exact hj
        | j + 4, hj => simp [entCells] at hj
      have n1 := hxe.key
      have n2 := hxe.seq
      have n3 := hxe.gone
      have n4 := hxe.val
      simp at n1 n2 n3 n4
      have cb := hbo.cell
      have fb := hbo.frozen
      have HPRE : Hid (entsOt L (pre ++ [(xi, xa, xc)]) = entsOt L pre ++ [nth L xi]) := Lib.hid (by simp [entsOt])
      have HVA := Lib.hid hva.bs
      have HNE := Lib.hid hne
      have HAC := Lib.hid hac
      have HBO := Lib.hid hbo
      have HBE := Lib.hid hbel
      clear hxe hva hne hac hbo hbel hc hox
      dsimp only
      dsimp only at HVA
      generalize nth L xi = xe at *
      refine wpIn_block ?_
      refine round_lit (fun ⟨_, _, h⟩ => h) (by kernel_rfl) ?_
      go_wp2_with (at_builtin; refine app_ent rfl _ _ rfl w2.heap.size rfl (HAC.out.below (below_alloc1 W _)) rfl (load_box W _ _ _) (HVA.out.below (below_alloc1 W _)) (fun h0 x y hx hy e => HNE.out x y hx hy e) (by omega) (le_alloc (by omega)) ?_; intro a4 c4 w4 h4 hb4 hev4; have hbo4 := Boxed.evol (HBO.out.alloc _) (HAC.out.below (below_alloc1 W _)) (by decide) hev4; have cb4 := hbo4.cell; have fb4 := hbo4.frozen; have HBO4 := Lib.hid hbo4; have H4 := Lib.hid h4; have HB4 := Lib.hid hb4; have HEV4 := Lib.hid hev4; clear hbo4 h4 hb4 hev4)
      have hA3 := HAC.out.below (below_alloc1 W (.cells #[.string (bstr xe.key), .int .u64 xe.seq, .bool xe.gone, .slice xa xe.val.length xc] 37))
      have hkb := ((KeepB.of_below (Bo := w.heap.size) ((below_alloc1 W (.cells #[.string (bstr xe.key), .int .u64 xe.seq, .bool xe.gone, .slice xa xe.val.length xc] 37)).mono hb2) (Nat.le_refl _)).trans (KeepB.of_below HB4.out (Nat.le_refl _))).set 0 (.slice a4 (k + 1) c4)
      have hbw := (((below_alloc1 W _).mono HBE.out.size).trans (HB4.out.mono (by omega))).setCell (p := ⟨w.heap.size, 0, none⟩) (Nat.le_refl _) (.slice a4 (k + 1) c4)
      refine ⟨(((KeepsOthers.alloc _ _).trans (hA3.keeps HEV4.out)).trans (KeepsOthers.setCell _ _ _)).from _, hkb, ⟨⟨a4, k + 1, c4, HBO4.out.set _, ?_⟩, HBE.out.trans hbw⟩, Nat.le_trans hb2 hbw.size, by simp; omega⟩
      rw [HPRE.out]
      exact H4.out.setBox HBO4.out (by decide)
  · rintro D xs W hD hS ⟨⟨⟨ao, k, co, hbo, hac⟩, hbel⟩, hb2, hpn⟩ hK
    have cb := hbo.cell
    have hr : ∀ r, some D = some r → ∃ o : Obj, W.heap[r]? = some o ∧ o.isCells = false := fun r e => by cases e; exact ⟨_, hK, rfl⟩
    have hlast : ColP w L (.returned (.slice ao k co)) (W.putObj D (.deferred none)) := ⟨_, _, _, rfl, by
      have := (hac.mono (B' := w.heap.size) (by omega)).turned (grownBy_putObj' W D (.deferred none)) hr
      rwa [entsOt_all (by rw [HNL.out]; exact hS)] at this, hbel.trans (below_shut (by omega) hK)⟩
    have HL := Lib.hid hlast
    have HK := Lib.hid hK
    clear hlast hK hbo hac hbel
    go_wp2
    refine ret_m1 HK.out (results_tmp rfl _ _ _) ?_
    exact HL.out
  · rintro D c pre W hD hSp hx hK
    exact hx.elim
set_option maxRecDepth 100000 in
set_option maxHeartbeats 4000000 in
theorem lfrom_any {w : World} {bk : Nat} {a0 : Option Addr} {n0 c0 : Nat} {l : List Ent} {m0 : Nat} {af : Option Addr} {nf cf : Nat} {f : List UInt8} (hT : Tb w bk a0 n0 c0 l m0 af nf cf f) (hn : n0 ≤ 1000000000) (hvl : ∀ e ∈ l, e.val.length ≤ 1000000000) (key : List UInt8) (p : Nat) (hp : p ≤ n0)
    (h1 : ∀ i, i < p → Ent.cmp (nth l i) ⟨key, 18446744073709551615, false, []⟩ < 0) (h2 : ∀ i, p ≤ i → i < n0 → 0 ≤ Ent.cmp (nth l i) ⟨key, 18446744073709551615, false, []⟩) :
    Calls Tryz.prog 16 #[.pointer (some ⟨bk, 0, none⟩), .string (bstr key)] w (ColP w (l.drop p)) := by
  have HT := Lib.hid hT
  have HVL : Hid (∀ e ∈ l.drop p, e.val.length ≤ 1000000000) := Lib.hid fun e he => hvl e (List.mem_of_mem_drop he)
  have hll : (l.drop p).length ≤ 1000000000 := by rw [List.length_drop, hT.es.1]; omega
  have HC : Hid (∀ W, Tb W bk a0 n0 c0 l m0 af nf cf f → ∀ D, (0 < n0 → ∀ x, a0 = some x → x.block < D) → Calls Tryz.prog 38 #[.pointer (some ⟨bk, 0, none⟩), .string (bstr key)] W (FromL D W (l.drop p))) := Lib.hid fun W hW D hD => sfrom_low hW key p hn hp h1 h2 hD
  clear h1 h2
  obtain ⟨L, hL⟩ : ∃ L, L = l.drop p := ⟨_, rfl⟩
  rw [← hL] at HVL HC hll ⊢
  clear hT hvl hL
  refine calls_marks Tryz.func16 rfl ?_
  simp only [Tryz.ntmps16, List.size_toArray, List.length_cons, List.length_nil, Nat.reduceAdd, Nat.reduceSub, Array.replicate_succ, Array.replicate_zero, List.push_toArray, List.append_toArray, List.nil_append, List.cons_append]
  go_wp2_with fail
  have hb0 := below_alloc1 w (.cells #[.slice none 0 0] 30)
  refine (HC.out _ (HT.out.below hb0) w.heap.size (HT.out.low)).mono ?_
  rintro e w2 ⟨bx, a, n, c, rfl, hbx, hbox, hes, hal, hb2⟩
  have hzz : (w.alloc (.cells #[.slice none 0 0] 30)).heap.size = w.heap.size + 1 := by simp
  have hlen : n ≤ 1000000000 := by have := hes.1; omega
  have hz2 := hb2.size
  have hG0 : Gt w w2.heap.size w.heap.size [] w2 := ⟨⟨none, 0, 0, Boxed.below (Boxed.new w _ _) hb2, AccE.nil _ _⟩, hb0.trans (hb2.mono (by simp))⟩
  have hnl : L.length = n := hes.1
  have hbo0 : Boxed w2 w.heap.size 30 (.slice none 0 0) := Boxed.below (Boxed.new w _ _) hb2
  have hne0 : 0 < n → ∀ x, a = some x → x.block ≠ w.heap.size := fun h0 x hx => Nat.ne_of_lt (hal h0 x hx)
  have HST := Lib.hid (from2_seq 3 bx w.heap.size a n c L w2 hes (fun i hi => HVL.out _ (by rw [nth_eq _ (by omega)]; exact List.getElem_mem _)) hbox.cell hbo0 hne0)
  have HG0 := Lib.hid hG0
  have HNL := Lib.hid hnl
  clear hG0 hbo0 hbox hes hal hne0 hbx hb2 hb0 hll hnl
  have eg := enters_of Tryz.func75 (by kernel_rfl) rfl
  go_wp2_with fail
  refine range_x (gf := 75) (lb := #[.pointer (some ⟨bx, 0, none⟩)]) rfl eg HST.out (fun h k => h.trans k) (fun W l o o' hl h hc hw => KeepB.of_below (below_put (Nat.le_refl _) h) hl) (fun W o hW => KeepB.of_below (below_alloc1 W o) hW) (Below.refl _ _) (fun _ => rfl)
    (fun pre W => Gt w w2.heap.size w.heap.size (entsOt L pre) W ∧ w2.heap.size ≤ W.heap.size ∧ pre.length ≤ n) (fun c pre W => False)
    ?_ (fun _ _ _ _ _ h _ _ => h) OtX.own ⟨HG0.out, Nat.le_refl _, Nat.zero_le _⟩ (fun pre W h => h.2.1) (fun x => #[.string (bstr (nth L x.1).key), .int .u64 (nth L x.1).seq, .bool (nth L x.1).gone, .slice x.2.1 (nth L x.1).val.length x.2.2]) 37 ?_ ?_ ?_
  · rintro s W W' row ⟨h1, h2, h3⟩ hg hr
    exact ⟨h1.turned hg (fun r e => (hr r e).2) (fun r e => by have := (hr r e).1; omega), Nat.le_trans h2 hg.size, h3⟩
  · apply Exists.intro
    apply And.intro
    · intro l x W K b hb hK
      simp only [otv, ev]
      gi_wp2
      exact hK
    · rintro l pre ⟨xi, xa, xc⟩ b W ⟨⟨⟨ao, k, co, hbo, hac⟩, hbel⟩, hb2, hpn⟩ hox hb hc hlen
      have hk : k ≤ 1000000000 := by have := hac.len; simp [entsOt] at this; omega
      have hva := hox.2
      have hne := own_ne (hva : World.ownsRow _ _ _ _ _ _ _) hac.row.choose_spec.1 (by decide)
      have hxe : EntAt W b 0 (nth L xi) xa xc := EntAt.of_cells fun j v hj => by
        rw [cell_of_row _ _ _ _ _ _ hc, Nat.zero_add]
        match j, hj with
        | 0, hj => exact hj
        | 1, hj => exact hj
        | 2, hj => exact hj
        | 3, hj => exact hj
        | j + 4, hj => simp [entCells] at hj
      have n1 := hxe.key
      have n2 := hxe.seq
      have n3 := hxe.gone
      have n4 := hxe.val
      simp at n1 n2 n3 n4
      have cb := hbo.cell
      have fb := hbo.frozen
      have HPRE : Hid (entsOt L (pre ++ [(xi, xa, xc)]) = entsOt L pre ++ [nth L xi]) := Lib.hid (by simp [entsOt])
      have HVA := Lib.hid hva.bs
      have HNE := Lib.hid hne
      have HAC := Lib.hid hac
      have HBO := Lib.hid hbo
      have HBE := Lib.hid hbel
      clear hxe hva hne hac hbo hbel hc hox
      dsimp only
      dsimp only at HVA
      generalize nth L xi = xe at *
      refine wpIn_block ?_
      refine round_lit (fun ⟨_, _, h⟩ => h) (by kernel_rfl) ?_
      go_wp2_with (at_builtin; refine app_ent rfl _ _ rfl w2.heap.size rfl (HAC.out.below (below_alloc1 W _)) rfl (load_box W _ _ _) (HVA.out.below (below_alloc1 W _)) (fun h0 x y hx hy e => HNE.out x y hx hy e) (by omega) (le_alloc (by omega)) ?_; intro a4 c4 w4 h4 hb4 hev4; have hbo4 := Boxed.evol (HBO.out.alloc _) (HAC.out.below (below_alloc1 W _)) (by decide) hev4; have cb4 := hbo4.cell; have fb4 := hbo4.frozen; have HBO4 := Lib.hid hbo4; have H4 := Lib.hid h4; have HB4 := Lib.hid hb4; have HEV4 := Lib.hid hev4; clear hbo4 h4 hb4 hev4)
      have hA3 := HAC.out.below (below_alloc1 W (.cells #[.string (bstr xe.key), .int .u64 xe.seq, .bool xe.gone, .slice xa xe.val.length xc] 37))
      have hkb := ((KeepB.of_below (Bo := w.heap.size) ((below_alloc1 W (.cells #[.string (bstr xe.key), .int .u64 xe.seq, .bool xe.gone, .slice xa xe.val.length xc] 37)).mono hb2) (Nat.le_refl _)).trans (KeepB.of_below HB4.out (Nat.le_refl _))).set 0 (.slice a4 (k + 1) c4)
      have hbw := (((below_alloc1 W _).mono HBE.out.size).trans (HB4.out.mono (by omega))).setCell (p := ⟨w.heap.size, 0, none⟩) (Nat.le_refl _) (.slice a4 (k + 1) c4)
      refine ⟨(((KeepsOthers.alloc _ _).trans (hA3.keeps HEV4.out)).trans (KeepsOthers.setCell _ _ _)).from _, hkb, ⟨⟨a4, k + 1, c4, HBO4.out.set _, ?_⟩, HBE.out.trans hbw⟩, Nat.le_trans hb2 hbw.size, by simp; omega⟩
      rw [HPRE.out]
      exact H4.out.setBox HBO4.out (by decide)
  · rintro D xs W hD hS ⟨⟨⟨ao, k, co, hbo, hac⟩, hbel⟩, hb2, hpn⟩ hK
    have cb := hbo.cell
    have hr : ∀ r, some D = some r → ∃ o : Obj, W.heap[r]? = some o ∧ o.isCells = false := fun r e => by cases e; exact ⟨_, hK, rfl⟩
    have hlast : ColP w L (.returned (.slice ao k co)) (W.putObj D (.deferred none)) := ⟨_, _, _, rfl, by
      have := (hac.mono (B' := w.heap.size) (by omega)).turned (grownBy_putObj' W D (.deferred none)) hr
      rwa [entsOt_all (by rw [HNL.out]; exact hS)] at this, hbel.trans (below_shut (by omega) hK)⟩
    have HL := Lib.hid hlast
    have HK := Lib.hid hK
    clear hlast hK hbo hac hbel
    go_wp2
    refine ret_m1 HK.out (results_tmp rfl _ _ _) ?_
    exact HL.out
  · rintro D c pre W hD hSp hx hK
    exact hx.elim
end Go.Proofs.YtjigfinpbdglnaaGreatDoor
end
