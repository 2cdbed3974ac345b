/- compact.job. -/
import Derived.Test.YtfcfipoldkjloaaCpK
import Derived.Test.YtfcfipoldkjloaaReads2
import Derived.Test.YtfcfipoldkjloaaInts
import Derived.Deep.DeepCutAuto
set_option maxRecDepth 100000
set_option linter.unusedVariables false
set_option linter.unusedSimpArgs false
namespace Go.Proofs.Ytfcfipoldkjloaa
open Go.RowKit

def Tab.over (k : Int) (x y : List UInt8) (l : List Tab) : List Tab := (Tab.at k l).filter fun t => !(Ent.klt y t.first || Ent.klt t.last x)
def Tab.all (k : Nat) (l vt : List Tab) : List Tab := l ++ Tab.over ((k : Int) + 1) (Tab.lo l) (Tab.hi l) vt
def Tab.botTo (vt : List Tab) (k : Nat) (x y : List UInt8) (j : Nat) : Bool := (List.range j).all fun i => decide (i < k + 2) || (Tab.over (i : Int) x y vt).isEmpty
theorem botTo_zero (vt : List Tab) (k : Nat) (x y : List UInt8) : Tab.botTo vt k x y (k + 2) = true := by
  unfold Tab.botTo
  rw [List.all_eq_true]
  intro i hi
  have := List.mem_range.1 hi
  simp; left; omega
theorem botTo_succ {vt : List Tab} {k : Nat} {x y : List UInt8} {j : Nat} (h : k + 2 ≤ j) : Tab.botTo vt k x y (j + 1) = (Tab.botTo vt k x y j && (Tab.over (j : Int) x y vt).isEmpty) := by
  unfold Tab.botTo
  rw [List.range_succ, List.all_append]
  simp [show ¬ j < k + 2 by omega]
/-- A row of ints of the call's own. -/
def AccZ (w : World) (B : Nat) (a : Option Addr) (n c : Nat) (l : List Int) : Prop := l.length = n ∧ w.ownsRow B 3 1 (.slice a n c) n (zv l)
theorem AccZ.below {w w' : World} {B n c : Nat} {a : Option Addr} {l : List Int} (h : AccZ w B a n c l) (hb : Below w.heap.size w w') : AccZ w' B a n c l := ⟨h.1, own_below h.2 hb⟩
theorem AccZ.mono {w : World} {B B' n c : Nat} {a : Option Addr} {l : List Int} (h : AccZ w B a n c l) (hB : B' ≤ B) : AccZ w B' a n c l := ⟨h.1, own_mono h.2 hB⟩
theorem AccZ.nil (w : World) (B : Nat) : AccZ w B none 0 0 [] := ⟨rfl, World.ownsRow_nil w B _ _⟩
theorem infoZ : (Try.prog.info? 3).map (fun i => (i.zero, i.size, i.bytes)) = some (some (.int .i64 0), 1, 8) := by kernel_rfl
theorem clipt_any (a : Option Addr) (n c : Nat) (w : World) (h : n ≤ c) (hc : c ≤ 9223372036854775807) : Calls Try.prog 56 #[.slice a n c] w fun e w' => e = .returned (.slice a n n) ∧ w = w' := by
  obtain ⟨i, hi, hz, h1, h2⟩ := info_parts infoT
  have hs : ∀ W, (Instr.slice 42 (.slice a n c) none (some (.int .i64 (n : Int))) (some (.int .i64 (n : Int)))).run Try.prog W = .ok (.slice a n n) W := fun W => by
    have g : n ≤ n := Nat.le_refl _
    simp [Instr.slice, run_underlying Try.underlying42, sizeOf, typeInfo, hi, Instr.sliceBounds, run_sliceBound, g, h]
    intro _; cases a <;> simp [Addr.add_zero']
  clear hi hz h1 h2
  go_enter Try.func56, Try.ntmps56
  go_wp2
  go_ret
  exact ⟨rfl, rfl⟩
theorem Ts.clip {w : World} {a : Option Addr} {n c : Nat} {l : List Tab} (h : Ts w a n c l) : Ts w a n n l := ⟨h.1, Nat.le_refl _, Nat.le_trans h.2.1 h.2.2.1, h.2.2.2⟩
/-- A job in cells. -/
structure JBox (w : World) (b : Nat) (lv : Int) (a : Option Addr) (n c : Nat) (bt : Bool) : Prop where
  blk : w.heap[b]? = some (.cells #[.int .i64 lv, .slice a n c, .bool bt] 58 (0, 0))
theorem JBox.lt {w : World} {b : Nat} {lv : Int} {a : Option Addr} {n c : Nat} {bt : Bool} (h : JBox w b lv a n c bt) : b < w.heap.size := (Array.getElem?_eq_some_iff.1 h.blk).1
theorem JBox.new (w : World) (lv : Int) (a : Option Addr) (n c : Nat) (bt : Bool) : JBox (w.alloc (.cells #[.int .i64 lv, .slice a n c, .bool bt] 58)) w.heap.size lv a n c bt := ⟨heap_alloc_new w _⟩
theorem JBox.below {w w' : World} {b : Nat} {lv : Int} {a : Option Addr} {n c : Nat} {bt : Bool} (h : JBox w b lv a n c bt) {N : Nat} (hb : Below N w w') (hN : b < N) : JBox w' b lv a n c bt := ⟨(hb.block b hN).trans h.blk⟩
theorem JBox.evol {w w' : World} {b : Nat} {lv : Int} {a : Option Addr} {n c : Nat} {bt : Bool} (h : JBox w b lv a n c bt) {ao ao' : Option Addr} (k : Evol w ao w' ao') (hne : ∀ x, ao = some x → x.block ≠ b) : JBox w' b lv a n c bt :=
  ⟨(k.1.block b h.lt (fun e => by
    cases ao with
    | none => cases e
    | some x => exact hne x rfl (by simpa using e.symm))).trans h.blk⟩
theorem JBox.cells {w : World} {b : Nat} {lv : Int} {a : Option Addr} {n c : Nat} {bt : Bool} (h : JBox w b lv a n c bt) :
    w.cell? ⟨b, 0, none⟩ = some (.int .i64 lv) ∧ w.cell? ⟨b, 1, none⟩ = some (.slice a n c) ∧ w.cell? ⟨b, 2, none⟩ = some (.bool bt) ∧ (∀ j, w.frozen? ⟨b, j, none⟩ = false) :=
  ⟨(cell_of_row _ _ 0 _ _ _ h.blk).trans rfl, (cell_of_row _ _ 1 _ _ _ h.blk).trans rfl, (cell_of_row _ _ 2 _ _ _ h.blk).trans rfl, fun j => by simp [World.frozen?, h.blk]⟩
theorem JBox.set {w : World} {b : Nat} {lv lv' : Int} {a a' : Option Addr} {n c n' c' : Nat} {bt bt' : Bool} (h : JBox w b lv a n c bt) (j : Nat) (v : Value) (hv : (#[.int .i64 lv, .slice a n c, .bool bt] : Array Value).setIfInBounds j v = #[.int .i64 lv', .slice a' n' c', .bool bt']) :
    JBox (w.setCell ⟨b, j, none⟩ v) b lv' a' n' c' bt' := by
  refine ⟨?_⟩
  show (w.heap.modify b _)[b]? = _
  obtain ⟨hlt, hk⟩ := Array.getElem?_eq_some_iff.1 h.blk
  rw [Array.getElem?_eq_getElem (by rw [Array.size_modify]; exact hlt), Array.getElem_modify_self, hk]
  simp only [hv]
  rfl
theorem AccZ.setLow {w : World} {B n c b j : Nat} {a : Option Addr} {l : List Int} (h : AccZ w B a n c l) (hb : b < B) (v : Value) : AccZ (w.setCell ⟨b, j, none⟩ v) B a n c l :=
  ⟨h.1, own_keep h.2 (fun g hg => Below.heap_setCell _ _ _ _ (by show g ≠ b; omega))⟩
section
variable {w : World} {ops : Array Oper} {rest : List Oper} {o : Oper} {a : Act} {Q : Exit → Act → World → Prop}
/-- append of an int. -/
theorem app_z (hgd : Region.wanted o (yielded ops a.tmps) = true) (s x : Operand) (ho : o.op = .call { callee := .builtin .append, args := #[s, x], argTypes := #[51, 51] })
    (B : Nat) {aq : Option Addr} {n c : Nat} {l : List Int} (hs : a.eval s = .slice aq n c) (hacc : AccZ w B aq n c l)
    {k : Nat} {z : Int} (hx : a.eval x = .slice (some ⟨k, 0, none⟩) 1 1) (hcell : w.cell? ⟨k, 0, none⟩ = some (.int .i64 z)) (hb : n ≤ 1000000000) (hB : B ≤ w.heap.size)
    (h : ∀ a' c' w', AccZ w' B a' (n + 1) c' (l ++ [z]) → Below B w w' → Evol w aq w' a' → wpList Try.prog ops Q rest (a.put o.dst (.slice a' (n + 1) c')) w') : wpList Try.prog ops Q (o :: rest) a w := by
  obtain ⟨i, hi, h0, h1, h2⟩ := info_parts infoZ
  have hr : Row w (some ⟨k, 0, none⟩) (zv [z]) := fun j v hj => by
    cases j with
    | zero => cases hj; exact ⟨k, 0, rfl, hcell⟩
    | succ j => simp [zv] at hj
  refine wpList_app_own hgd s x 51 ho B 3 i (.int .i64 0) 1 8 Try.underlying51 hi h0 h1 h2 rfl (by decide) aq n c (zv l) hs hacc.2 (some ⟨k, 0, none⟩) 1 1 (zv [z]) hx hr rfl (fun u hu => by simp [zv] at hu; subst hu; rfl) (by omega) (by simp only [maxLen]; omega) hB ?_
  intro a' c' w' g1 g2
  exact h a' c' w' ⟨by simp [hacc.1], by have e : zv (l ++ [z]) = zv l ++ zv [z] := by simp [zv]
                                         rw [e]; exact g1⟩ (g2.below hB (fun x hx => by subst hx; exact (World.ownsRow.lt hacc.2 x.block rfl).1)) g2
/-- append of tables to a full slice. -/
theorem app_tabs_full (hgd : Region.wanted o (yielded ops a.tmps) = true) (s x : Operand) (ho : o.op = .call { callee := .builtin .append, args := #[s, x], argTypes := #[42, 42] })
    {aq : Option Addr} {n : Nat} {l : List Tab} (hs : a.eval s = .slice aq n n) (hq : Ts w aq n n l)
    {ax : Option Addr} {m cx : Nat} {l2 : List Tab} (hx : a.eval x = .slice ax m cx) (hr : Ts w ax m cx l2) (hb : n + m ≤ 1000000000)
    (h : ∀ a' c' w', Ts w' a' (n + m) c' (l ++ l2) → Below w.heap.size w w' → wpList Try.prog ops Q rest (a.put o.dst (.slice a' (n + m) c')) w') : wpList Try.prog ops Q (o :: rest) a w := by
  obtain ⟨i, hi, hz, h1, h2⟩ := info_parts infoT
  refine wpList_app hgd s x 42 ho w.heap.size 49 i (.agg #[.int .i64 0, .int .i64 0, .string ByteArray.empty, .string ByteArray.empty, .int .i64 0]) 5 56 Try.underlying42 hi hz h1 h2 rfl (by decide) aq n n (tv l) hs (.inr ⟨aq, rfl, hq.2.2.2, by rw [tv_len, hq.1], hq.2.2.1⟩) ax m cx (tv l2) hx hr.2.2.2 (by rw [tv_len, hr.1]) (tv_one l2) (by omega) (by simp only [maxLen]; omega) (Nat.le_refl _) ?_
  intro a' c' w' g1 _ g2 _
  rw [← tv_app] at g1
  have hc := g1.cap
  exact h a' c' w' ⟨by rw [List.length_append, hq.1, hr.1], hc.2.1, hc.2.2, g1.row⟩ g2
end
/-- What job tells. -/
def RetJ (k : Nat) (l vt : List Tab) (w : World) (e : Ending) (w' : World) : Prop :=
  ∃ ai ni ci, e = .returned (.agg #[.int .i64 k, .slice ai ni ci, .bool (Tab.botTo vt k (Tab.lo (Tab.all k l vt)) (Tab.hi (Tab.all k l vt)) 7)]) ∧ AccZ w' w.heap.size ai ni ci ((Tab.all k l vt).map Tab.file) ∧ Below w.heap.size w w'
def OverC (a : Option Addr) (n c : Nat) (vt : List Tab) (sq nx wl : Int) (w : World) : Prop :=
  ∀ (k : Int) (x y : List UInt8) (W : World), 1 ≤ k → Below w.heap.size w W → Calls Try.prog 57 #[vv a n c sq nx wl, .int .i64 k, .string (bstr x), .string (bstr y)] W (RetTs W.heap.size (Tab.over k x y vt) W)
set_option maxHeartbeats 8000000 in
theorem job_any (a al : Option Addr) (n c nl cl : Nat) (vt l : List Tab) (sq nx wl : Int) (k : Nat) (w : World) (h : Ts w a n c vt) (hl : Ts w al nl cl l) (h0 : 0 < nl) (hk : k ≤ 5) (hn : n ≤ 1000000) (hnl : nl ≤ 1000000) (hO : OverC a n c vt sq nx wl w) :
    Calls Try.prog 30 #[vv a n c sq nx wl, .int .i64 k, .slice al nl cl] w (RetJ k l vt w) := by
  have hle := hl.le
  have HN := Lib.hid (And.intro h.1 hl.1)
  have HL := Lib.hid hl
  have HO := Lib.hid hO
  have hcl := hl.2.1
  have HOL : Hid (∀ k x y, (Tab.over k x y vt).length ≤ n) := Lib.hid fun k x y => by
    rw [← HN.out.1]; exact Nat.le_trans (List.length_filter_le _ _) (List.length_filter_le _ _)
  clear h hl hO
  unfold vv
  obtain ⟨wb, hwb⟩ : ∃ wb, w.alloc (.cells #[.slice a n c, .int .u64 sq, .int .i64 nx, .int .i64 wl] 44) = wb := ⟨_, rfl⟩
  have hzb : wb.heap.size = w.heap.size + 1 := by rw [← hwb]; simp
  have HBB : Hid (Below w.heap.size w wb) := Lib.hid (by rw [← hwb]; exact below_alloc1 _ _)
  have hvb : wb.heap[w.heap.size]? = some (.cells #[.slice a n c, .int .u64 sq, .int .i64 nx, .int .i64 wl] 44 (0, 0)) := by rw [← hwb]; exact heap_alloc_new _ _
  have HVB := Lib.hid hvb
  have HZB := Lib.hid hzb
  have HJ0 : Hid (JBox (wb.alloc (.cells #[.int .i64 0, .slice none 0 0, .bool false] 58)) wb.heap.size 0 none 0 0 false) := Lib.hid (JBox.new _ _ _ _ _ _)
  have HB0 : Hid (Below wb.heap.size wb (wb.alloc (.cells #[.int .i64 0, .slice none 0 0, .bool false] 58))) := Lib.hid (below_alloc1 _ _)
  clear hvb hzb
  go_enter Try.func30, Try.ntmps30
  go_wp2_with fail
  refine (stretch_any al nl cl l _ ((HL.out.below HBB.out).below (below_alloc1 _ _)) h0).mono ?_
  rintro e w1 ⟨rfl, hb1⟩
  have HBW : Hid (Below (wb.heap.size + 1) (wb.alloc (.cells #[.int .i64 0, .slice none 0 0, .bool false] 58)) w1) := Lib.hid (by have := hb1; rwa [World.size_alloc] at this)
  have HB1 : Hid (Below wb.heap.size wb w1) := Lib.hid (HB0.out.trans (hb1.mono (by simp)))
  have HJ1 : Hid (JBox w1 wb.heap.size 0 none 0 0 false) := Lib.hid (HJ0.out.below HBW.out (by omega))
  have HV1 : Hid (w1.heap[w.heap.size]? = some (.cells #[.slice a n c, .int .u64 sq, .int .i64 nx, .int .i64 wl] 44 (0, 0))) := Lib.hid ((HB1.out.block _ (by have := HZB.out; omega)).trans HVB.out)
  have HBW1 : Hid (Below w.heap.size w w1) := Lib.hid (HBB.out.trans (HB1.out.mono (by have := HZB.out; omega)))
  clear hb1 HJ0 HB0 HBW
  go_upto_region 2 with fail
  have v0 := cell_of_row _ _ 0 _ _ _ HV1.out
  have v1 := cell_of_row _ _ 1 _ _ _ HV1.out
  have v2 := cell_of_row _ _ 2 _ _ _ HV1.out
  have v3 := cell_of_row _ _ 3 _ _ _ HV1.out
  simp at v0 v1 v2 v3
  have HALL : Hid (l ++ Tab.over ((k : Int) + 1) (Tab.lo l) (Tab.hi l) vt = Tab.all k l vt) := Lib.hid rfl
  generalize Tab.lo l = x at *
  generalize Tab.hi l = y at *
  have hwr : IntKind.i64.wrap ((k : Int) + 1) = (k : Int) + 1 := by rw [IntKind.wrap_i64]; omega
  refine wp_region_order [0, 3, 4, 5, 6] [2] [1, 7] [8, 9] 8 (by intro c a d v w h; cases d <;> exact h) (by kernel_rfl) (by kernel_rfl) (fun W' => ∃ V : BW w1, W' = V.w) ⟨⟨w1.drew, (Below.refl _ _).drew⟩, rfl⟩ ?_
  simp only [opsAt, List.filterMap_cons, List.filterMap_nil, List.getElem?_cons_zero, List.getElem?_cons_succ]
  iterate 5
    apply held_step
    · rfl
    · intro W _
      go_simp
      rfl
  refine held_nil ?_
  iterate 1
    apply held_step
    · rfl
    · rintro _ ⟨V, rfl⟩
      have m0 := BW.cell v0 V
      have m1 := BW.cell v1 V
      have m2 := BW.cell v2 V
      have m3 := BW.cell v3 V
      go_simp
      rfl
  refine held_nil ?_
  have HBC : Below w1.heap.size w1 w1.drew := (Below.refl _ _).drew
  refine walkS_step rfl (fun K hK => ?_)
  go_simp
  refine (clipt_any al nl cl _ hcl hle.2).mono ?_
  rintro e w2 ⟨rfl, rfl⟩
  refine hK _ _ ⟨⟨_, HBC⟩, rfl⟩ ?_
  clear hK
  refine walkS_step rfl (fun K hK => ?_)
  go_simp
  have hov := HO.out ((k : Int) + 1) x y w1.drew (by omega) (HBW1.out.trans (HBC.mono HBW1.out.size))
  unfold vv at hov
  refine hov.mono ?_
  clear hov
  rintro e w3 ⟨a3, n3, c3, rfl, h3, hz3, hb3⟩
  have hb3' : Below w1.heap.size w1 w3 := HBC.trans hb3
  refine hK _ _ ⟨⟨w3, hb3'⟩, rfl⟩ ?_
  clear hK
  refine walkS_nil ?_
  have hn3 : n3 ≤ n := by rw [← h3.1]; exact HOL.out _ _ _
  refine app_tabs_full (aq := al) (n := nl) (l := l) (ax := a3) (m := n3) (cx := c3) rfl _ _ rfl (by simp [Act.eval, Act.put]) ((HL.out.below HBW1.out).below hb3' |>.clip) (by simp [Act.eval, Act.put]) h3.ts (by omega) ?_
  intro a4 c4 w4 h4 hb4
  have hb14 := hb3'.trans (hb4.mono hb3'.size)
  have HJ4 : Hid (JBox w4 wb.heap.size 0 none 0 0 false) := Lib.hid (HJ1.out.below hb14 HJ1.out.lt)
  have HV4 : Hid (w4.heap[w.heap.size]? = some (.cells #[.slice a n c, .int .u64 sq, .int .i64 nx, .int .i64 wl] 44 (0, 0))) := Lib.hid ((hb14.block _ (by have := HZB.out; have := HB1.out.size; omega)).trans HV1.out)
  have HB4 : Hid (Below wb.heap.size wb w4) := Lib.hid (HB1.out.trans (hb14.mono HB1.out.size))
  have HBW4 : Hid (Below w.heap.size w w4) := Lib.hid (HBB.out.trans (HB4.out.mono (by have := HZB.out; omega)))
  rw [HALL.out] at h4
  have HT4 : Hid (Ts w4 a4 (nl + n3) c4 (Tab.all k l vt)) := Lib.hid h4
  clear h4 hb14 hb4 hb3 hb3' h3 hz3 HB1 HJ1 HV1 HBW1 HALL v0 v1 v2 v3 hwr HBC
  have hN : nl + n3 ≤ 2000000 := by omega
  have hN0 : 0 < nl + n3 := by omega
  obtain ⟨ts, hts⟩ : ∃ ts, ts = Tab.all k l vt := ⟨_, rfl⟩
  rw [← hts] at HT4
  have HTS := Lib.hid hts
  have HTL := Lib.hid HT4.out.1
  have hle4 := HT4.out.le
  clear hts
  generalize nl + n3 = N at *
  have HSZ : Hid (w.heap.size + 1 = wb.heap.size ∧ wb.heap.size < w4.heap.size) := Lib.hid ⟨HZB.out.symm, HJ4.out.lt⟩
  go_wp2_with fail
  go_loopw [32] (fun iv wr => ∃ (i ci : Nat) (ai : Option Addr), i ≤ N ∧ iv = .int .i64 i ∧ Hid (JBox wr w4.heap.size k ai i ci true) ∧ Hid (AccZ wr (w4.heap.size + 1) ai i ci ((ts.take i).map Tab.file)) ∧ Hid (Below w4.heap.size w4 wr)) (fun iv _ => N - (intOf iv).toNat)
  case atStart => exact ⟨0, 0, none, Nat.zero_le _, rfl, Lib.hid (JBox.new _ _ _ _ _ _), Lib.hid (AccZ.nil _ _), Lib.hid (below_alloc1 _ _)⟩
  case round =>
    obtain ⟨i, ci, ai, hi, rfl, hjb, hac, hbl⟩ := hrel
    by_cases hin : i < N
    · obtain ⟨b1, o1, ea, he⟩ := (HT4.out.below hbl.out).get hin
      subst ea
      have c1 := he.file
      have c2 := he.level
      have c3 := he.first
      have c4' := he.last
      have c5 := he.size
      obtain ⟨j0, j1, j2, jf⟩ := hjb.out.cells
      have HSN : Hid ((ts.take (i + 1)).map Tab.file = (ts.take i).map Tab.file ++ [(nth ts i).file]) := Lib.hid (by rw [take_snoc ts (by rw [HTL.out]; exact hin)]; simp)
      clear he j0 j2
      generalize nth ts i = t at *
      have hz1 : (wr.alloc (.cells #[.int .i64 t.file, .int .i64 t.level, .string (bstr t.first), .string (bstr t.last), .int .i64 t.size] 49)).heap.size = wr.heap.size + 1 := by simp
      have hb12 : Below wr.heap.size wr ((wr.alloc (.cells #[.int .i64 t.file, .int .i64 t.level, .string (bstr t.first), .string (bstr t.last), .int .i64 t.size] 49)).alloc (.cells #[.int .i64 t.file] 3)) := two_boxes _ _ _
      have HJ2 := Lib.hid (hjb.out.below hb12 hjb.out.lt)
      have HA2 := Lib.hid (hac.out.below hb12)
      have HB2 := Lib.hid (hbl.out.trans (hb12.mono hbl.out.size))
      have HLT := Lib.hid hjb.out.lt
      have hlt9 : w4.heap.size < wr.heap.size := hjb.out.lt
      have j1a := cell_later (below_alloc1 wr (.cells #[.int .i64 t.file, .int .i64 t.level, .string (bstr t.first), .string (bstr t.last), .int .i64 t.size] 49)) j1
      have HC9 : Hid (((wr.alloc (.cells #[.int .i64 t.file, .int .i64 t.level, .string (bstr t.first), .string (bstr t.last), .int .i64 t.size] 49)).alloc (.cells #[.int .i64 t.file] 3)).cell? ⟨wr.heap.size + 1, 0, none⟩ = some (.int .i64 t.file)) := Lib.hid (by rw [← hz1, cell_of_row _ _ _ _ _ _ (heap_alloc_new _ _)]; rfl)
      clear hb12 hz1
      go_wp2_with (at_builtin; refine app_z rfl _ _ rfl (w4.heap.size + 1) rfl HA2.out rfl HC9.out (by omega) (by have := HLT.out; simp; omega) ?_; intro a6 c6 w6 h6 hb6 hev6; have HJ6 := Lib.hid (JBox.evol HJ2.out hev6 (fun x hx => by have := (World.ownsRow.lt (hx ▸ HA2.out.2) x.block rfl).1; omega)); have H6 := Lib.hid h6; have HB6 := Lib.hid (HB2.out.trans (hb6.mono (Nat.le_succ _))); obtain ⟨k0, k1, k2, kf⟩ := HJ6.out.cells; clear h6 hb6 hev6 k0 k2)
      go_roundw
      case rel => exact ⟨i + 1, c6, a6, hin, by go_num, Lib.hid (HJ6.out.set 1 _ rfl), by rw [HSN.out]; exact Lib.hid (H6.out.setLow (Nat.lt_succ_self _) _), Lib.hid (HB6.out.setCell (p := ⟨w4.heap.size, 1, none⟩) (Nat.le_refl _) _)⟩
      case measure => simp [intOf]; omega
    · obtain rfl : N = i := by omega
      have e1 : ts.take N = ts := by rw [← HTL.out, List.take_length]
      rw [e1] at hac
      clear e1
      go_wp2_with fail
      refine (stretch_any a4 N c4 ts _ (HT4.out.below hbl.out) hN0).mono ?_
      rintro e w8 ⟨rfl, hb8⟩
      have HJ8 := Lib.hid (hjb.out.below hb8 hjb.out.lt)
      have HA8 := Lib.hid (hac.out.below hb8)
      have HB8 := Lib.hid (hbl.out.trans (hb8.mono hbl.out.size))
      clear hb8 hjb hac hbl
      obtain ⟨X, hX⟩ : ∃ X, X = Tab.lo ts := ⟨_, rfl⟩
      obtain ⟨Y, hY⟩ : ∃ Y, Y = Tab.hi ts := ⟨_, rfl⟩
      rw [← hX, ← hY]
      have HXY := Lib.hid (And.intro hX hY)
      clear hX hY
      go_wp2_with fail
      have HAN0 : Hid (n3 ≤ 1000000) := Lib.hid (by omega)
      go_loopw [13] (fun kv wr => ∃ j : Nat, k + 2 ≤ j ∧ j ≤ 7 ∧ kv = .int .i64 j ∧ Hid (JBox wr w4.heap.size k ai N ci (Tab.botTo vt k X Y j)) ∧ Hid (AccZ wr (w4.heap.size + 1) ai N ci (ts.map Tab.file)) ∧ Hid (Below w4.heap.size w4 wr)) (fun kv _ => 7 - (intOf kv).toNat)
      case atStart => exact ⟨k + 2, Nat.le_refl _, by omega, by go_num, by rw [botTo_zero]; exact HJ8, HA8, HB8⟩
      case round =>
        obtain ⟨j, hj2, hj7, rfl, hjb, hac, hbl⟩ := hrel
        have hlt9 : w4.heap.size < wr.heap.size := hjb.out.lt
        by_cases hj : j ≤ 6
        · have HST : Hid (Tab.botTo vt k X Y (j + 1) = (Tab.botTo vt k X Y j && (Tab.over (j : Int) X Y vt).isEmpty)) := Lib.hid (botTo_succ hj2)
          cases hb : Tab.botTo vt k X Y j with
          | false =>
            rw [hb] at hjb HST
            obtain ⟨j0, j1, j2, jf⟩ := hjb.out.cells
            have HS2 : Hid (Tab.botTo vt k X Y (j + 1) = false) := Lib.hid (by rw [HST.out]; rfl)
            clear HST hb j0 j1
            go_wp2
            go_roundw
            case rel => exact ⟨j + 1, by omega, by omega, by go_num, by rw [HS2.out]; exact Lib.hid (hjb.out.set 2 _ rfl), Lib.hid (hac.out.setLow (Nat.lt_succ_self _) _), Lib.hid (hbl.out.setCell (p := ⟨w4.heap.size, 2, none⟩) (Nat.le_refl _) _)⟩
            case measure => simp [intOf]; omega
          | true =>
            rw [hb] at hjb HST
            obtain ⟨j0, j1, j2, jf⟩ := hjb.out.cells
            have hvb := (hbl.out.block w.heap.size (by have := HSZ.out; omega)).trans HV4.out
            have v0 := cell_of_row _ _ 0 _ _ _ hvb
            have v1 := cell_of_row _ _ 1 _ _ _ hvb
            have v2 := cell_of_row _ _ 2 _ _ _ hvb
            have v3 := cell_of_row _ _ 3 _ _ _ hvb
            simp at v0 v1 v2 v3
            clear hb j0 j1 hvb
            go_wp2_with fail
            have hov := HO.out (j : Int) X Y wr (by omega) (HBW4.out.trans (hbl.out.mono HBW4.out.size))
            unfold vv at hov
            refine hov.mono ?_
            clear hov
            rintro e w9 ⟨a9, n9, c9, rfl, h9, hz9, hb9⟩
            have HJ9 := Lib.hid (hjb.out.below hb9 hjb.out.lt)
            have HA9 := Lib.hid (hac.out.below hb9)
            have HB9 := Lib.hid (hbl.out.trans (hb9.mono hbl.out.size))
            have h9l := h9.1
            clear h9 hz9 hb9 hjb hac hbl v0 v1 v2 v3 j2 jf
            obtain ⟨k0, k1, k2, kf⟩ := HJ9.out.cells
            clear k0 k1
            by_cases hn9 : n9 = 0
            · have HS2 : Hid (Tab.botTo vt k X Y (j + 1) = true) := Lib.hid (by rw [HST.out, List.eq_nil_of_length_eq_zero (h9l.trans hn9)]; rfl)
              have t9 : ((n9 : Int) == 0) = true := by simp; omega
              clear HST h9l hn9
              go_wp2
              go_roundw
              case rel => exact ⟨j + 1, by omega, by omega, by go_num, by rw [HS2.out]; exact Lib.hid (HJ9.out.set 2 _ rfl), Lib.hid (HA9.out.setLow (Nat.lt_succ_self _) _), Lib.hid (HB9.out.setCell (p := ⟨w4.heap.size, 2, none⟩) (Nat.le_refl _) _)⟩
              case measure => simp [intOf]; omega
            · have HS2 : Hid (Tab.botTo vt k X Y (j + 1) = false) := Lib.hid (by
                rw [HST.out]
                cases e : Tab.over (j : Int) X Y vt with
                | nil => rw [e] at h9l; simp at h9l; omega
                | cons _ _ => rfl)
              have t9 : ((n9 : Int) == 0) = false := by simp; omega
              clear HST h9l hn9
              go_wp2
              go_roundw
              case rel => exact ⟨j + 1, by omega, by omega, by go_num, by rw [HS2.out]; exact Lib.hid (HJ9.out.set 2 _ rfl), Lib.hid (HA9.out.setLow (Nat.lt_succ_self _) _), Lib.hid (HB9.out.setCell (p := ⟨w4.heap.size, 2, none⟩) (Nat.le_refl _) _)⟩
              case measure => simp [intOf]; omega
        · obtain rfl : j = 7 := by omega
          obtain ⟨j0, j1, j2, jf⟩ := hjb.out.cells
          have hr := hjb.out
          have HR6 : Hid (JBox wr wb.heap.size 0 none 0 0 false) := Lib.hid (HJ4.out.below hbl.out HSZ.out.2)
          obtain ⟨r0, r1, r2, rf⟩ := HR6.out.cells
          have t6 : decide (((7 : Nat) : Int) ≤ 6) = false := by decide
          have hne : w4.heap.size ≠ wb.heap.size := by have := HSZ.out; omega
          have hs0 := (HR6.out.set 0 (.int .i64 (k : Int)) rfl)
          have hs1 := (hs0.set 1 (.slice ai N ci) rfl)
          have hs2 := (hs1.set 2 (.bool (Tab.botTo vt k X Y 7)) rfl)
          obtain ⟨q0, q1, q2, qf⟩ := hs2.cells
          have HQ := Lib.hid (And.intro q0 (And.intro q1 q2))
          have HNEW : Hid (AccZ (((wr.setCell ⟨wb.heap.size, 0, none⟩ (.int .i64 (k : Int))).setCell ⟨wb.heap.size, 1, none⟩ (.slice ai N ci)).setCell ⟨wb.heap.size, 2, none⟩ (.bool (Tab.botTo vt k X Y 7))) w.heap.size ai N ci (ts.map Tab.file)) :=
            Lib.hid ((((hac.out.setLow (by have := HSZ.out; omega) _).setLow (by have := HSZ.out; omega) _).setLow (by have := HSZ.out; omega) _).mono (by have := HSZ.out; omega))
          have HBE : Hid (Below w.heap.size w (((wr.setCell ⟨wb.heap.size, 0, none⟩ (.int .i64 (k : Int))).setCell ⟨wb.heap.size, 1, none⟩ (.slice ai N ci)).setCell ⟨wb.heap.size, 2, none⟩ (.bool (Tab.botTo vt k X Y 7)))) :=
            Lib.hid ((((HBW4.out.trans (hbl.out.mono HBW4.out.size)).setCell (p := ⟨wb.heap.size, 0, none⟩) (by show w.heap.size ≤ wb.heap.size; have := HSZ.out; omega) _).setCell (p := ⟨wb.heap.size, 1, none⟩) (by show w.heap.size ≤ wb.heap.size; have := HSZ.out; omega) _).setCell (p := ⟨wb.heap.size, 2, none⟩) (by show w.heap.size ≤ wb.heap.size; have := HSZ.out; omega) _)
          clear hs0 hs1 hs2 q0 q1 q2 qf hr
          obtain ⟨B, hB⟩ : ∃ B, B = Tab.botTo vt k X Y 7 := ⟨_, rfl⟩
          rw [← hB] at HQ HNEW HBE j2 hjb
          have HBB2 := Lib.hid hB
          clear hB hjb hac hbl
          go_wp2
          obtain ⟨q0, q1, q2⟩ := HQ.out
          refine bodyPost_ret (v := .agg #[.int .i64 k, .slice ai N ci, .bool B]) (by simp [results, Try.results30, go_sem, q0, q1, q2]) rfl ⟨ai, N, ci, ?_, ?_, HBE.out⟩
          · rw [HBB2.out, HXY.out.1, HXY.out.2, HTS.out]
          · rw [← HTS.out]; exact HNEW.out
end Go.Proofs.Ytfcfipoldkjloaa
