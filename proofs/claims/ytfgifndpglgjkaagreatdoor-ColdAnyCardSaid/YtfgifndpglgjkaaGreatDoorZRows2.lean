/- Rows of slices that a call owns and appends to; what they read. -/
import Derived.Test.YtfgifndpglgjkaaGreatDoorZGfA
import Derived.Test.YtfgifndpglgjkaaGreatDoorZBase
import Derived.BigQuiet
import Derived.Deep.QuietTactic
import Derived.StillTailTactics
import Derived.Lib.AppendZerosOnto
import Derived.Test.YtfgifndpglgjkaaGreatDoorRows
import Derived.ProofKit
import Derived.OpenShut
import Derived.ShutString
import Derived.JoinedCond
import Derived.SizedLaws
import Derived.Deep.CondSized
import Derived.Deep.Slices
import Derived.Deep.OwnRows
set_option linter.unusedVariables false
set_option linter.unusedSimpArgs false
section
set_option linter.unusedVariables false
set_option linter.unusedSimpArgs false
namespace Go.Proofs.YtfgifndpglgjkaaGreatDoor
open Go.RowKit

theorem infoSs : (Tryz.prog.info? 25).map (fun i => (i.zero, i.size, i.bytes)) = some (some (.slice none 0 0), 1, 24) := by kernel_rfl
/-- A row of slices of the call's own. -/
def OwnV (w : World) (B : Nat) (a : Option Addr) (n c : Nat) (cs : List Value) : Prop := w.ownsRow B 25 1 (.slice a n c) n cs
theorem OwnV.nil (w : World) (B : Nat) : OwnV w B none 0 0 [] := World.ownsRow_nil w B _ _
theorem OwnV.below {w w' : World} {B n c : Nat} {a : Option Addr} {cs : List Value} (h : OwnV w B a n c cs) (hb : Below w.heap.size w w') : OwnV w' B a n c cs := own_below h hb
theorem OwnV.len {w : World} {B n c : Nat} {a : Option Addr} {cs : List Value} (h : OwnV w B a n c cs) : cs.length = n ∧ n ≤ c ∧ c ≤ maxLen := ⟨by simpa using h.1, (own_cap h).2⟩
theorem OwnV.new {w : World} {B n c : Nat} {a : Option Addr} {cs : List Value} (h : OwnV w B a n c cs) : ∀ z, a = some z → B ≤ z.block ∧ z.block < w.heap.size := by
  intro z hz
  subst hz
  exact World.ownsRow.lt h z.block rfl

section
variable {w : World} {ops : Array Oper} {rest : List Oper} {o : Oper} {a : Act} {Q : Exit → Act → World → Prop}
/-- append of one slice to such a row. -/
theorem app_row (hgd : Region.wanted o (yielded ops a.tmps) = true) (s x : Operand) (ho : o.op = .call { callee := .builtin .append, args := #[s, x], argTypes := #[53, 53] })
    (B : Nat) {aq : Option Addr} {n c : Nat} {cs : List Value} (hs : a.eval s = .slice aq n c) (hown : OwnV w B aq n c cs)
    {k : Nat} {v : Value} (hx : a.eval x = .slice (some ⟨k, 0, none⟩) 1 1) (hcell : w.cell? ⟨k, 0, none⟩ = some v) (hv : v.oneCell' = true) (hb : n ≤ 1000000000000) (hB : B ≤ w.heap.size)
    (h : ∀ a' c' w', OwnV w' B a' (n + 1) c' (cs ++ [v]) → Below B w w' → Evol w aq w' a' → wpList Tryz.prog ops Q rest (a.put o.dst (.slice a' (n + 1) c')) w') : wpList Tryz.prog ops Q (o :: rest) a w := by
  obtain ⟨i, hi, h0, h1, h2⟩ := info_parts infoSs
  have hr : Row w (some ⟨k, 0, none⟩) [v] := by
    intro j u hj
    cases j with
    | zero => simp at hj; subst hj; exact ⟨k, 0, rfl, hcell⟩
    | succ j => simp at hj
  refine wpList_app_own hgd s x 53 ho B 25 i (.slice none 0 0) 1 24 Tryz.underlying53 hi h0 h1 h2 rfl (by decide) aq n c cs hs hown (some ⟨k, 0, none⟩) 1 1 [v] hx hr (by simp) (by intro u hu; simp at hu; subst hu; exact hv) (by omega) (by simp only [maxLen]; omega) hB ?_
  intro a' c' w' g1 g2
  exact h a' c' w' g1 (g2.below hB (fun x hx => by subst hx; exact (World.ownsRow.lt hown x.block rfl).1)) g2
end

/-- A list of slices that is gathered: the row is the call's own; the elements lie elsewhere. -/
structure Acc (w : World) (B : Nat) (a : Option Addr) (n c : Nat) (ls : List (List UInt8)) : Prop where
  len : ls.length = n
  row : ∃ cs, OwnV w B a n c cs ∧ ∀ i, i < n → ∃ ai ni ci, cs[i]? = some (.slice ai ni ci) ∧ Bs w ai ni ci (nth ls i) ∧ (0 < ni → ∀ x y, ai = some x → a = some y → x.block ≠ y.block)
theorem Acc.nil (w : World) (B : Nat) : Acc w B none 0 0 [] := ⟨rfl, [], OwnV.nil w B, fun i hi => by omega⟩
theorem Acc.below {w w' : World} {B n c : Nat} {a : Option Addr} {ls : List (List UInt8)} (h : Acc w B a n c ls) (hb : Below w.heap.size w w') : Acc w' B a n c ls := by
  obtain ⟨cs, h1, h2⟩ := h.row
  exact ⟨h.len, cs, h1.below hb, fun i hi => by
    obtain ⟨ai, ni, ci, g1, g2, g3⟩ := h2 i hi
    exact ⟨ai, ni, ci, g1, g2.below hb, g3⟩⟩
theorem Acc.cap {w : World} {B n c : Nat} {a : Option Addr} {ls : List (List UInt8)} (h : Acc w B a n c ls) : n ≤ c ∧ c ≤ maxLen := by
  obtain ⟨cs, h1, _⟩ := h.row
  exact h1.len.2
theorem Acc.new {w : World} {B n c : Nat} {a : Option Addr} {ls : List (List UInt8)} (h : Acc w B a n c ls) : ∀ z, a = some z → B ≤ z.block ∧ z.block < w.heap.size := by
  obtain ⟨cs, h1, _⟩ := h.row
  exact h1.new
theorem Acc.bss {w : World} {B n c : Nat} {a : Option Addr} {ls : List (List UInt8)} (h : Acc w B a n c ls) : Bss w a n c ls := by
  obtain ⟨cs, h1, h2⟩ := h.row
  refine ⟨h.len, h1.len.2.1, h1.len.2.2, fun i hi => ?_⟩
  obtain ⟨ai, ni, ci, g1, g2, _⟩ := h2 i hi
  obtain ⟨b, off, e1, e2⟩ := Row.of_own h1 i _ g1
  exact ⟨b, off, ai, ni, ci, e1, e2, g2⟩
/-- Behind the append. -/
theorem Acc.snoc {w w' : World} {B n c c' : Nat} {a a' : Option Addr} {ls : List (List UInt8)} {cs : List Value} {ae : Option Addr} {ne ce : Nat} {l : List UInt8}
    (hl : ls.length = n) (h1 : OwnV w B a n c cs) (h2 : ∀ i, i < n → ∃ ai ni ci, cs[i]? = some (.slice ai ni ci) ∧ Bs w ai ni ci (nth ls i) ∧ (0 < ni → ∀ x y, ai = some x → a = some y → x.block ≠ y.block))
    (he : Bs w ae ne ce l) (hne : 0 < ne → ∀ x y, ae = some x → a = some y → x.block ≠ y.block)
    (h : OwnV w' B a' (n + 1) c' (cs ++ [.slice ae ne ce])) (hev : Evol w a w' a') : Acc w' B a' (n + 1) c' (ls ++ [l]) := by
  have step : ∀ {ai : Option Addr} {ni ci : Nat} {m : List UInt8}, Bs w ai ni ci m → (0 < ni → ∀ x y, ai = some x → a = some y → x.block ≠ y.block) → Bs w' ai ni ci m ∧ (0 < ni → ∀ x y, ai = some x → a' = some y → x.block ≠ y.block) := by
    intro ai ni ci m g2 g3
    refine ⟨g2.evol hev g3, fun h0 x y hx hy e => ?_⟩
    have hold := g2.old h0 x hx
    rcases hev.2 y hy with k1 | k1
    · cases a with
      | none => cases k1
      | some z =>
        have k2 : z.block = y.block := by simpa using k1
        exact g3 h0 x z hx rfl (by rw [e, k2])
    · omega
  have hcl := h1.len.1
  refine ⟨by simp [hl], cs ++ [.slice ae ne ce], h, fun i hi => ?_⟩
  by_cases e : i = n
  · subst e
    obtain ⟨k1, k2⟩ := step he hne
    refine ⟨ae, ne, ce, by rw [← hcl]; simp, ?_, k2⟩
    rw [nth_eq _ (by simp; omega)]
    simpa [hl] using k1
  · obtain ⟨ai, ni, ci, g1, g2, g3⟩ := h2 i (by omega)
    obtain ⟨k1, k2⟩ := step g2 g3
    refine ⟨ai, ni, ci, by rw [List.getElem?_append_left (by omega)]; exact g1, ?_, k2⟩
    rw [nth_append_left _ _ (by omega)]
    exact k1
section
variable {w : World} {ops : Array Oper} {rest : List Oper} {o : Oper} {a : Act} {Q : Exit → Act → World → Prop}
theorem app_acc (hgd : Region.wanted o (yielded ops a.tmps) = true) (s x : Operand) (ho : o.op = .call { callee := .builtin .append, args := #[s, x], argTypes := #[53, 53] })
    (B : Nat) {aq : Option Addr} {n c : Nat} {ls : List (List UInt8)} (hs : a.eval s = .slice aq n c) (hacc : Acc w B aq n c ls)
    {k : Nat} {ae : Option Addr} {ne ce : Nat} {l : List UInt8} (hx : a.eval x = .slice (some ⟨k, 0, none⟩) 1 1) (hcell : w.cell? ⟨k, 0, none⟩ = some (.slice ae ne ce)) (he : Bs w ae ne ce l)
    (hne : 0 < ne → ∀ x y, ae = some x → aq = some y → x.block ≠ y.block) (hb : n ≤ 1000000000000) (hB : B ≤ w.heap.size)
    (h : ∀ a' c' w', Acc w' B a' (n + 1) c' (ls ++ [l]) → Below B w w' → wpList Tryz.prog ops Q rest (a.put o.dst (.slice a' (n + 1) c')) w') : wpList Tryz.prog ops Q (o :: rest) a w := by
  obtain ⟨cs, h1, h2⟩ := hacc.row
  refine app_row hgd s x ho B hs h1 hx hcell rfl hb hB fun a' c' w' g1 g2 g3 => ?_
  exact h a' c' w' (Acc.snoc hacc.len h1 h2 he hne g1 g3) g2
end
end Go.Proofs.YtfgifndpglgjkaaGreatDoor
end

section
set_option linter.unusedVariables false
set_option linter.unusedSimpArgs false
namespace Go.Proofs.YtfgifndpglgjkaaGreatDoor
open Go.RowKit

/-- Worlds in which all that there was is as it was. -/
structure BW (w0 : World) where
  w : World
  b : Below w0.heap.size w0 w
instance (w0 : World) : Nonempty (BW w0) := ⟨⟨w0, Below.refl _ _⟩⟩
instance (w0 : World) : Inhabited (BW w0) := ⟨⟨w0, Below.refl _ _⟩⟩
theorem BW.cell {w0 : World} {a : Addr} {v : Value} (h : w0.cell? a = some v) (W : BW w0) : W.w.cell? a = some v := cell_later W.b h
theorem BW.of {w0 w' : World} (h : ∃ W : BW w0, w' = W.w) : Below w0.heap.size w0 w' := by obtain ⟨W, rfl⟩ := h; exact W.b
section
variable {P : Program}
theorem wp_region_class {w0 w : World} {id : Nat} {Q : Exit → Act → World → Prop} {a : Act} {l : List Oper} (hm : P.follows .mixedOrders = true) (hB : Region.lexB .any l.toArray = true) (h0 : Below w0.heap.size w0 w)
    (h : wpQuiet P l.toArray (fun w' => ∃ W : BW w0, w' = W.w) (fun a' => ∀ w', (∃ W : BW w0, w' = W.w) → Q .normal a' w') l a) : (Code.region id l.toArray true).wp P Q a w :=
  wp_region_quiet (C := fun w' => ∃ W : BW w0, w' = W.w) hm hB ⟨⟨w.drew, h0.drew⟩, rfl⟩ (by simpa using h)
theorem calls_class {w0 : World} {f : FuncId} {args : Array Value} {W : BW w0} {v : Value} (h : Calls P f args W.w fun e w' => e = .returned v ∧ Below W.w.heap.size W.w w') :
    Calls P f args W.w fun e w'' => e = .returned v ∧ ∃ W' : BW w0, w'' = W'.w :=
  h.mono fun _ w' ⟨he, hb⟩ => ⟨he, ⟨w', W.b.trans (hb.mono W.b.size)⟩, rfl⟩
theorem calls_class_q {w0 : World} {f : FuncId} {args : Array Value} {W : BW w0} {v : Value} (h : Calls P f args W.w fun e w' => e = .returned v ∧ ∃ q, w' = W.w.drewN q) :
    Calls P f args W.w fun e w'' => e = .returned v ∧ ∃ W' : BW w0, w'' = W'.w :=
  calls_class (h.mono fun _ _ ⟨he, q, hq⟩ => ⟨he, hq ▸ below_drewN (Below.refl _ _) q⟩)
theorem calls_class_s {w0 : World} {f : FuncId} {args : Array Value} {W : BW w0} {v : Value} (h : Calls P f args W.w fun e w' => e = .returned v ∧ W.w = w') :
    Calls P f args W.w fun e w'' => e = .returned v ∧ ∃ W' : BW w0, w'' = W'.w :=
  calls_class (h.mono fun _ _ ⟨he, hq⟩ => ⟨he, hq ▸ Below.refl _ _⟩)
/-- A piece of code whose ways all end alike. -/
theorem code_one {c : Code} {Q : Exit → Act → World → Prop} {a w} (A : Act) (W : World) (h : c.wp P (fun e a w => e = .normal ∧ a = A ∧ w = W) a w) (k : Q .normal A W) : c.wp P Q a w :=
  Code.wp_mono (fun e a w ⟨h1, h2, h3⟩ => by subst h1; subst h2; subst h3; exact k) h
end
end Go.Proofs.YtfgifndpglgjkaaGreatDoor
end

section
set_option linter.unusedVariables false
set_option linter.unusedSimpArgs false
namespace Go.Proofs.YtfgifndpglgjkaaGreatDoor
open Go.RowKit

/-- A slice of bytes of the call's own is told. -/
def RetO (w : World) (l : List UInt8) (e : Ending) (w' : World) : Prop := ∃ a n c, e = .returned (.slice a n c) ∧ Own w' w.heap.size a n c l ∧ Below w.heap.size w w'
def GrowP (n : Nat) (w : World) (e : Ending) (w' : World) : Prop := ∃ a c, e = .returned (.slice a 0 c) ∧ Own w' w.heap.size a 0 c [] ∧ Below w.heap.size w w'
theorem grow_own (w : World) (n : Nat) (hn : n ≤ 1000000000) (cs : Array Value) (hc : cs.size = grownCap w n 0 5) : GrowP n w (.returned (.slice (some ⟨w.heap.size, 0, none⟩) 0 (grownCap w n 0 5))) (w.drew.alloc (.cells cs 5)) := by
  refine ⟨_, _, rfl, ⟨rfl, .inr ⟨w.heap.size, _, cs, rfl, Nat.le_refl _, heap_alloc_new w.drew _, Nat.zero_le _, grownCap_le_maxLen w n 0 _ (by simp only [maxLen]; omega), by simp [hc], by simp [vs]⟩⟩, (Below.refl _ _).drew.alloc (Nat.le_refl _) _⟩
set_option maxHeartbeats 1000000 in
theorem grow0_any (n : Nat) (w : World) (hn : n ≤ 1000000000) :
    Calls Tryz.prog 111 #[.slice none 0 0, .int .i64 n] w (GrowP n w) := by
  have t1 : decide ((n : Int) < 0) = false := decide_eq_false (by omega)
  by_cases h0 : n = 0
  · subst h0
    have HP : Hid (GrowP 0 w (.returned (.slice none 0 0)) w) := Lib.hid ⟨none, 0, rfl, World.ownsRow_nil w _ _ _, Below.refl _ _⟩
    go_enter Tryz.func111, Tryz.ntmps111
    go_wp2
    go_ret
    exact HP.out
  · obtain ⟨i, hi, hz, h1, h2⟩ := info_parts info8
    have hg := grownCap_ge w n 0 5
    have hcm := grownCap_le_maxLen w n 0 5 (by simp only [maxLen]; omega)
    have hap : ∀ ty, (Builtin.append_ #[25, 3] ty #[.slice none 0 0, .int .i64 (n : Int)]).run Tryz.prog w =
        .ok (.slice (some ⟨w.heap.size, 0, none⟩) n (grownCap w n 0 5)) (w.drew.alloc (.cells (#[] ++ Builtin.zeroCells (Value.int .u8 0).cells n ++ Builtin.zeroCells (Value.int .u8 0).cells (grownCap w n 0 5 - n)) 5)) := by
      intro ty
      have := Lib.run_append_grow_zeros (P := Tryz.prog) w 25 3 ty 5 i (.int .u8 0) .i64 .i64 Tryz.underlying25 Tryz.underlying3 hi hz none 0 0 [] (run_firstCells_none _ _ _ _ _) n (by omega) (by omega) (by omega) (by omega) (by rw [h2]; omega)
        (by rw [Nat.zero_add]; exact growslice_fits (by omega) (by rw [h2]; omega))
      simpa using this
    have HP := Lib.hid (grow_own w n hn (#[] ++ Builtin.zeroCells (Value.int .u8 0).cells n ++ Builtin.zeroCells (Value.int .u8 0).cells (grownCap w n 0 5 - n)) (by simp [size_zeroCells, Value.cells]; omega))
    simp only [maxLen] at hcm
    generalize (#[] ++ Builtin.zeroCells (Value.int .u8 0).cells n ++ Builtin.zeroCells (Value.int .u8 0).cells (grownCap w n 0 5 - n)) = cs at *
    generalize grownCap w n 0 5 = C at *
    have hs := fun W => run_slice_h (P := Tryz.prog) (t := 25) Tryz.underlying25 hi h1 none 0 0 (show (0 : Int) = ((0 : Nat) : Int) from rfl) (Nat.le_refl _) W
    have hs2 := fun W => run_slice_h (P := Tryz.prog) (t := 25) Tryz.underlying25 hi h1 (some ⟨w.heap.size, 0, none⟩) n C (show (0 : Int) = ((0 : Nat) : Int) from rfl) (Nat.zero_le _) W
    have t2 : decide ((0 : Int) < (n : Int)) = true := decide_eq_true (by omega)
    have hC : C ≤ 9223372036854775807 := by omega
    have HAP := Lib.hid hap
    have t3 : decide (0 < n) = true := decide_eq_true (by omega)
    clear h0 hg hcm hi hz h1 h2 hap
    go_enter Tryz.func111, Tryz.ntmps111
    go_wp2_with (at_builtin; refine Lib.wpList_append_run _ rfl _ _ _ _ rfl _ _ rfl rfl _ _ (HAP.out _) ?_)
    go_ret
    exact HP.out
set_option maxHeartbeats 1000000 in
theorem concat_any (a : Option Addr) (n c : Nat) (ls : List (List UInt8)) (w : World) (h : Bss w a n c ls) (hf : tot ls ≤ 1000000000) :
    Calls Tryz.prog 85 #[.slice a n c] w (RetO w ls.flatten) := by
  have hle := h.le.1
  have HL := Lib.hid h.1
  have HBs := Lib.hid h
  clear h
  go_enter Tryz.func85, Tryz.ntmps85
  go_wp2_with fail
  go_loop [3, 11] (fun s i => ∃ k : Nat, k ≤ n ∧ i = .int .i64 k ∧ s = .int .i64 (tot (ls.take k) : Nat)) (fun _ i => n - (intOf i).toNat)
  case atStart => exact ⟨0, by omega, rfl, by simp [tot]⟩
  case round =>
    obtain ⟨k, hk, rfl, rfl⟩ := hrel
    by_cases hlt : k < n
    · obtain ⟨b, off, ai, ni, ci, rfl, hc, hr⟩ := HBs.out.get hlt
      have ht := tot_snoc ls (i := k) (by rw [HL.out]; exact hlt)
      have h1 := tot_le ls (k + 1)
      rw [hr.1] at ht
      have HT := Lib.hid ht
      have hb : tot (ls.take k) + ni ≤ 1000000000 := by omega
      have t1 : decide (((tot (ls.take k) : Nat) : Int) + (ni : Int) < 0) = false := decide_eq_false (by omega)
      clear ht h1 hr hf
      generalize tot (ls.take k) = s at *
      go_wp2
      go_round
      case rel => exact ⟨k + 1, by omega, by go_num, by rw [HT.out]; go_num⟩
      case measure => simp [intOf]; omega
    · obtain rfl : k = n := by omega
      have e1 : ls.take k = ls := by rw [← HL.out, List.take_length]
      rw [e1]
      clear e1
      go_wp2_with fail
      refine (grow0_any (tot ls) w hf).mono ?_
      rintro e w1 ⟨a1, c1, rfl, ho, hb⟩
      have HO := Lib.hid ho
      have HB := Lib.hid hb
      clear ho hb
      go_wp2_with fail
      go_loopw [6, 27] (fun v i wr => ∃ (j m cv : Nat) (av : Option Addr), j ≤ k ∧ i = .int .i64 j ∧ v = .slice av m cv ∧ Own wr w.heap.size av m cv (ls.take j).flatten ∧ Below w.heap.size w wr) (fun _ i _ => k - (intOf i).toNat)
      case atStart => exact ⟨0, 0, c1, a1, by omega, rfl, rfl, HO.out, HB.out⟩
      case round =>
        obtain ⟨j, m, cv, av, hj, rfl, rfl, ho2, hb2⟩ := hrel
        by_cases hlt2 : j < k
        · obtain ⟨b, off, ai, ni, ci, rfl, hc, hr⟩ := (HBs.out.below hb2).get hlt2
          have hml := ho2.bs.1
          have ht := tot_snoc ls (i := j) (by rw [HL.out]; exact hlt2)
          have h1 := tot_le ls (j + 1)
          rw [hr.1] at ht
          have hmt : m = tot (ls.take j) := hml.symm
          have hfl : (ls.take (j + 1)).flatten = (ls.take j).flatten ++ nth ls j := by rw [take_snoc ls (by rw [HL.out]; exact hlt2)]; simp
          have HF := Lib.hid hfl
          have HO2 := Lib.hid ho2
          have HB2 := Lib.hid hb2
          have HR := Lib.hid hr
          have hmb : m + ni ≤ 1000000000 := by omega
          clear hml ht h1 hmt hfl ho2 hb2 hr hf
          go_wp2_with (at_builtin; refine app_own rfl _ _ rfl w.heap.size rfl HO2.out rfl HR.out (by omega) HB2.out.size ?_; intro a5 c5 w5 h5 hb5 _)
          have hb6 := HB2.out.trans hb5
          have H5 := Lib.hid h5
          clear h5 hb5
          go_wp2
          go_roundw
          case rel => exact ⟨j + 1, m + ni, c5, a5, by omega, by go_num, rfl, by rw [HF.out]; exact H5.out, hb6⟩
          case measure => simp [intOf]; omega
        · obtain rfl : j = k := by omega
          have e1 : ls.take j = ls := by rw [← HL.out, List.take_length]
          rw [e1] at ho2
          have HP : Hid (RetO w ls.flatten (.returned (.slice av m cv)) wr) := Lib.hid ⟨_, _, _, rfl, ho2, hb2⟩
          clear ho2 hb2 e1
          go_wp2
          go_ret
          exact HP.out
end Go.Proofs.YtfgifndpglgjkaaGreatDoor
end

section
set_option linter.unusedVariables false
set_option linter.unusedSimpArgs false
namespace Go.Proofs.YtfgifndpglgjkaaGreatDoor
open Go.ChangeShapes Go.WideShapes Go.ChangeAt Go.RowKit Go.Deep

theorem ownKnob_ : ownKnob Tryz.prog.godebug = none := by kernel_rfl
theorem laidOut_ : laidOutB Tryz.prog = true := by kernel_rfl
theorem cells8_ : Tryz.prog.cellsOf 5 = 1 := by kernel_rfl
theorem bytes8_ : Tryz.prog.bytesOf 5 = 1 := by kernel_rfl

/-- What a datum's slice says of its size. -/
def SizeOf {H : Type} (d : DataW H) (n : Nat) : Prop := (d = .nil ∧ n = 0) ∨ ∃ elems spare, d = .slice elems spare ∧ elems.length = n

theorem byte_of {z : Int} (h : (Lit.int .u8 z).wf = true) : z = n8 (UInt8.ofNat z.toNat) := by
  simp [Lit.wf, IntKind.min, IntKind.max, IntKind.signed, IntKind.bits] at h
  unfold n8
  rw [UInt8.toNat_ofNat']
  omega

theorem open_bytes_trod {H : Type} {enc : TypeId × Value → H} {W : World} {fuel : Nat} {v : Value} {d : DataW H} {p : List MemPlace}
    (h : DataW.trod enc Tryz.prog W 0 (fun _ => true) true fuel 25 [v] = some (d, p)) :
    ∃ a n c l, v = .slice a n c ∧ Bs W a n c l ∧ SizeOf d n := by
  rcases open_ints Tryz.underlying25 Tryz.underlying5 cells8_ h with ⟨hcs, hd⟩ | ⟨x, len, cap, zs, hcs, _, hl, hm, hz, hd, hcell, hwz⟩
  · simp at hcs hd
    obtain ⟨rfl, rfl⟩ := hd
    exact ⟨none, 0, 0, [], hcs, Bs.nil W, .inl ⟨rfl, rfl⟩⟩
  · simp at hcs
    simp only [Prod.mk.injEq] at hd
    simp only [if_true] at hz
    refine ⟨some x, len, cap, (zs.take len).map (fun z => UInt8.ofNat z.toNat), hcs, ⟨by simp; omega, hl, hm, ?_⟩, .inr ⟨_, _, hd.1, by simp [lits]; omega⟩⟩
    intro j v hj
    have hjl : j < len := by
      rcases Nat.lt_or_ge j len with h' | h'
      · exact h'
      · rw [List.getElem?_eq_none (by simp [vs]; omega)] at hj; cases hj
    have hjz : j < zs.length := by omega
    have h0 := hcell 0 (by omega)
    rw [Addr.add_zero'] at h0
    have hs := World.cell?_spot h0
    obtain ⟨b, off, spot⟩ := x
    simp at hs
    subst hs
    refine ⟨b, off, rfl, ?_⟩
    have hc := hcell j hjz
    rw [Addr.add_lit] at hc
    rw [hc]
    simp only [vs, List.map_map, List.getElem?_map, List.getElem?_take, hjl, if_true, List.getElem?_eq_getElem hjz, Option.map_some, Option.some.injEq] at hj
    rw [← hj, List.getD_eq_getElem?_getD, List.getElem?_eq_getElem hjz]
    simp only [Option.getD_some, Function.comp]
    rw [← byte_of (hwz _ (List.getElem_mem hjz))]

theorem open_bytes {H : Type} {enc : TypeId × Value → H} {W : World} {d : DataW H} {p : List MemPlace} {a : Option Addr} {n c : Nat}
    (h : DataW.Trod enc Tryz.prog W 0 (fun _ => true) true 25 (.slice a n c) d p) : ∃ l, Bs W a n c l ∧ SizeOf d n := by
  obtain ⟨fuel, hf⟩ := h
  simp [Value.cells] at hf
  obtain ⟨a', n', c', l, h1, h2, h3⟩ := open_bytes_trod hf
  cases h1
  exact ⟨l, h2, h3⟩

theorem choose_list {β : Type} [Inhabited β] (n : Nat) (R : Nat → β → Prop) (h : ∀ i, i < n → ∃ x, R i x) : ∃ l : List β, l.length = n ∧ ∀ i, i < n → R i (nth l i) := by
  induction n with
  | zero => exact ⟨[], rfl, fun i hi => by omega⟩
  | succ n ih =>
    obtain ⟨l, hl, hR⟩ := ih (fun i hi => h i (by omega))
    obtain ⟨x, hx⟩ := h n (by omega)
    refine ⟨l ++ [x], by simp [hl], fun i hi => ?_⟩
    by_cases e : i = n
    · subst e
      rw [nth_eq _ (by simp; omega)]
      simpa [hl] using hx
    · rw [nth_append_left _ _ (by omega)]
      exact hR i (by omega)

theorem u64_of_wf {z : Int} (h : (Lit.int .u64 z).wf = true) : ∃ m : Nat, z = (m : Int) ∧ U64 m := by
  simp [Lit.wf, IntKind.min, IntKind.max, IntKind.signed, IntKind.bits] at h
  exact ⟨z.toNat, by omega, ⟨by omega⟩⟩
theorem i64_of_wf {z : Int} (h : (Lit.int .i64 z).wf = true) : -9223372036854775808 ≤ z ∧ z ≤ 9223372036854775807 := by
  simp [Lit.wf, IntKind.min, IntKind.max, IntKind.signed, IntKind.bits] at h
  omega
end Go.Proofs.YtfgifndpglgjkaaGreatDoor
end

section
set_option linter.unusedVariables false
set_option linter.unusedSimpArgs false
namespace Go.Proofs.YtfgifndpglgjkaaGreatDoor
open Go.ChangeShapes Go.WideShapes Go.ChangeAt Go.RowKit Go.Deep

def zv (l : List Int) : List Value := l.map fun z => .int .i64 z
structure I64 (z : Int) : Prop where
  lo : -9223372036854775808 ≤ z
  hi : z ≤ 9223372036854775807
/-- A slice of ints that is read. -/
def Is (w : World) (a : Option Addr) (n c : Nat) (l : List Int) : Prop := l.length = n ∧ n ≤ c ∧ c ≤ maxLen ∧ Row w a (zv l) ∧ ∀ z ∈ l, I64 z
theorem Is.below {w w' : World} {a : Option Addr} {n c : Nat} {l : List Int} (h : Is w a n c l) (hb : Below w.heap.size w w') : Is w' a n c l := ⟨h.1, h.2.1, h.2.2.1, h.2.2.2.1.below hb, h.2.2.2.2⟩
theorem Is.le {w : World} {a : Option Addr} {n c : Nat} {l : List Int} (h : Is w a n c l) : n ≤ 9223372036854775807 ∧ c ≤ 9223372036854775807 := by
  have := h.2.1; have := h.2.2.1; simp only [maxLen] at *; omega
theorem Is.get {w : World} {a : Option Addr} {n c : Nat} {l : List Int} (h : Is w a n c l) {i : Nat} (hi : i < n) :
    ∃ b off, a = some ⟨b, off, none⟩ ∧ w.cell? ⟨b, off + i, none⟩ = some (.int .i64 (nth l i)) := by
  refine h.2.2.2.1 i _ ?_
  have := h.1
  simp [zv, nth_eq l (by omega : i < l.length), (by omega : i < l.length)]
theorem Is.bd {w : World} {a : Option Addr} {n c : Nat} {l : List Int} (h : Is w a n c l) {i : Nat} (hi : i < n) : I64 (nth l i) := by
  rw [nth_eq l (by rw [h.1]; exact hi)]; exact h.2.2.2.2 _ (List.getElem_mem _)
theorem i64_mk {z : Int} (h : (Lit.int .i64 z).wf = true) : I64 z := ⟨(i64_of_wf h).1, (i64_of_wf h).2⟩
theorem cells64_ : Tryz.prog.cellsOf 3 = 1 := by kernel_rfl
theorem open_intlist {H : Type} {enc : TypeId × Value → H} {W : World} {a : Option Addr} {n c : Nat} {d : DataW H} {p : List MemPlace}
    (h : DataW.Trod enc Tryz.prog W 0 (fun _ => true) true 26 (.slice a n c) d p) : ∃ l, Is W a n c l ∧ SizeOf d n := by
  obtain ⟨fuel, hf⟩ := h
  simp [Value.cells] at hf
  rcases open_ints Tryz.underlying26 Tryz.underlying3 cells64_ hf with ⟨hcs, hd⟩ | ⟨x, len, cap, zs, hcs, _, hl, hm, hz, hd, hcell, hwz⟩
  · simp at hcs hd
    obtain ⟨⟨rfl, rfl, rfl⟩, rfl, rfl⟩ := And.intro hcs hd
    exact ⟨[], ⟨rfl, Nat.le_refl _, by simp [maxLen], Row.nil _ _, by simp⟩, .inl ⟨rfl, rfl⟩⟩
  · simp at hcs
    obtain ⟨rfl, rfl, rfl⟩ := hcs
    simp only [Prod.mk.injEq] at hd
    simp only [if_true] at hz
    refine ⟨zs.take n, ⟨by simp; omega, hl, hm, ?_, fun z hzm => i64_mk (hwz z (List.mem_of_mem_take hzm))⟩, .inr ⟨_, _, hd.1, by simp [lits]; omega⟩⟩
    intro j v hj
    have hjl : j < n := by
      rcases Nat.lt_or_ge j n with h' | h'
      · exact h'
      · rw [List.getElem?_eq_none (by simp [zv]; omega)] at hj; cases hj
    have hjz : j < zs.length := by omega
    have h0 := hcell 0 (by omega)
    rw [Addr.add_zero'] at h0
    have hs := World.cell?_spot h0
    obtain ⟨b, off, spot⟩ := x
    simp at hs
    subst hs
    refine ⟨b, off, rfl, ?_⟩
    have hc := hcell j hjz
    rw [Addr.add_lit] at hc
    rw [hc]
    simp only [zv, List.getElem?_map, List.getElem?_take, hjl, if_true, List.getElem?_eq_getElem hjz, Option.map_some, Option.some.injEq] at hj
    rw [← hj, List.getD_eq_getElem?_getD, List.getElem?_eq_getElem hjz]
    rfl
end Go.Proofs.YtfgifndpglgjkaaGreatDoor
end

section
set_option linter.unusedVariables false
set_option linter.unusedSimpArgs false
namespace Go.Proofs.YtfgifndpglgjkaaGreatDoor
open Go.RowKit Go.Deep

/-- Of what there was only blocks of S are changed. -/
structure Onl (w w' : World) (S : Nat → Prop) : Prop where
  os : w'.os = w.os
  tape : w'.tape = w.tape
  output : w'.output = w.output
  size : w.heap.size ≤ w'.heap.size
  block : ∀ k, k < w.heap.size → ¬ S k → w'.heap[k]? = w.heap[k]?
namespace Onl
variable {w w1 w2 : World} {S T : Nat → Prop}
theorem refl (w : World) (S : Nat → Prop) : Onl w w S := ⟨rfl, rfl, rfl, Nat.le_refl _, fun _ _ _ => rfl⟩
theorem trans (h : Onl w w1 S) (k : Onl w1 w2 S) : Onl w w2 S :=
  ⟨k.os.trans h.os, k.tape.trans h.tape, k.output.trans h.output, Nat.le_trans h.size k.size, fun i hi hs => (k.block i (Nat.lt_of_lt_of_le hi h.size) hs).trans (h.block i hi hs)⟩
theorem mono (h : Onl w w1 S) (hs : ∀ k, S k → T k) : Onl w w1 T := ⟨h.os, h.tape, h.output, h.size, fun k hk ht => h.block k hk (fun e => ht (hs k e))⟩
theorem of_below (h : Below w.heap.size w w1) : Onl w w1 S := ⟨h.os, h.tape, h.output, h.size, fun k hk _ => h.block k hk⟩
theorem drew (h : Onl w w1 S) : Onl w w1.drew S := h.trans (of_below (Below.refl _ _).drew)
theorem drewN (h : Onl w w1 S) (q : Nat) : Onl w (w1.drewN q) S := h.trans (of_below (below_drewN (Below.refl _ _) q))
theorem alloc (h : Onl w w1 S) (o : Obj) : Onl w (w1.alloc o) S := h.trans (of_below ((Below.refl _ _).alloc (Nat.le_refl _) o))
theorem set (h : Onl w w1 S) {a : Addr} (ha : S a.block) (v : Value) : Onl w (w1.setCell a v) S :=
  h.trans ⟨rfl, rfl, rfl, by simp, fun k _ hs => Below.heap_setCell _ _ _ _ (fun e => hs (e ▸ ha))⟩
theorem setNew (h : Onl w w1 S) {a : Addr} (ha : w.heap.size ≤ a.block) (v : Value) : Onl w (w1.setCell a v) S :=
  ⟨h.os, h.tape, h.output, by simpa using h.size, fun k hk hs => (Below.heap_setCell _ _ _ _ (by omega)).trans (h.block k hk hs)⟩
theorem below {B : Nat} (h : Onl w w1 S) (hB : B ≤ w.heap.size) (hs : ∀ k, S k → B ≤ k) : Below B w w1 :=
  ⟨h.os, h.tape, h.output, h.size, fun k hk => h.block k (by omega) (fun e => by have := hs k e; omega)⟩
theorem cell (h : Onl w w1 S) {b o : Nat} {v : Value} (hc : w.cell? ⟨b, o, none⟩ = some v) (hb : ¬ S b) : w1.cell? ⟨b, o, none⟩ = some v := by
  have hlt : b < w.heap.size := by
    by_cases e : b < w.heap.size
    · exact e
    · simp [World.cell?, Array.getElem?_eq_none (by omega : w.heap.size ≤ b)] at hc
  rw [← hc]
  exact World.cell?_of_block (h.block b hlt hb)
end Onl
end Go.Proofs.YtfgifndpglgjkaaGreatDoor
end
