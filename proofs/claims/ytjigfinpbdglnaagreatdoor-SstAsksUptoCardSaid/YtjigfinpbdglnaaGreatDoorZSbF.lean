/- Sorted tables: append to a string's bytes; the reference's spots and bits. -/
import Derived.Test.YtjigfinpbdglnaaGreatDoorZSbA
import Derived.BigQuiet
set_option linter.unusedVariables false
set_option linter.unusedSimpArgs false
section
set_option maxRecDepth 100000
set_option linter.unusedVariables false
set_option linter.unusedSimpArgs false
namespace Go.Proofs.YtjigfinpbdglnaaGreatDoor
open Go.RowKit

/-- The row of a string's bytes. -/
def StrRow (w : World) (g n sc : Nat) (l : List UInt8) : Prop := Bs w (some ⟨g, 0, none⟩) n sc l ∧ ∃ cs : Array Value, w.heap[g]? = some (.cells cs 5 (sc, sc + 1)) ∧ cs.size = sc
theorem str_row (w : World) (s : List UInt8) (hs : s.length ≤ maxLen) : StrRow (strW w s) w.heap.size s.length (strCap w s) s := by
  refine ⟨str_bs w s hs, Lib.bytesCells w 5 (bstr s), ?_, ?_⟩
  · have h := Lib.bytesWorld_at_new w 5 (bstr s)
    have hsz : (Lib.bytesCells w 5 (bstr s)).size = strCap w s := by
      have := grownCap_ge w s.length 0 5
      simp only [Lib.bytesCells, Array.size_append, Array.size_map, Array.size_replicate]
      rw [show (bstr s).data.size = s.length by simp [bstr], bstr_size]
      unfold strCap
      omega
    rw [hsz] at h
    exact h
  · have := grownCap_ge w s.length 0 5
    simp only [Lib.bytesCells, Array.size_append, Array.size_map, Array.size_replicate]
    rw [show (bstr s).data.size = s.length by simp [bstr], bstr_size]
    unfold strCap
    omega
theorem StrRow.below {w w' : World} {g n sc : Nat} {l : List UInt8} (h : StrRow w g n sc l) (k : Below w.heap.size w w') : StrRow w' g n sc l := by
  obtain ⟨h1, cs, h2, h3⟩ := h
  exact ⟨h1.below k, cs, (k.block g (Array.getElem?_eq_some_iff.1 h2).1).trans h2, h3⟩
theorem run_app_str (w : World) (ty g n sc : Nat) (l : List UInt8) (h : StrRow w g n sc l) (b c : Nat) (y : UInt8) (hr : Bs w (some ⟨b, 0, none⟩) 1 c [y]) (hn : n ≤ 1000000000) :
    ∃ a' c' w', (Builtin.append_ #[22, 22] ty #[.slice (some ⟨g, 0, none⟩) n sc, .slice (some ⟨b, 0, none⟩) 1 c]).run Tryz.prog w = .ok (.slice a' (n + 1) c') w' ∧ Bs w' a' (n + 1) c' (l ++ [y]) ∧ Below g w w' := by
  obtain ⟨hb, cs, hg, hsz⟩ := h
  obtain ⟨i, hi, h0, h1, h2⟩ := info_parts info8
  have hln := hb.1
  have hgl := (Array.getElem?_eq_some_iff.1 hg).1
  by_cases hroom : n + 1 ≤ sc
  · have hcell : w.cell? ⟨g, n, none⟩ = some cs[n] := by simp [World.cell?, hg, show n < cs.size by omega]
    have hfro : w.frozen? ⟨g, n, none⟩ = false := by simp [World.frozen?, hg]; omega
    have hy : w.cell? (⟨b, 0, none⟩ : Addr) = some (.int .u8 (n8 y)) := by
      obtain ⟨b', o', e, k⟩ := hr.2.2.2 0 (.int .u8 (n8 y)) rfl
      cases e
      exact k
    have hf := run_firstCells_some (P := Tryz.prog) w i.size 1 ⟨b, 0, none⟩ 1 c [.int .u8 (n8 y)] (by rw [h1]; rfl) (fun j u hj => by
      match j, hj with
      | 0, hj => cases hj; rw [Addr.add_zero']; exact hy
      | j + 1, hj => simp at hj)
    have hst : (storeCells ⟨g, n, none⟩ [.int .u8 (n8 y)] 0).run Tryz.prog w = .ok () (w.setCell ⟨g, n, none⟩ (.int .u8 (n8 y))) := by
      have e0 : (store ((⟨g, n, none⟩ : Addr).add 0) (.int .u8 (n8 y))).run Tryz.prog w = .ok () (w.setCell ⟨g, n, none⟩ (.int .u8 (n8 y))) := by
        rw [Addr.add_zero', run_store Tryz.prog w _ _ _ rfl, hcell]
        simp [hfro]
      simp only [storeCells, Sem.run_bind, e0, Result.andThen_ok]
      rfl
    refine ⟨some ⟨g, 0, none⟩, sc, w.setCell ⟨g, n, none⟩ (.int .u8 (n8 y)), ?_, ?_, ?_⟩
    · rw [h1] at hf
      simp [Builtin.append_, run_underlying Tryz.underlying22, sizeOf, typeInfo, hi, Builtin.lenOf, hroom, h1, hf, Addr.add_lit, hst]
    · refine ⟨by simp [hln], hroom, hb.2.2.1, fun j v hj => ⟨g, 0, rfl, ?_⟩⟩
      rw [Nat.zero_add]
      by_cases e : j = n
      · subst e
        have : v = .int .u8 (n8 y) := by
          unfold vs at hj
          rw [List.map_append, List.getElem?_append_right (by simp; omega)] at hj
          simp [hln] at hj
          exact hj.symm
        subst this
        exact World.cell?_setCell_same' _ _ _ (by rw [hcell]; rfl)
      · rw [World.cell?_setCell_other _ _ _ _ (fun e2 => e (by have := congrArg Addr.off e2; simp at this; omega))]
        have hjl : j < n := by
          have := (List.getElem?_eq_some_iff.1 hj).1
          simp [vs] at this
          omega
        unfold vs at hj
        rw [List.map_append, List.getElem?_append_left (by simp; omega)] at hj
        obtain ⟨b', o', e1, k⟩ := hb.2.2.2 j v hj
        cases e1
        rw [Nat.zero_add] at k
        exact k
    · exact (Below.refl _ _).setCell (p := ⟨g, n, none⟩) (Nat.le_refl _) _
  · obtain rfl : n = sc := by have := hb.2.1; omega
    obtain ⟨a', c', w', e1, e2, e3, e4, e5⟩ := run_append_app (P := Tryz.prog) w g 22 ty 5 i (.int .u8 0) 1 1 Tryz.underlying22 hi h0 h1 h2 rfl (by decide) (some ⟨g, 0, none⟩) n n (vs l) (.inr ⟨_, rfl, hb.2.2.2, by rw [vs_len, hln]; omega, hb.2.2.1⟩) (some ⟨b, 0, none⟩) 1 c (vs [y]) rfl hr.2.2.2 (vs_one [y]) (by omega) (by simp only [maxLen]; omega) (by omega)
    refine ⟨a', c', w', e1, ?_, e4⟩
    have h3 := e3 (by omega)
    rw [← vs_append] at h3
    exact Own.bs (B := g) h3
section
variable {w : World} {ops : Array Oper} {rest : List Oper} {o : Oper} {a : Act} {Q : Exit → Act → World → Prop}
theorem app_str (hgd : Region.wanted o (yielded ops a.tmps) = true) (s x : Operand) (ho : o.op = .call { callee := .builtin .append, args := #[s, x], argTypes := #[22, 22] })
    {g n sc b c : Nat} {l : List UInt8} {y : UInt8} (hs : a.eval s = .slice (some ⟨g, 0, none⟩) n sc) (hrow : StrRow w g n sc l) (hx : a.eval x = .slice (some ⟨b, 0, none⟩) 1 c) (hr : Bs w (some ⟨b, 0, none⟩) 1 c [y]) (hn : n ≤ 1000000000)
    (h : ∀ a' c' w', Bs w' a' (n + 1) c' (l ++ [y]) → Below g w w' → wpList Tryz.prog ops Q rest (a.put o.dst (.slice a' (n + 1) c')) w') : wpList Tryz.prog ops Q (o :: rest) a w :=
  BigFrame.wpList_want hgd fun K hK => by
    obtain ⟨a', c', w', hr', h2, h3⟩ := run_app_str w o.type g n sc l hrow b c y hr hn
    unfold Oper.wp execOp
    simp only [ho, resolve, invoke, builtin, Sem.run_bind, Sem.run_pure, Result.andThen_ok, List.map_toArray, List.map_cons, List.map_nil, hs, hx, hr']
    exact hK _ _ (h a' c' w' h2 h3)
end
theorem arr_stepI {A : Array Value} {k j : Nat} {f : Nat → Nat} {v : Value} (h : ∀ j, j < k → A[j]? = some (.int .i64 (f j : Nat))) (hk : k < A.size) (hv : Value.int .i64 (f k : Nat) = v) (hj : j < k + 1) : (A.setIfInBounds k v)[j]? = some (.int .i64 (f j : Nat)) := by
  rw [Array.getElem?_setIfInBounds]
  split
  · rename_i e; subst e; first | rw [if_pos hk, hv] | rw [hv]
  · exact h j (by omega)
set_option maxHeartbeats 4000000 in
theorem rspots_any (s : List UInt8) (m : Nat) (w : World) (hm : 1 ≤ m) (hmb : m ≤ 1000000000) (hs : s.length ≤ 1000000000) :
    Calls Tryz.prog 37 #[.string (bstr s), .int .i64 m] w fun e w' => e = .returned (.agg #[.int .i64 (Sst.spot s m 0 : Nat), .int .i64 (Sst.spot s m 1 : Nat), .int .i64 (Sst.spot s m 2 : Nat), .int .i64 (Sst.spot s m 3 : Nat)]) ∧ Below w.heap.size w w' := by
  have hA := (Codec.sum s).toNat_lt
  have hB := (Codec.sum (s ++ [1])).toNat_lt
  have HSP : Hid (∀ j, Sst.spot s m j = ((Codec.sum s).toNat + j * (Codec.sum (s ++ [1])).toNat) % m) := Lib.hid (fun j => rfl)
  have HSL : Hid (∀ j, Sst.spot s m j < m) := Lib.hid (fun j => Nat.mod_lt _ (by omega))
  have HNA := Lib.hid (n32_toNat (Codec.sum s))
  have HNB := Lib.hid (n32_toNat (Codec.sum (s ++ [1])))
  go_enter Tryz.func37, Tryz.ntmps37
  go_upto_region 1 with fail
  have hr0 := heap_alloc_new w (.cells #[.int .i64 0, .int .i64 0, .int .i64 0, .int .i64 0] 84)
  obtain ⟨w0, hw0⟩ : ∃ w0, w.alloc (.cells #[.int .i64 0, .int .i64 0, .int .i64 0, .int .i64 0] 84) = w0 := ⟨_, rfl⟩
  have hb0 : Below w.heap.size w w0 := by rw [← hw0]; exact below_alloc1 _ _
  rw [hw0] at hr0 ⊢
  have HR0 := Lib.hid hr0
  have HB0 := Lib.hid hb0
  clear hr0 hb0 hw0
  go_wp2_with fail
  have hS : Bs (strW w0 s) (some ⟨w0.heap.size, 0, none⟩) s.length (strCap w0 s) s := str_bs w0 s (by simp only [maxLen]; omega)
  have hbs := str_below w0 s
  generalize strW w0 s = w1 at *
  generalize strCap w0 s = sc at *
  refine (refsum_any _ _ _ s _ hS).mono ?_
  rintro e w2 ⟨rfl, rfl⟩
  rw [HNA.out]
  have HB2 : Hid (Below w0.heap.size w0 w1) := Lib.hid hbs
  clear hS hbs
  generalize (Codec.sum s).toNat = A at *
  generalize hBN : (Codec.sum (s ++ [1])).toNat = Bn at *
  clear hBN
  have hS := str_row w1 s (by simp only [maxLen]; omega)
  have hbs := str_below w1 s
  have HS := Lib.hid hS
  have HBS := Lib.hid hbs
  clear hS hbs
  go_wp2_with (at_builtin; refine app_str rfl _ _ rfl rfl (HS.out.below (below_alloc1 _ _)) rfl (Bs.one _ 1) hs ?_; intro a4 c4 w4 h4 hb4; have H4 := Lib.hid h4; have HB4 : Hid (Below w1.heap.size w1 w4) := Lib.hid (HBS.out.trans (((below_alloc1 _ _).mono HBS.out.size).trans hb4)); clear h4 hb4)
  refine (refsum_any _ _ _ (s ++ [1]) _ H4.out).mono ?_
  rintro e w5 ⟨rfl, rfl⟩
  rw [HNB.out]
  have HB6 : Hid (Below w0.heap.size w0 w4) := Lib.hid (HB2.out.trans (HB4.out.mono HB2.out.size))
  have hr6 := (HB6.out.block _ (Array.getElem?_eq_some_iff.1 HR0.out).1).trans HR0.out
  have HB6W := Lib.hid (HB0.out.trans (HB6.out.mono HB0.out.size))
  have HR6 := Lib.hid hr6
  have HLT : Hid (w.heap.size < w4.heap.size) := Lib.hid (Array.getElem?_eq_some_iff.1 hr6).1
  clear hr6 HNA HNB HB2 HB6 HR0 HB0 HS HBS H4 HB4
  go_wp2_with fail
  go_loopw [8] (fun iv wr => ∃ (k : Nat) (Ar : Array Value), k ≤ 4 ∧ iv = .int .i64 k ∧ Hid (wr.heap[w4.heap.size]? = some (.cells Ar 84 (0, 0)) ∧ Ar.size = 4 ∧ ∀ j, j < k → Ar[j]? = some (.int .i64 (Sst.spot s m j : Nat))) ∧ Hid (Below w4.heap.size w4 wr)) (fun iv _ => 4 - (intOf iv).toNat)
  case atStart => exact ⟨0, _, Nat.zero_le _, rfl, Lib.hid ⟨heap_alloc_new _ _, rfl, fun j hj => by omega⟩, Lib.hid (below_alloc1 _ _)⟩
  case round =>
    obtain ⟨k, Ar, hk, rfl, HAR, HBR⟩ := hrel
    obtain ⟨g1, g2, g3⟩ := HAR.out
    by_cases hlt : k < 4
    · obtain ⟨v0, hv0⟩ : ∃ v, Ar[k]? = some v := ⟨_, Array.getElem?_eq_getElem (by omega)⟩
      have c1 : wr.cell? ⟨w4.heap.size, k, none⟩ = some v0 := (cell_of_row _ _ k _ _ _ g1).trans hv0
      have c2 : wr.frozen? ⟨w4.heap.size, k, none⟩ = false := by simp [World.frozen?, g1]
      obtain ⟨P, hP⟩ : ∃ P, P = k * Bn := ⟨_, rfl⟩
      have hPb : P ≤ 3 * 4294967296 := by
        have h1 : k * Bn ≤ 3 * Bn := Nat.mul_le_mul_right _ (by omega)
        omega
      have eP : (k : Int) * (Bn : Int) = (P : Int) := by rw [hP, Int.natCast_mul]
      obtain ⟨S, hS⟩ : ∃ S, S = (A + P) % m := ⟨_, rfl⟩
      have eS : ((A : Int) + (P : Int)) % (m : Int) = (S : Int) := by rw [hS, Int.natCast_emod, Int.natCast_add]
      have hm0 : ((m : Int) == 0) = false := by rw [beq_eq_false_iff_ne]; omega
      have HSK : Hid (Sst.spot s m k = S) := Lib.hid (by rw [HSP.out, hS, hP])
      have hSl : S < m := by rw [← HSK.out]; exact HSL.out k
      have htk : decide (k < 4) = true := decide_eq_true hlt
      clear hP hS hv0 g1 g2 g3
      go_wp2
      go_roundw
      case rel => exact ⟨k + 1, Ar.setIfInBounds k (.int .i64 (S : Nat)), by omega, by go_num, Lib.hid ⟨heap_set HAR.out.1, by simp [HAR.out.2.1], fun j hj => arr_stepI HAR.out.2.2 (by rw [HAR.out.2.1]; omega) (by rw [HSK.out]) hj⟩, Lib.hid (HBR.out.setCell (p := ⟨w4.heap.size, k, none⟩) (Nat.le_refl _) _)⟩
      case measure => simp [intOf]; omega
    · obtain rfl : k = 4 := by omega
      have e4 := arr4 g2 (g3 0 (by omega)) (g3 1 (by omega)) (g3 2 (by omega)) (g3 3 (by omega))
      subst e4
      obtain ⟨k0, k1, k2, k3, kf⟩ := cells4 g1
      have hr9 := (HBR.out.block _ HLT.out).trans HR6.out
      have HR9 := Lib.hid hr9
      have HB9 := Lib.hid (HB6W.out.trans (HBR.out.mono HB6W.out.size))
      obtain ⟨j0, j1, j2, j3, jf⟩ := cells4 hr9
      clear g1 g2 g3 hr9
      generalize hs0 : Sst.spot s m 0 = s0 at *
      have HS0 := Lib.hid hs0
      clear hs0
      generalize hs1 : Sst.spot s m 1 = s1 at *
      have HS1 := Lib.hid hs1
      clear hs1
      generalize hs2 : Sst.spot s m 2 = s2 at *
      have HS2 := Lib.hid hs2
      clear hs2
      generalize hs3 : Sst.spot s m 3 = s3 at *
      have HS3 := Lib.hid hs3
      clear hs3
      go_wp2
      obtain ⟨hs, hoth⟩ := set4 (.int .i64 (s0 : Nat)) (.int .i64 (s1 : Nat)) (.int .i64 (s2 : Nat)) (.int .i64 (s3 : Nat)) HR9.out
      have hbb := HB9.out.trans (hoth.below HB9.out.size (fun x hx => by cases hx; exact Nat.le_refl _))
      generalize World.setCell _ _ _ = W9 at *
      obtain ⟨q0, q1, q2, q3, _⟩ := cells4 hs
      exact bodyPost_ret (v := .agg #[.int .i64 (s0 : Nat), .int .i64 (s1 : Nat), .int .i64 (s2 : Nat), .int .i64 (s3 : Nat)]) (by simp [results, Tryz.results37, go_sem, q0, q1, q2, q3]) rfl ⟨by rw [HS0.out, HS1.out, HS2.out, HS3.out], hbb⟩
end Go.Proofs.YtjigfinpbdglnaaGreatDoor
end

section
set_option maxRecDepth 100000
set_option linter.unusedVariables false
set_option linter.unusedSimpArgs false
namespace Go.Proofs.YtjigfinpbdglnaaGreatDoor
open Go.RowKit

/-! Plain. -/
def Sst.put (b : List UInt8) (p : Nat) : List UInt8 := b.set (p / 8) (nth b (p / 8) ||| UInt8.ofNat (2 ^ (p % 8)))
def Sst.puts (b : List UInt8) (s : List UInt8) (m : Nat) : Nat → List UInt8
  | 0 => b
  | k + 1 => Sst.put (Sst.puts b s m k) (Sst.spot s m k)
theorem put_len (b : List UInt8) (p : Nat) : (Sst.put b p).length = b.length := by unfold Sst.put; rw [List.length_set]
theorem puts_len (b s : List UInt8) (m : Nat) : ∀ k, (Sst.puts b s m k).length = b.length
  | 0 => rfl
  | k + 1 => by rw [Sst.puts, put_len, puts_len b s m k]
def Sst.runs (l : List Ent) : Nat → Nat
  | 0 => 0
  | k + 1 => Sst.runs l k + if k = 0 ∨ (nth l k).key ≠ (nth l (k - 1)).key then 1 else 0
theorem runs_le (l : List Ent) : ∀ k, Sst.runs l k ≤ k
  | 0 => Nat.le_refl _
  | k + 1 => by have := runs_le l k; unfold Sst.runs; split <;> omega
def Sst.mb (n : Nat) : Nat := max 8 ((10 * n + 7) / 8)
def Sst.fill (l : List Ent) (mb : Nat) : Nat → List UInt8
  | 0 => List.replicate mb 0
  | i + 1 => Sst.puts (Sst.fill l mb i) (nth l i).key (8 * mb) 4
theorem fill_len (l : List Ent) (mb : Nat) : ∀ i, (Sst.fill l mb i).length = mb
  | 0 => by simp [Sst.fill]
  | i + 1 => by rw [Sst.fill, puts_len, fill_len l mb i]
def Sst.filter (l : List Ent) : List UInt8 := Sst.fill l (Sst.mb (Sst.runs l l.length)) l.length
theorem filter_len (l : List Ent) (h : l.length ≤ 1000) : (Sst.filter l).length ≤ 1300 := by
  unfold Sst.filter
  rw [fill_len]
  have := runs_le l l.length
  unfold Sst.mb
  omega
theorem filter_len2 (l : List Ent) (h : l.length ≤ 1000000) : 8 ≤ (Sst.filter l).length ∧ (Sst.filter l).length ≤ 1250010 := by
  unfold Sst.filter
  rw [fill_len]
  have := runs_le l l.length
  unfold Sst.mb
  omega
theorem madeCells_vs (n : Nat) : (madeCells #[.int .u8 0] n).toList = vs (List.replicate n 0) := by
  apply List.ext_getElem?
  intro i
  by_cases h : i < n
  · simp [madeCells, vs, h, Nat.mod_one]; rfl
  · rw [List.getElem?_eq_none (by simp [madeCells]; omega), List.getElem?_eq_none (by simp [vs]; omega)]
theorem made_own (w : World) (n : Nat) (hn : n ≤ maxLen) : Own (w.alloc (.cells (madeCells #[.int .u8 0] n) 5)) w.heap.size (some ⟨w.heap.size, 0, none⟩) n n (List.replicate n 0) :=
  ⟨by simp [vs], .inr ⟨w.heap.size, n, _, rfl, Nat.le_refl _, heap_alloc_new w _, Nat.le_refl _, hn, by rw [size_madeCells, Nat.mul_one], by rw [madeCells_vs, List.take_of_length_le (by simp [vs])]⟩⟩
theorem Own.put {w : World} {B g n c j : Nat} {l : List UInt8} {y : UInt8} (h : Own w B (some ⟨g, 0, none⟩) n c l) : Own (w.setCell ⟨g, j, none⟩ (.int .u8 (n8 y))) B (some ⟨g, 0, none⟩) n c (l.set j y) := by
  have hs := (World.ownsRow.stored h j (.int .u8 (n8 y))).1
  have e : (vs l).set j (.int .u8 (n8 y)) = vs (l.set j y) := by simp only [vs, List.map_set]
  rw [e] at hs
  exact hs
theorem bit_or (y : UInt8) (r : Nat) : bits .or .u8 (n8 y) ((2 : Int) ^ r % 256) = n8 (y ||| UInt8.ofNat (2 ^ r)) := by
  have e : (2 : Int) ^ r % 256 = n8 (UInt8.ofNat (2 ^ r)) := by
    unfold n8
    rw [UInt8.toNat_ofNat']
    simp
  rw [e, or8]
/-- A byte of a row of the call's own: it is read, it may be stored. -/
theorem Own.spot {w : World} {B g n c j : Nat} {l : List UInt8} (h : Own w B (some ⟨g, 0, none⟩) n c l) (hj : j < n) : w.cell? ⟨g, j, none⟩ = some (.int .u8 (n8 (nth l j))) ∧ w.frozen? ⟨g, j, none⟩ = false := by
  have hn := h.bs.1
  refine ⟨?_, World.ownsRow.frozenAt h j⟩
  rw [World.ownsRow.cellAt h j (by omega), vs, List.getElem?_map, List.getElem?_eq_getElem (by omega), nth_eq l (k := j) (by omega)]
  rfl
set_option maxHeartbeats 1000000 in
theorem bits_any (n : Nat) (w : World) (hn : n ≤ 1000000) :
    Calls Tryz.prog 87 #[.int .i64 n] w fun e w' => e = .returned (.int .i64 ((8 * Sst.mb n : Nat))) ∧ w = w' := by
  have HMB : Hid (Sst.mb n = max 8 ((10 * n + 7) / 8)) := Lib.hid rfl
  generalize Sst.mb n = M at *
  go_enter Tryz.func87, Tryz.ntmps87
  go_wp2_with fail
  go_loop [3] (fun v => ∃ m : Nat, v = .int .i64 m ∧ 10 * n ≤ m ∧ m ≤ 8 * ((10 * n + 7) / 8)) (fun v => 20000000 - (intOf v).toNat)
  case atStart => exact ⟨10 * n, by simp, Nat.le_refl _, by omega⟩
  case round =>
    obtain ⟨m, rfl, h1, h2⟩ := hrel
    have hmb : m ≤ 10000008 := by omega
    obtain ⟨r, hr⟩ : ∃ r, r = m % 8 := ⟨_, rfl⟩
    have er : (m : Int) % 8 = (r : Int) := by omega
    by_cases h0 : r = 0
    · have HM : Hid (m = 8 * ((10 * n + 7) / 8)) := Lib.hid (by omega)
      have t1 : ((r : Int) != 0) = false := by simp; omega
      clear h0 hr h2
      by_cases h3 : m < 64
      · have t2 : decide ((m : Int) < 64) = true := decide_eq_true (by omega)
        have t2' : decide (m < 64) = true := decide_eq_true h3
        go_wp2
        go_ret
        obtain rfl : M = 8 := by have := HM.out; have := HMB.out; omega
        exact ⟨rfl, rfl⟩
      · have t2 : decide ((m : Int) < 64) = false := decide_eq_false (by omega)
        have t2' : decide (m < 64) = false := decide_eq_false h3
        go_wp2
        go_ret
        obtain rfl : m = 8 * M := by have := HM.out; have := HMB.out; omega
        exact ⟨rfl, rfl⟩
    · have t1 : ((r : Int) != 0) = true := by simp; omega
      have h4 : m + 1 ≤ 8 * ((10 * n + 7) / 8) := by omega
      clear hr
      go_wp2
      go_round
      case rel => exact ⟨m + 1, by go_num, by omega, h4⟩
      case measure => simp [intOf]; omega
@[go_sem] theorem idx0 (s0 s1 s2 s3 : Int) (w : World) : (Instr.index 82 (.agg #[.int .u64 s0, .int .u64 s1, .int .u64 s2, .int .u64 s3]) (.int .i64 0)).run Tryz.prog w = .ok (.int .u64 s0) w := by kernel_rfl
@[go_sem] theorem idx1 (s0 s1 s2 s3 : Int) (w : World) : (Instr.index 82 (.agg #[.int .u64 s0, .int .u64 s1, .int .u64 s2, .int .u64 s3]) (.int .i64 1)).run Tryz.prog w = .ok (.int .u64 s1) w := by kernel_rfl
@[go_sem] theorem idx2 (s0 s1 s2 s3 : Int) (w : World) : (Instr.index 82 (.agg #[.int .u64 s0, .int .u64 s1, .int .u64 s2, .int .u64 s3]) (.int .i64 2)).run Tryz.prog w = .ok (.int .u64 s2) w := by kernel_rfl
@[go_sem] theorem idx3 (s0 s1 s2 s3 : Int) (w : World) : (Instr.index 82 (.agg #[.int .u64 s0, .int .u64 s1, .int .u64 s2, .int .u64 s3]) (.int .i64 3)).run Tryz.prog w = .ok (.int .u64 s3) w := by kernel_rfl
set_option maxHeartbeats 8000000 in
theorem sfilter_any (a : Option Addr) (n c : Nat) (l : List Ent) (w : World) (h : Es w a n c l) (hk : ∀ e ∈ l, e.key.length ≤ 1000000) (hn : n ≤ 1000000) :
    Calls Tryz.prog 43 #[.slice a n c] w (RetB w w.heap.size (Sst.filter l)) := by
  have hle := h.le.1
  have HN := Lib.hid h.1
  have HL := Lib.hid h
  have HK := Lib.hid hk
  have HRL := Lib.hid (runs_le l)
  have HRS : Hid (∀ k, Sst.runs l (k + 1) = Sst.runs l k + if k = 0 ∨ (nth l k).key ≠ (nth l (k - 1)).key then 1 else 0) := Lib.hid (fun k => rfl)
  have HFI : Hid (Sst.filter l = Sst.fill l (Sst.mb (Sst.runs l n)) n) := Lib.hid (by unfold Sst.filter; rw [HN.out])
  have HMB : Hid (∀ k, Sst.mb k = max 8 ((10 * k + 7) / 8)) := Lib.hid (fun k => rfl)
  clear h hk
  go_enter Tryz.func43, Tryz.ntmps43
  go_wp2_with fail
  go_loopw [3, 12] (fun sv iv wr => ∃ i : Nat, i ≤ n ∧ iv = .int .i64 i ∧ sv = .int .i64 (Sst.runs l i : Nat) ∧ Hid (Below w.heap.size w wr)) (fun _ iv _ => n - (intOf iv).toNat)
  case atStart => exact ⟨0, Nat.zero_le _, rfl, rfl, Lib.hid (Below.refl _ _)⟩
  case round =>
    obtain ⟨i, hi, rfl, rfl, HB⟩ := hrel
    have hrl := HRL.out i
    by_cases hlt : i < n
    · have ht : decide (i < n) = true := decide_eq_true hlt
      have HR := Lib.hid (HRS.out i)
      by_cases h0 : i = 0
      · subst h0
        have HR2 : Hid (Sst.runs l (0 + 1) = Sst.runs l 0 + 1) := Lib.hid (by rw [HR.out, if_pos (.inl rfl)])
        generalize Sst.runs l 0 = r at *
        go_wp2_with fail
        refine wp_region_class (w0 := wr) (by kernel_rfl) (by kernel_rfl) (Below.refl _ _) ?_
        repeat (first | go_big_quiet_step (fail))
        refine wpQuiet_nil ?_
        intro w1 hb1; replace hb1 := BW.of hb1
        have HB1 := Lib.hid (HB.out.trans (hb1.mono HB.out.size))
        clear hb1
        go_wp2
        go_roundw
        case rel => exact ⟨1, by omega, by go_num, by rw [show (1 : Nat) = 0 + 1 from rfl, HR2.out]; go_num, HB1⟩
        case measure => simp [intOf]; omega
      · obtain ⟨k, rfl⟩ : ∃ k, i = k + 1 := ⟨i - 1, by omega⟩
        obtain ⟨b1, o1, a1, d1, ea, he1, _⟩ := (HL.out.below HB.out).vals (i := k + 1) hlt
        obtain ⟨b2, o2, a2, d2, eb, he2, _⟩ := (HL.out.below HB.out).vals (i := k) (by omega)
        subst ea
        cases eb
        have p1 := BW.cell he1.key
        have p2 := BW.cell he2.key
        have tz : ((((k + 1 : Nat) : Int)) == 0) = false := by rw [beq_eq_false_iff_ne]; omega
        have tz' : (((k : Int) + 1) == 0) = false := by rw [beq_eq_false_iff_ne]; omega
        clear he1 he2 h0
        have HR3 : Hid (Sst.runs l (k + 1 + 1) = Sst.runs l (k + 1) + if (nth l (k + 1)).key ≠ (nth l k).key then 1 else 0) := Lib.hid (by rw [HR.out]; simp)
        generalize (nth l (k + 1)).key = x at *
        generalize (nth l k).key = y at *
        generalize Sst.runs l (k + 1) = r at *
        by_cases hxy : x = y
        · have HR2 : Hid (Sst.runs l (k + 1 + 1) = r) := Lib.hid (by rw [HR3.out, if_neg (by simp [hxy])]; rfl)
          have t1 : ((bstr x).toList == (bstr y).toList) = true := by rw [bstr_beq]; exact decide_eq_true hxy
          have t1' : decide (x = y) = true := decide_eq_true hxy
          clear hxy
          go_wp2_with fail
          refine wp_region_class (w0 := wr) (by kernel_rfl) (by kernel_rfl) (Below.refl _ _) ?_
          repeat (first | go_big_quiet_step (fail))
          refine wpQuiet_nil ?_
          intro w1 hb1; replace hb1 := BW.of hb1
          have HB1 := Lib.hid (HB.out.trans (hb1.mono HB.out.size))
          clear hb1 p1 p2
          go_wp2
          go_roundw
          case rel => exact ⟨k + 1 + 1, by omega, by go_num, by rw [HR2.out], HB1⟩
          case measure => simp [intOf]; omega
        · have HR2 : Hid (Sst.runs l (k + 1 + 1) = r + 1) := Lib.hid (by rw [HR3.out, if_pos hxy])
          have t1 : ((bstr x).toList == (bstr y).toList) = false := by rw [bstr_beq]; exact decide_eq_false hxy
          have t1' : decide (x = y) = false := decide_eq_false hxy
          clear hxy
          go_wp2_with fail
          refine wp_region_class (w0 := wr) (by kernel_rfl) (by kernel_rfl) (Below.refl _ _) ?_
          repeat (first | go_big_quiet_step (fail))
          refine wpQuiet_nil ?_
          intro w1 hb1; replace hb1 := BW.of hb1
          have HB1 := Lib.hid (HB.out.trans (hb1.mono HB.out.size))
          clear hb1 p1 p2
          go_wp2
          go_roundw
          case rel => exact ⟨k + 1 + 1, by omega, by go_num, by rw [HR2.out]; go_num, HB1⟩
          case measure => simp [intOf]; omega
    · obtain rfl : n = i := by omega
      generalize hr : Sst.runs l n = r at *
      have HM := Lib.hid (HMB.out r)
      generalize hm : Sst.mb r = M at *
      have HRM : Hid (Sst.mb (Sst.runs l n) = M) := Lib.hid (by rw [hr, hm])
      have hM8 : 8 ≤ M ∧ M ≤ 1250010 := by have := HM.out; omega
      obtain ⟨q, hq⟩ : ∃ q, q = (10 * r + 7) / 8 := ⟨_, rfl⟩
      have eq1 : (10 * (r : Int) + 7) / 8 = (q : Int) := by omega
      have HMQ : Hid (M = max 8 q) := Lib.hid (by rw [HM.out, hq])
      have hmk := run_make_row' (P := Tryz.prog) 22 5 (.int .u8 0) 1 Tryz.underlying22 info8 rfl .i64 .i64 M (by omega) (by omega)
      clear hq hr hm
      go_upto_region 8 with fail
      go_cut [5] (fun v wx => v = .slice (some ⟨wr.heap.size, 0, none⟩) M M ∧ wx = wr.alloc (.cells (madeCells #[.int .u8 0] M) 5))
      case first =>
        by_cases hq8 : (q : Int) ≤ 8
        · have hmk8 : ∀ w : World, (Instr.makeSlice 22 (.int .i64 8) (.int .i64 8)).run Tryz.prog w = .ok (.slice (some ⟨w.heap.size, 0, none⟩) 8 8) (w.alloc (.cells (madeCells #[.int .u8 0] 8) 5)) := fun w => run_make_row' (P := Tryz.prog) 22 5 (.int .u8 0) 1 Tryz.underlying22 info8 rfl .i64 .i64 8 (by omega) (by omega) w
          obtain rfl : M = 8 := by have := HMQ.out; omega
          go_wp2
          go_meet
          exact ⟨rfl, rfl⟩
        · obtain rfl : M = q := by have := HMQ.out; omega
          go_wp2
          go_meet
          exact ⟨rfl, rfl⟩
      case rest =>
      obtain ⟨rfl, hwx⟩ := hcut
      have ho := made_own wr M (by simp only [maxLen]; omega)
      have hb2 := HB.out.trans ((below_alloc1 wr (.cells (madeCells #[.int .u8 0] M) 5)).mono HB.out.size)
      rw [← hwx] at ho hb2
      have hgz : w.heap.size ≤ wr.heap.size := HB.out.size
      have HO0 : Hid (Own wc w.heap.size (some ⟨wr.heap.size, 0, none⟩) M M (Sst.fill l M 0)) := Lib.hid (ho.mono HB.out.size)
      have HB0 := Lib.hid hb2
      clear hmk eq1 hwx ho hb2 HMQ HM
      generalize wr.heap.size = g at *
      clear HB
      go_wp2_with fail
      go_loopw [42] (fun iv wr => ∃ i : Nat, i ≤ n ∧ iv = .int .i64 i ∧ Hid (Own wr w.heap.size (some ⟨g, 0, none⟩) M M (Sst.fill l M i)) ∧ Hid (Below w.heap.size w wr)) (fun iv _ => n - (intOf iv).toNat)
      case atStart => exact ⟨0, Nat.zero_le _, rfl, HO0, HB0⟩
      case round =>
        obtain ⟨i, hi2, rfl, HO, HB⟩ := hrel
        clear HO0 HB0
        by_cases hlt2 : i < n
        case neg =>
          obtain rfl : n = i := by omega
          go_wp2
          go_ret
          exact ⟨_, _, _, rfl, by rw [HFI.out]; exact HO.out, HB.out⟩
        have ht2 : decide (i < n) = true := decide_eq_true hlt2
        obtain ⟨b, off, ae, ce, rfl, he, hv⟩ := (HL.out.below HB.out).vals (i := i) hlt2
        have HKL : Hid ((nth l i).key.length ≤ 1000000) := Lib.hid (by rw [nth_eq l (by rw [HN.out]; exact hlt2)]; exact HK.out _ (List.getElem_mem _))
        have HFS : Hid (Sst.fill l M (i + 1) = Sst.puts (Sst.fill l M i) (nth l i).key (8 * M) 4) := Lib.hid rfl
        have p0 := he.key
        have p1 := he.seq
        have p2 := he.gone
        have p3 := he.val
        have HFL := Lib.hid (fill_len l M i)
        clear he hv
        generalize Sst.fill l M i = f0 at *
        generalize nth l i = x at *
        obtain ⟨xk, xs, xg, xv⟩ := x
        dsimp only at *
        have hxk := HKL.out
        have HPL := Lib.hid (fun W : World => places_any xk (8 * M) W (by omega) (by omega) (by omega))
        have HSL : Hid (∀ j, Sst.spot xk (8 * M) j < 8 * M) := Lib.hid (fun j => Nat.mod_lt _ (by omega))
        have HPS : Hid (∀ k, Sst.puts f0 xk (8 * M) (k + 1) = Sst.put (Sst.puts f0 xk (8 * M) k) (Sst.spot xk (8 * M) k)) := Lib.hid (fun k => rfl)
        have HPZ : Hid (Sst.puts f0 xk (8 * M) 0 = f0) := Lib.hid rfl
        have HPN : Hid (∀ k, (Sst.puts f0 xk (8 * M) k).length = M) := Lib.hid (fun k => by rw [puts_len, HFL.out])
        have HPU : Hid (∀ y p, Sst.put y p = y.set (p / 8) (nth y (p / 8) ||| UInt8.ofNat (2 ^ (p % 8)))) := Lib.hid (fun y p => rfl)
        generalize Sst.puts f0 xk (8 * M) = ps at *
        have e8 : ((8 * M : Nat) : Int) = 8 * (M : Int) := by omega
        rw [e8] at HPL
        clear e8
        go_wp2_with fail
        refine (HPL.out _).mono ?_
        rintro e w3 ⟨rfl, hb3⟩
        have HB3 := Lib.hid (HB.out.trans ((below_alloc1 wr _).trans (hb3.mono (le_alloc (Nat.le_refl _))) |>.mono HB.out.size))
        have HO3 : Hid (Own w3 w.heap.size (some ⟨g, 0, none⟩) M M (ps 0)) := Lib.hid (by rw [HPZ.out]; exact HO.out.below ((below_alloc1 wr _).trans (hb3.mono (le_alloc (Nat.le_refl _)))))
        clear hb3 p0 p1 p2 p3
        generalize Sst.spot xk (8 * M) = sp at *
        go_wp2_with fail
        go_loopw [53] (fun kv wr => ∃ k : Nat, k ≤ 4 ∧ kv = .int .i64 k ∧ Hid (Own wr w.heap.size (some ⟨g, 0, none⟩) M M (ps k)) ∧ Hid (Below w.heap.size w wr)) (fun kv _ => 4 - (intOf kv).toNat)
        case atStart => exact ⟨0, Nat.zero_le _, rfl, HO3, HB3⟩
        case round =>
          obtain ⟨k, hk4, rfl, HO4, HB4⟩ := hrel
          by_cases hlt4 : k < 4
          case neg =>
            obtain rfl : k = 4 := by omega
            go_wp2
            go_roundw
            case rel => exact ⟨i + 1, by omega, by go_num, by rw [HFS.out]; exact HO4, HB4⟩
            case measure => simp [intOf]; omega
          have ht4 : decide (k < 4) = true := decide_eq_true hlt4
          obtain ⟨S, hS⟩ : ∃ S, sp k = S := ⟨_, rfl⟩
          have hSl := HSL.out k
          rw [hS] at hSl
          have HSK := Lib.hid hS
          have HPK : Hid (ps (k + 1) = (ps k).set (S / 8) (nth (ps k) (S / 8) ||| UInt8.ofNat (2 ^ (S % 8)))) := Lib.hid (by rw [HPS.out, HPU.out, hS])
          have hS8 : S / 8 < M := by omega
          obtain ⟨c1, c2⟩ := HO4.out.spot hS8
          have HI := Lib.hid (bit_or (nth (ps k) (S / 8)) (S % 8))
          have HON : Hid (Own (wr.setCell ⟨g, S / 8, none⟩ (.int .u8 (n8 (nth (ps k) (S / 8) ||| UInt8.ofNat (2 ^ (S % 8)))))) w.heap.size (some ⟨g, 0, none⟩) M M (ps (k + 1))) := Lib.hid (by rw [HPK.out]; exact HO4.out.put)
          have hgb : w.heap.size ≤ g := (HO4.out.new ⟨g, 0, none⟩ rfl).1
          have HBN : Hid (Below w.heap.size w (wr.setCell ⟨g, S / 8, none⟩ (.int .u8 (n8 (nth (ps k) (S / 8) ||| UInt8.ofNat (2 ^ (S % 8))))))) := Lib.hid (HB4.out.setCell (p := ⟨g, S / 8, none⟩) hgb _)
          have hilt : (S : Int) / 8 < (M : Int) := by omega
          have hi0 : 0 ≤ (S : Int) / 8 := by omega
          obtain rfl | rfl | rfl | rfl : k = 0 ∨ k = 1 ∨ k = 2 ∨ k = 3 := by omega
          all_goals
            go_wp2_with fail
            rw [HI.out]
            go_wp2
            go_roundw
            case rel => exact ⟨_ + 1, by omega, by go_num, HON, HBN⟩
            case measure => simp [intOf] <;> omega
end Go.Proofs.YtjigfinpbdglnaaGreatDoor
end
