/- Sorted tables: append to a string's bytes; the reference's spots and bits. -/
import Derived.Test.YtchdmjnhjonddaaSbE
set_option maxRecDepth 100000
set_option linter.unusedVariables false
set_option linter.unusedSimpArgs false
namespace Go.Proofs.Ytchdmjnhjonddaa
open Go.RowKit

/-- The row of a string's bytes. -/
def StrRow (w : World) (g n sc : Nat) (l : List UInt8) : Prop := Bs w (some ⟨g, 0, none⟩) n sc l ∧ ∃ cs : Array Value, w.heap[g]? = some (.cells cs 5 (sc, sc + 1)) ∧ cs.size = sc
theorem str_row (w : World) (s : List UInt8) (hs : s.length ≤ maxLen) : StrRow (strW w s) w.heap.size s.length (strCap w s) s := by
  refine ⟨str_bs w s hs, Lib.bytesCells w 5 (bstr s), ?_, ?_⟩
  · have h := Lib.bytesWorld_at_new w 5 (bstr s)
    have hsz : (Lib.bytesCells w 5 (bstr s)).size = strCap w s := by
      have := grownCap_ge w s.length 0 5
      simp only [Lib.bytesCells, Array.size_append, Array.size_map, Array.size_replicate]
      rw [show (bstr s).data.size = s.length by simp [bstr], bstr_size]
      unfold strCap
      omega
    rw [hsz] at h
    exact h
  · have := grownCap_ge w s.length 0 5
    simp only [Lib.bytesCells, Array.size_append, Array.size_map, Array.size_replicate]
    rw [show (bstr s).data.size = s.length by simp [bstr], bstr_size]
    unfold strCap
    omega
theorem StrRow.below {w w' : World} {g n sc : Nat} {l : List UInt8} (h : StrRow w g n sc l) (k : Below w.heap.size w w') : StrRow w' g n sc l := by
  obtain ⟨h1, cs, h2, h3⟩ := h
  exact ⟨h1.below k, cs, (k.block g (Array.getElem?_eq_some_iff.1 h2).1).trans h2, h3⟩
theorem run_app_str (w : World) (ty g n sc : Nat) (l : List UInt8) (h : StrRow w g n sc l) (b c : Nat) (y : UInt8) (hr : Bs w (some ⟨b, 0, none⟩) 1 c [y]) (hn : n ≤ 1000000000) :
    ∃ a' c' w', (Builtin.append_ #[55, 55] ty #[.slice (some ⟨g, 0, none⟩) n sc, .slice (some ⟨b, 0, none⟩) 1 c]).run Try.prog w = .ok (.slice a' (n + 1) c') w' ∧ Bs w' a' (n + 1) c' (l ++ [y]) ∧ Below g w w' := by
  obtain ⟨hb, cs, hg, hsz⟩ := h
  obtain ⟨i, hi, h0, h1, h2⟩ := info_parts info8
  have hln := hb.1
  have hgl := (Array.getElem?_eq_some_iff.1 hg).1
  by_cases hroom : n + 1 ≤ sc
  · have hcell : w.cell? ⟨g, n, none⟩ = some cs[n] := by simp [World.cell?, hg, show n < cs.size by omega]
    have hfro : w.frozen? ⟨g, n, none⟩ = false := by simp [World.frozen?, hg]; omega
    have hy : w.cell? (⟨b, 0, none⟩ : Addr) = some (.int .u8 (n8 y)) := by
      obtain ⟨b', o', e, k⟩ := hr.2.2.2 0 (.int .u8 (n8 y)) rfl
      cases e
      exact k
    have hf := run_firstCells_some (P := Try.prog) w i.size 1 ⟨b, 0, none⟩ 1 c [.int .u8 (n8 y)] (by rw [h1]; rfl) (fun j u hj => by
      match j, hj with
      | 0, hj => cases hj; rw [Addr.add_zero']; exact hy
      | j + 1, hj => simp at hj)
    have hst : (storeCells ⟨g, n, none⟩ [.int .u8 (n8 y)] 0).run Try.prog w = .ok () (w.setCell ⟨g, n, none⟩ (.int .u8 (n8 y))) := by
      have e0 : (store ((⟨g, n, none⟩ : Addr).add 0) (.int .u8 (n8 y))).run Try.prog w = .ok () (w.setCell ⟨g, n, none⟩ (.int .u8 (n8 y))) := by
        rw [Addr.add_zero', run_store Try.prog w _ _ _ rfl, hcell]
        simp [hfro]
      simp only [storeCells, Sem.run_bind, e0, Result.andThen_ok]
      rfl
    refine ⟨some ⟨g, 0, none⟩, sc, w.setCell ⟨g, n, none⟩ (.int .u8 (n8 y)), ?_, ?_, ?_⟩
    · rw [h1] at hf
      simp [Builtin.append_, run_underlying Try.underlying55, sizeOf, typeInfo, hi, Builtin.lenOf, hroom, h1, hf, Addr.add_lit, hst]
    · refine ⟨by simp [hln], hroom, hb.2.2.1, fun j v hj => ⟨g, 0, rfl, ?_⟩⟩
      rw [Nat.zero_add]
      by_cases e : j = n
      · subst e
        have : v = .int .u8 (n8 y) := by
          unfold vs at hj
          rw [List.map_append, List.getElem?_append_right (by simp; omega)] at hj
          simp [hln] at hj
          exact hj.symm
        subst this
        exact World.cell?_setCell_same' _ _ _ (by rw [hcell]; rfl)
      · rw [World.cell?_setCell_other _ _ _ _ (fun e2 => e (by have := congrArg Addr.off e2; simp at this; omega))]
        have hjl : j < n := by
          have := (List.getElem?_eq_some_iff.1 hj).1
          simp [vs] at this
          omega
        unfold vs at hj
        rw [List.map_append, List.getElem?_append_left (by simp; omega)] at hj
        obtain ⟨b', o', e1, k⟩ := hb.2.2.2 j v hj
        cases e1
        rw [Nat.zero_add] at k
        exact k
    · exact (Below.refl _ _).setCell (p := ⟨g, n, none⟩) (Nat.le_refl _) _
  · obtain rfl : n = sc := by have := hb.2.1; omega
    obtain ⟨a', c', w', e1, e2, e3, e4, e5⟩ := run_append_app (P := Try.prog) w g 55 ty 5 i (.int .u8 0) 1 1 Try.underlying55 hi h0 h1 h2 rfl (by decide) (some ⟨g, 0, none⟩) n n (vs l) (.inr ⟨_, rfl, hb.2.2.2, by rw [vs_len, hln]; omega, hb.2.2.1⟩) (some ⟨b, 0, none⟩) 1 c (vs [y]) rfl hr.2.2.2 (vs_one [y]) (by omega) (by simp only [maxLen]; omega) (by omega)
    refine ⟨a', c', w', e1, ?_, e4⟩
    have h3 := e3 (by omega)
    rw [← vs_append] at h3
    exact Own.bs (B := g) h3
section
variable {w : World} {ops : Array Oper} {rest : List Oper} {o : Oper} {a : Act} {Q : Exit → Act → World → Prop}
theorem app_str (hgd : Region.wanted o (yielded ops a.tmps) = true) (s x : Operand) (ho : o.op = .call { callee := .builtin .append, args := #[s, x], argTypes := #[55, 55] })
    {g n sc b c : Nat} {l : List UInt8} {y : UInt8} (hs : a.eval s = .slice (some ⟨g, 0, none⟩) n sc) (hrow : StrRow w g n sc l) (hx : a.eval x = .slice (some ⟨b, 0, none⟩) 1 c) (hr : Bs w (some ⟨b, 0, none⟩) 1 c [y]) (hn : n ≤ 1000000000)
    (h : ∀ a' c' w', Bs w' a' (n + 1) c' (l ++ [y]) → Below g w w' → wpList Try.prog ops Q rest (a.put o.dst (.slice a' (n + 1) c')) w') : wpList Try.prog ops Q (o :: rest) a w :=
  BigFrame.wpList_want hgd fun K hK => by
    obtain ⟨a', c', w', hr', h2, h3⟩ := run_app_str w o.type g n sc l hrow b c y hr hn
    unfold Oper.wp execOp
    simp only [ho, resolve, invoke, builtin, Sem.run_bind, Sem.run_pure, Result.andThen_ok, List.map_toArray, List.map_cons, List.map_nil, hs, hx, hr']
    exact hK _ _ (h a' c' w' h2 h3)
end
theorem arr_stepI {A : Array Value} {k j : Nat} {f : Nat → Nat} {v : Value} (h : ∀ j, j < k → A[j]? = some (.int .i64 (f j : Nat))) (hk : k < A.size) (hv : Value.int .i64 (f k : Nat) = v) (hj : j < k + 1) : (A.setIfInBounds k v)[j]? = some (.int .i64 (f j : Nat)) := by
  rw [Array.getElem?_setIfInBounds]
  split
  · rename_i e; subst e; first | rw [if_pos hk, hv] | rw [hv]
  · exact h j (by omega)
set_option maxHeartbeats 4000000 in
theorem rspots_any (s : List UInt8) (m : Nat) (w : World) (hm : 1 ≤ m) (hmb : m ≤ 1000000000) (hs : s.length ≤ 1000000000) :
    Calls Try.prog 93 #[.string (bstr s), .int .i64 m] w fun e w' => e = .returned (.agg #[.int .i64 (Sst.spot s m 0 : Nat), .int .i64 (Sst.spot s m 1 : Nat), .int .i64 (Sst.spot s m 2 : Nat), .int .i64 (Sst.spot s m 3 : Nat)]) ∧ Below w.heap.size w w' := by
  have hA := (Codec.sum s).toNat_lt
  have hB := (Codec.sum (s ++ [1])).toNat_lt
  have HSP : Hid (∀ j, Sst.spot s m j = ((Codec.sum s).toNat + j * (Codec.sum (s ++ [1])).toNat) % m) := Lib.hid (fun j => rfl)
  have HSL : Hid (∀ j, Sst.spot s m j < m) := Lib.hid (fun j => Nat.mod_lt _ (by omega))
  have HNA := Lib.hid (n32_toNat (Codec.sum s))
  have HNB := Lib.hid (n32_toNat (Codec.sum (s ++ [1])))
  go_enter Try.func93, Try.ntmps93
  go_upto_region 1 with fail
  have hr0 := heap_alloc_new w (.cells #[.int .i64 0, .int .i64 0, .int .i64 0, .int .i64 0] 157)
  obtain ⟨w0, hw0⟩ : ∃ w0, w.alloc (.cells #[.int .i64 0, .int .i64 0, .int .i64 0, .int .i64 0] 157) = w0 := ⟨_, rfl⟩
  have hb0 : Below w.heap.size w w0 := by rw [← hw0]; exact below_alloc1 _ _
  rw [hw0] at hr0 ⊢
  have HR0 := Lib.hid hr0
  have HB0 := Lib.hid hb0
  clear hr0 hb0 hw0
  go_wp2_with fail
  have hS : Bs (strW w0 s) (some ⟨w0.heap.size, 0, none⟩) s.length (strCap w0 s) s := str_bs w0 s (by simp only [maxLen]; omega)
  have hbs := str_below w0 s
  generalize strW w0 s = w1 at *
  generalize strCap w0 s = sc at *
  refine (refsum_any _ _ _ s _ hS).mono ?_
  rintro e w2 ⟨rfl, rfl⟩
  rw [HNA.out]
  have HB2 : Hid (Below w0.heap.size w0 w1) := Lib.hid hbs
  clear hS hbs
  generalize (Codec.sum s).toNat = A at *
  generalize hBN : (Codec.sum (s ++ [1])).toNat = Bn at *
  clear hBN
  have hS := str_row w1 s (by simp only [maxLen]; omega)
  have hbs := str_below w1 s
  have HS := Lib.hid hS
  have HBS := Lib.hid hbs
  clear hS hbs
  go_wp2_with (at_builtin; refine app_str rfl _ _ rfl rfl (HS.out.below (below_alloc1 _ _)) rfl (Bs.one _ 1) hs ?_; intro a4 c4 w4 h4 hb4; have H4 := Lib.hid h4; have HB4 : Hid (Below w1.heap.size w1 w4) := Lib.hid (HBS.out.trans (((below_alloc1 _ _).mono HBS.out.size).trans hb4)); clear h4 hb4)
  refine (refsum_any _ _ _ (s ++ [1]) _ H4.out).mono ?_
  rintro e w5 ⟨rfl, rfl⟩
  rw [HNB.out]
  have HB6 : Hid (Below w0.heap.size w0 w4) := Lib.hid (HB2.out.trans (HB4.out.mono HB2.out.size))
  have hr6 := (HB6.out.block _ (Array.getElem?_eq_some_iff.1 HR0.out).1).trans HR0.out
  have HB6W := Lib.hid (HB0.out.trans (HB6.out.mono HB0.out.size))
  have HR6 := Lib.hid hr6
  have HLT : Hid (w.heap.size < w4.heap.size) := Lib.hid (Array.getElem?_eq_some_iff.1 hr6).1
  clear hr6 HNA HNB HB2 HB6 HR0 HB0 HS HBS H4 HB4
  go_wp2_with fail
  go_loopw [8] (fun iv wr => ∃ (k : Nat) (Ar : Array Value), k ≤ 4 ∧ iv = .int .i64 k ∧ Hid (wr.heap[w4.heap.size]? = some (.cells Ar 157 (0, 0)) ∧ Ar.size = 4 ∧ ∀ j, j < k → Ar[j]? = some (.int .i64 (Sst.spot s m j : Nat))) ∧ Hid (Below w4.heap.size w4 wr)) (fun iv _ => 4 - (intOf iv).toNat)
  case atStart => exact ⟨0, _, Nat.zero_le _, rfl, Lib.hid ⟨heap_alloc_new _ _, rfl, fun j hj => by omega⟩, Lib.hid (below_alloc1 _ _)⟩
  case round =>
    obtain ⟨k, Ar, hk, rfl, HAR, HBR⟩ := hrel
    obtain ⟨g1, g2, g3⟩ := HAR.out
    by_cases hlt : k < 4
    · obtain ⟨v0, hv0⟩ : ∃ v, Ar[k]? = some v := ⟨_, Array.getElem?_eq_getElem (by omega)⟩
      have c1 : wr.cell? ⟨w4.heap.size, k, none⟩ = some v0 := (cell_of_row _ _ k _ _ _ g1).trans hv0
      have c2 : wr.frozen? ⟨w4.heap.size, k, none⟩ = false := by simp [World.frozen?, g1]
      obtain ⟨P, hP⟩ : ∃ P, P = k * Bn := ⟨_, rfl⟩
      have hPb : P ≤ 3 * 4294967296 := by
        have h1 : k * Bn ≤ 3 * Bn := Nat.mul_le_mul_right _ (by omega)
        omega
      have eP : (k : Int) * (Bn : Int) = (P : Int) := by rw [hP, Int.natCast_mul]
      obtain ⟨S, hS⟩ : ∃ S, S = (A + P) % m := ⟨_, rfl⟩
      have eS : ((A : Int) + (P : Int)) % (m : Int) = (S : Int) := by rw [hS, Int.natCast_emod, Int.natCast_add]
      have hm0 : ((m : Int) == 0) = false := by rw [beq_eq_false_iff_ne]; omega
      have HSK : Hid (Sst.spot s m k = S) := Lib.hid (by rw [HSP.out, hS, hP])
      have hSl : S < m := by rw [← HSK.out]; exact HSL.out k
      have htk : decide (k < 4) = true := decide_eq_true hlt
      clear hP hS hv0 g1 g2 g3
      go_wp2
      go_roundw
      case rel => exact ⟨k + 1, Ar.setIfInBounds k (.int .i64 (S : Nat)), by omega, by go_num, Lib.hid ⟨heap_set HAR.out.1, by simp [HAR.out.2.1], fun j hj => arr_stepI HAR.out.2.2 (by rw [HAR.out.2.1]; omega) (by rw [HSK.out]) hj⟩, Lib.hid (HBR.out.setCell (p := ⟨w4.heap.size, k, none⟩) (Nat.le_refl _) _)⟩
      case measure => simp [intOf]; omega
    · obtain rfl : k = 4 := by omega
      have e4 := arr4 g2 (g3 0 (by omega)) (g3 1 (by omega)) (g3 2 (by omega)) (g3 3 (by omega))
      subst e4
      obtain ⟨k0, k1, k2, k3, kf⟩ := cells4 g1
      have hr9 := (HBR.out.block _ HLT.out).trans HR6.out
      have HR9 := Lib.hid hr9
      have HB9 := Lib.hid (HB6W.out.trans (HBR.out.mono HB6W.out.size))
      obtain ⟨j0, j1, j2, j3, jf⟩ := cells4 hr9
      clear g1 g2 g3 hr9
      generalize hs0 : Sst.spot s m 0 = s0 at *
      have HS0 := Lib.hid hs0
      clear hs0
      generalize hs1 : Sst.spot s m 1 = s1 at *
      have HS1 := Lib.hid hs1
      clear hs1
      generalize hs2 : Sst.spot s m 2 = s2 at *
      have HS2 := Lib.hid hs2
      clear hs2
      generalize hs3 : Sst.spot s m 3 = s3 at *
      have HS3 := Lib.hid hs3
      clear hs3
      go_wp2
      obtain ⟨hs, hoth⟩ := set4 (.int .i64 (s0 : Nat)) (.int .i64 (s1 : Nat)) (.int .i64 (s2 : Nat)) (.int .i64 (s3 : Nat)) HR9.out
      have hbb := HB9.out.trans (hoth.below HB9.out.size (fun x hx => by cases hx; exact Nat.le_refl _))
      generalize World.setCell _ _ _ = W9 at *
      obtain ⟨q0, q1, q2, q3, _⟩ := cells4 hs
      exact bodyPost_ret (v := .agg #[.int .i64 (s0 : Nat), .int .i64 (s1 : Nat), .int .i64 (s2 : Nat), .int .i64 (s3 : Nat)]) (by simp [results, Try.results93, go_sem, q0, q1, q2, q3]) rfl ⟨by rw [HS0.out, HS1.out, HS2.out, HS3.out], hbb⟩
end Go.Proofs.Ytchdmjnhjonddaa
