/- Cold stripes: slices.DeleteFunc over shards. -/
import Derived.Test.YtfgifndpglgjkaaGreatDoorZCdAo
set_option linter.unusedVariables false
set_option linter.unusedSimpArgs false
set_option maxRecDepth 100000
set_option linter.unusedVariables false
set_option linter.unusedSimpArgs false
namespace Go.Proofs.YtfgifndpglgjkaaGreatDoor
open Go.RowKit

def Cd.sval (s : Cd.Shard) (a : Option Addr) (c : Nat) : Value := .agg #[.int .i64 s.node, .int .i64 s.index, .string (bstr s.name), .slice a s.bytes.length c]
/-- Is the shard with this index there? -/
def Cd.pd (ls : List (List UInt8)) (s : Cd.Shard) : Bool := decide (0 < (nth ls s.index).length)
set_option maxHeartbeats 1000000 in
theorem mend1_any (s : Cd.Shard) (a : Option Addr) (c g0 : Nat) (al : Option Addr) (nl cl : Nat) (ls : List (List UInt8)) (w : World) (hcell : w.cell? ⟨g0, 0, none⟩ = some (.slice al nl cl)) (hl : Bss w al nl cl ls) (hi : s.index < nl) (hnl : nl ≤ 1000) :
    Calls Tryz.prog 55 #[Cd.sval s a c, .pointer (some ⟨g0, 0, none⟩)] w fun e w' => e = .returned (.bool (Cd.pd ls s)) ∧ Below w.heap.size w w' := by
  obtain ⟨sn, si, sm, sb⟩ := s
  dsimp only at hi
  have hb0 := below_alloc1 w (.cells #[.int .i64 sn, .int .i64 si, .string (bstr sm), .slice a sb.length c] 51)
  have hg0 := heap_alloc_new w (.cells #[.int .i64 sn, .int .i64 si, .string (bstr sm), .slice a sb.length c] 51)
  have hc0 := cell_later hb0 hcell
  have hl0 := hl.below hb0
  obtain ⟨m, hm⟩ : ∃ m, m = (nth ls si).length := ⟨_, rfl⟩
  have HP : Hid (Cd.pd ls ⟨sn, si, sm, sb⟩ = decide (0 < m)) := Lib.hid (by rw [hm]; rfl)
  clear hcell hl
  unfold Cd.sval
  dsimp only
  go_enter Tryz.func55, Tryz.ntmps55
  go_upto_region 1 with fail
  generalize w.alloc (.cells #[.int .i64 sn, .int .i64 si, .string (bstr sm), .slice a sb.length c] 51) = w1 at *
  have HB := Lib.hid hb0
  have c1 : w1.cell? ⟨w.heap.size, 1, none⟩ = some (.int .i64 si) := (cell_of_row _ _ 1 _ _ _ hg0).trans rfl
  obtain ⟨b1, o1, ai, ni, ci, rfl, hc1, hbs⟩ := hl0.get hi
  obtain rfl : m = ni := by rw [hm]; exact hbs.1
  clear hb0 hg0 hl0 hbs hm
  by_cases hz : 0 < m
  · have t1 : decide ((0 : Int) < (m : Int)) = true := decide_eq_true (by omega)
    have t2 : decide (0 < m) = true := decide_eq_true hz
    go_wp2
    go_ret
    exact ⟨by rw [HP.out, t2]; rfl, HB.out⟩
  · have t1 : decide ((0 : Int) < (m : Int)) = false := decide_eq_false (by omega)
    have t2 : decide (0 < m) = false := decide_eq_false hz
    go_wp2
    go_ret
    exact ⟨by rw [HP.out, t2]; rfl, HB.out⟩
def IdxS (ls : List (List UInt8)) (l : List Cd.Shard) (n : Nat) (w : World) (e : Ending) (w' : World) : Prop :=
  ∃ r : Int, e = .returned (.int .i64 r) ∧ ((r = -1 ∧ ∀ i, i < n → Cd.pd ls (nth l i) = false) ∨ ∃ k : Nat, r = k ∧ k < n ∧ Cd.pd ls (nth l k) = true ∧ ∀ i, i < k → Cd.pd ls (nth l i) = false) ∧ Below w.heap.size w w'
set_option maxHeartbeats 4000000 in
theorem idxsh_any (g0 : Nat) (al : Option Addr) (nl cl : Nat) (ls : List (List UInt8)) (B : Nat) (a : Option Addr) (n c : Nat) (l : List Cd.Shard) (w : World) (hcell : w.cell? ⟨g0, 0, none⟩ = some (.slice al nl cl)) (hl : Bss w al nl cl ls) (h : AccB belS 51 w B a n c l) (hx : ∀ i, i < n → (nth l i).index < nl) (hn : n ≤ 1000) (hnl : nl ≤ 1000) :
    Calls Tryz.prog 89 #[.slice a n c, .func (.func 55) #[] #[.pointer (some ⟨g0, 0, none⟩)]] w (IdxS ls l n w) := by
  have HA := Lib.hid h
  have HX := Lib.hid hx
  have HM := Lib.hid fun W (k : Below w.heap.size w W) (s : Cd.Shard) (a : Option Addr) (c : Nat) (hi : s.index < nl) => mend1_any s a c g0 al nl cl ls W (cell_later k hcell) (hl.below k) hi hnl
  have hle := h.le
  clear h hx hcell hl
  go_enter Tryz.func89, Tryz.ntmps89
  go_wp2
  go_loopw [8] (fun i wr => ∃ k : Nat, k ≤ n ∧ i = .int .i64 k ∧ Hid (Below w.heap.size w wr) ∧ Hid (∀ j, j < k → Cd.pd ls (nth l j) = false)) (fun i _ => n - (intOf i).toNat)
  case atStart => exact ⟨0, by omega, rfl, Lib.hid (Below.refl _ _), Lib.hid (fun j hj => by omega)⟩
  case round =>
    obtain ⟨k, hk, rfl, HB, hall⟩ := hrel
    by_cases hlt : k < n
    · obtain ⟨b, off, ai, ci, rfl, hc, _⟩ := (HA.out.below HB.out).at hlt
      have c0 := hc 0 _ rfl
      have c1 := hc 1 _ rfl
      have c2 := hc 2 _ rfl
      have c3 := hc 3 _ rfl
      simp only [belS, Nat.add_zero, ← Nat.add_assoc] at c0 c1 c2 c3
      have HC := Lib.hid (HM.out wr HB.out (nth l k) ai ci (HX.out k hlt))
      have HY : Hid (Cd.pd ls (nth l k) = true → (∃ k' : Nat, (k : Int) = k' ∧ k' < n ∧ Cd.pd ls (nth l k') = true ∧ ∀ i, i < k' → Cd.pd ls (nth l i) = false)) := Lib.hid fun h => ⟨k, rfl, hlt, h, hall.out⟩
      have HN : Hid (Cd.pd ls (nth l k) = false → ∀ j, j < k + 1 → Cd.pd ls (nth l j) = false) := Lib.hid fun h j hj => by
        by_cases e : j = k
        · rw [e]; exact h
        · exact hall.out j (by omega)
      clear hc
      unfold Cd.sval at HC
      generalize Cd.pd ls (nth l k) = t at *
      generalize (nth l k).node = sn at *
      generalize (nth l k).index = si at *
      generalize (nth l k).name = sm at *
      generalize (nth l k).bytes = sb at *
      go_wp2_with fail
      refine HC.out.mono ?_
      rintro e w' ⟨rfl, hb'⟩
      have HB' := Lib.hid (HB.out.trans (hb'.mono HB.out.size))
      clear hb' HC c0 c1 c2 c3
      cases t with
      | true =>
        have HV := Lib.hid (HY.out rfl)
        clear HY HN
        go_wp2
        go_ret
        exact ⟨(k : Int), rfl, .inr HV.out, HB'.out⟩
      | false =>
        have HV := Lib.hid (HN.out rfl)
        clear HY HN
        go_wp2
        go_roundw
        case rel => exact ⟨k + 1, by omega, by go_num, HB', HV⟩
        case measure => simp [intOf]; omega
    · obtain rfl : k = n := by omega
      go_wp2
      go_ret
      exact ⟨-1, rfl, .inl ⟨rfl, hall.out⟩, HB.out⟩
theorem filt_none {ls : List (List UInt8)} {l : List Cd.Shard} (h : ∀ i, i < l.length → Cd.pd ls (nth l i) = false) : l.filter (fun s => !Cd.pd ls s) = l := by
  rw [List.filter_eq_self]
  intro x hx
  obtain ⟨i, hi, rfl⟩ := List.mem_iff_getElem.1 hx
  have := h i hi
  rw [nth_eq _ hi] at this
  rw [this]
  rfl
theorem take_next {l : List Cd.Shard} {j : Nat} (hj : j < l.length) : l.take (j + 1) = l.take j ++ [nth l j] := by
  rw [List.take_add_one, List.getElem?_eq_getElem hj, nth_eq _ hj]
  rfl
theorem filt_yes {ls : List (List UInt8)} {l : List Cd.Shard} {j : Nat} (hj : j < l.length) (h : Cd.pd ls (nth l j) = true) : (l.take (j + 1)).filter (fun s => !Cd.pd ls s) = (l.take j).filter (fun s => !Cd.pd ls s) := by
  rw [take_next hj, List.filter_append]
  simp [h]
theorem filt_no {ls : List (List UInt8)} {l : List Cd.Shard} {j : Nat} (hj : j < l.length) (h : Cd.pd ls (nth l j) = false) : (l.take (j + 1)).filter (fun s => !Cd.pd ls s) = (l.take j).filter (fun s => !Cd.pd ls s) ++ [nth l j] := by
  rw [take_next hj, List.filter_append]
  simp [h]
/-- A row whose front is what stays. -/
structure Cd.Half (ls : List (List UInt8)) (l L : List Cd.Shard) (i j : Nat) : Prop where
  len : L.length = l.length
  front : L.take i = (l.take j).filter (fun s => !Cd.pd ls s)
  back : ∀ t, j ≤ t → t < l.length → nth L t = nth l t
theorem Cd.Half.start {ls : List (List UInt8)} {l : List Cd.Shard} {k : Nat} (hk : k < l.length) (h1 : Cd.pd ls (nth l k) = true) (h2 : ∀ i, i < k → Cd.pd ls (nth l i) = false) : Cd.Half ls l l k (k + 1) := by
  refine ⟨rfl, ?_, fun _ _ _ => rfl⟩
  rw [filt_yes hk h1, filt_none]
  intro i hi
  rw [List.length_take] at hi
  rw [nth_eq _ (by rw [List.length_take]; exact hi), List.getElem_take, ← nth_eq _ (by omega)]
  exact h2 i (by omega)
theorem Cd.Half.skip {ls : List (List UInt8)} {l L : List Cd.Shard} {i j : Nat} (h : Cd.Half ls l L i j) (hj : j < l.length) (h1 : Cd.pd ls (nth l j) = true) : Cd.Half ls l L i (j + 1) :=
  ⟨h.len, by rw [h.front, filt_yes hj h1], fun t h2 h3 => h.back t (by omega) h3⟩
theorem Cd.Half.put {ls : List (List UInt8)} {l L : List Cd.Shard} {i j : Nat} (h : Cd.Half ls l L i j) (hi : i < j) (hj : j < l.length) (h1 : Cd.pd ls (nth l j) = false) : Cd.Half ls l (L.set i (nth l j)) (i + 1) (j + 1) := by
  have hl := h.len
  refine ⟨by rw [List.length_set, hl], ?_, fun t h2 h3 => ?_⟩
  · rw [filt_no hj h1, ← h.front, List.take_add_one, List.take_set_of_le (Nat.le_refl _), List.getElem?_set_self (by omega)]
    rfl
  · rw [← h.back t (by omega) h3, nth_set (by omega) (by omega), if_neg (by omega)]
def DelS (ls : List (List UInt8)) (l : List Cd.Shard) (B : Nat) (w : World) (e : Ending) (w' : World) : Prop :=
  ∃ a m c, e = .returned (.slice a m c) ∧ AccB belS 51 w' B a m c (l.filter (fun s => !Cd.pd ls s)) ∧ Below B w w'
theorem clear_cells (w : World) (g o k c : Nat) (hk : 0 < k) (hc : ∀ j, j < k * 4 → (w.cell? ⟨g, o + j, none⟩).isSome = true) (hf : ∀ j, w.frozen? ⟨g, j, none⟩ = false) :
    ∃ vs, ∀ ty, (Builtin.clear_ #[40] ty #[.slice (some ⟨g, o, none⟩) k c]).run Tryz.prog w = .ok (.tuple #[]) (w.setCells g o vs) := by
  obtain ⟨i0, hi0, hz0, hz1, hz2⟩ := info_parts infoS
  have hv : ∀ w, (zeroValue 51).run Tryz.prog w = .ok (.agg #[.int .i64 0, .int .i64 0, .string ByteArray.empty, .slice none 0 0]) w := fun w => by
    simp [zeroValue, typeInfo, hi0, hz0]
  have hzl : (Builtin.zeroCells (Value.agg #[.int .i64 0, .int .i64 0, .string ByteArray.empty, .slice none 0 0]).cells k).size = k * 4 := by
    simp [Builtin.zeroCells, Value.cells]
  have hz1' : ∀ v ∈ (Builtin.zeroCells (Value.agg #[.int .i64 0, .int .i64 0, .string ByteArray.empty, .slice none 0 0]).cells k).toList, v.oneCell' = true := by
    intro v hv
    simp only [Builtin.zeroCells, Value.cells, Array.toList_map, List.mem_map] at hv
    obtain ⟨i, _, rfl⟩ := hv
    have h4 : i % 4 = 0 ∨ i % 4 = 1 ∨ i % 4 = 2 ∨ i % 4 = 3 := by omega
    rcases h4 with h | h | h | h
    · simp [h]; rfl
    · simp [h]; rfl
    · simp [h]; rfl
    · simp [h]; rfl
  have hst := Go.run_storeCells_cells (P := Tryz.prog) g o (Builtin.zeroCells (Value.agg #[.int .i64 0, .int .i64 0, .string ByteArray.empty, .slice none 0 0]).cells k).toList 0 w (by simpa [hzl] using hc) (by intro j _; exact hf _) hz1'
  simp only [Nat.add_zero] at hst
  obtain ⟨k', rfl⟩ : ∃ k', k = k' + 1 := ⟨k - 1, by omega⟩
  refine ⟨(Builtin.zeroCells (Value.agg #[.int .i64 0, .int .i64 0, .string ByteArray.empty, .slice none 0 0]).cells (k' + 1)).toList, fun ty => ?_⟩
  simp [Builtin.clear_, run_underlying Tryz.underlying40, hv, hst]
set_option maxHeartbeats 8000000 in
theorem delsh_any (g0 : Nat) (al : Option Addr) (nl cl : Nat) (ls : List (List UInt8)) (w0 : World) (B : Nat) (a : Option Addr) (n c : Nat) (l : List Cd.Shard) (w : World) (h0c : w0.cell? ⟨g0, 0, none⟩ = some (.slice al nl cl)) (h0 : Bss w0 al nl cl ls) (hw0 : Below w0.heap.size w0 w) (hB0 : w0.heap.size ≤ B) (hB : B ≤ w.heap.size) (h : AccB belS 51 w B a n c l) (hx : ∀ i, i < n → (nth l i).index < nl) (hn : n ≤ 1000) (hnl : nl ≤ 1000) :
    Calls Tryz.prog 54 #[.slice a n c, .func (.func 55) #[] #[.pointer (some ⟨g0, 0, none⟩)]] w (DelS ls l B w) := by
  have HI := Lib.hid (idxsh_any g0 al nl cl ls B a n c l w (cell_later hw0 h0c) (h0.below hw0) h hx hn hnl)
  have HA := Lib.hid h
  have HX := Lib.hid hx
  have HLN := Lib.hid h.len
  have HM := Lib.hid fun W (k : Below w0.heap.size w0 W) (s : Cd.Shard) (a : Option Addr) (c : Nat) (hi : s.index < nl) => mend1_any s a c g0 al nl cl ls W (cell_later k h0c) (h0.below k) hi hnl
  have HW := Lib.hid hw0
  have hle := h.le
  clear h hx h0c h0 hw0
  go_enter Tryz.func54, Tryz.ntmps54
  go_wp2_with fail
  refine HI.out.mono ?_
  rintro e w1 ⟨r, rfl, hr, hb1⟩
  have HB1 := Lib.hid (hb1.mono hB)
  have HA1 := Lib.hid (HA.out.below hb1)
  clear hb1 HI HA
  rcases hr with ⟨rfl, hall⟩ | ⟨k, rfl, hk, hpk, hlo⟩
  · have HF : Hid (l.filter (fun s => !Cd.pd ls s) = l) := Lib.hid (filt_none (by rw [HLN.out]; exact hall))
    clear hall
    go_wp2
    go_ret
    exact ⟨a, n, c, rfl, by rw [HF.out]; exact HA1.out, HB1.out⟩
  have t1 : ((k : Int) == -1) = false := by rw [beq_eq_false_iff_ne]; omega
  obtain ⟨g, rfl, hgB, _⟩ := HA1.out.at0 (by omega)
  have HST := Lib.hid (Cd.Half.start (by rw [HLN.out]; exact hk) hpk hlo)
  clear hpk hlo
  go_wp2_with fail
  go_loopw [5, 6] (fun iv jv wr => ∃ (i j : Nat) (L : List Cd.Shard), i < j ∧ j ≤ n ∧ iv = .int .i64 i ∧ jv = .int .i64 j ∧ Hid (Cd.Half ls l L i j) ∧ Hid (AccB belS 51 wr B (some ⟨g, 0, none⟩) n c L) ∧ Hid (Below B w wr)) (fun _ jv _ => n - (intOf jv).toNat)
  case atStart => exact ⟨k, k + 1, l, by omega, by omega, rfl, by go_num, HST, HA1, HB1⟩
  case round =>
    obtain ⟨i, j, L, hij, hj, rfl, rfl, HH, HA, HB⟩ := hrel
    by_cases hlt : j < n
    · have t2 : decide ((j : Int) < (n : Int)) = true := decide_eq_true (by omega)
      have t3 : decide (j < n) = true := decide_eq_true hlt
      have hin : i < n := by omega
      obtain ⟨g', eg, _, hat⟩ := HA.out.at0 (by omega)
      cases eg
      obtain ⟨aj, cj, hcj, hoj⟩ := hat j hlt
      rw [HH.out.back j (Nat.le_refl _) (by rw [HLN.out]; exact hlt)] at hcj hoj
      have HMJ := Lib.hid fun W (k : Below B w W) => HM.out W (HW.out.trans (k.mono hB0)) (nth l j) aj cj (HX.out j hlt)
      have HOJ := Lib.hid hoj
      have c0 := hcj 0 _ rfl
      have c1 := hcj 1 _ rfl
      have c2 := hcj 2 _ rfl
      have c3 := hcj 3 _ rfl
      have HSK : Hid (Cd.pd ls (nth l j) = true → Cd.Half ls l L i (j + 1)) := Lib.hid fun h => HH.out.skip (by rw [HLN.out]; exact hlt) h
      have HPU : Hid (Cd.pd ls (nth l j) = false → Cd.Half ls l (L.set i (nth l j)) (i + 1) (j + 1)) := Lib.hid fun h => HH.out.put hij (by rw [HLN.out]; exact hlt) h
      clear hat hcj hoj HH
      unfold Cd.sval at HMJ
      generalize Cd.pd ls (nth l j) = t at *
      generalize nth l j = s at *
      obtain ⟨sn, si, sm, sb⟩ := s
      simp only [belS, Nat.add_zero] at c0 c1 c2 c3 HMJ HOJ
      go_upto_region 8 with fail
      have hb5 := below_alloc1 wr (.cells #[.int .i64 sn, .int .i64 si, .string (bstr sm), .slice aj sb.length cj] 51)
      have hg5 := heap_alloc_new wr (.cells #[.int .i64 sn, .int .i64 si, .string (bstr sm), .slice aj sb.length cj] 51)
      generalize wr.alloc (.cells #[.int .i64 sn, .int .i64 si, .string (bstr sm), .slice aj sb.length cj] 51) = w5 at *
      have HA5 := Lib.hid (HA.out.below hb5)
      have HO5 := Lib.hid (own_below HOJ.out hb5)
      have HB5 := Lib.hid (HB.out.trans (hb5.mono (Nat.le_trans hB HB.out.size)))
      generalize wr.heap.size = g5 at *
      obtain ⟨d0, d1, d2, d3⟩ := cells4 hg5
      clear hb5 c0 c1 c2 c3 HA HOJ HB
      go_wp2_with fail
      refine (HMJ.out w5 HB5.out).mono ?_
      rintro e w6 ⟨rfl, hb6⟩
      have HA6 := Lib.hid (HA5.out.below hb6)
      have HO6 := Lib.hid (own_below HO5.out hb6)
      have HB6 := Lib.hid (HB5.out.trans (hb6.mono (Nat.le_trans hB HB5.out.size)))
      have e0 := cell_later hb6 d0
      have e1 := cell_later hb6 d1
      have e2 := cell_later hb6 d2
      have e3 := cell_later hb6 d3
      clear d0 d1 d2 d3 hb6 hg5 HA5 HO5 HB5 HMJ
      cases t with
      | true =>
        have HV := Lib.hid (HSK.out rfl)
        clear HSK HPU
        dsimp only [Bool.not_true]
        go_wp2
        go_roundw
        case rel => exact ⟨i, j + 1, L, by omega, by omega, rfl, by go_num, HV, HA6, HB6⟩
        case measure => simp [intOf]; omega
      | false =>
        have HV := Lib.hid (HPU.out rfl)
        clear HSK HPU
        dsimp only [Bool.not_false]
        obtain ⟨g'', eg, _, hat⟩ := HA6.out.at0 (by omega)
        cases eg
        obtain ⟨ai, ci, hci, _⟩ := hat i hin
        have f0 := hci 0 _ rfl
        have f1 := hci 1 _ rfl
        have f2 := hci 2 _ rfl
        have f3 := hci 3 _ rfl
        simp only [belS, Nat.add_zero] at f0 f1 f2 f3
        have hfz : ∀ q, w6.frozen? ⟨g, q, none⟩ = false := by
          obtain ⟨cs, h1, _⟩ := HA6.out.row
          exact (own_spare h1).2
        have HS := Lib.hid (HA6.out.setS (by decide) hin ⟨sn, si, sm, sb⟩ aj cj HO6.out)
        have HSB : Hid (Below B w (Cd.putS w6 g i ⟨sn, si, sm, sb⟩ aj cj)) := Lib.hid (HB6.out.trans ((putS_oth w6 g i ⟨sn, si, sm, sb⟩ aj cj).below (Nat.le_trans hB HB6.out.size) (fun x hx => by cases hx; exact hgB)))
        clear hat hci
        go_upto_region 10 with fail
        unfold Cd.putS at HS HSB
        dsimp only at HS HSB
        generalize World.setCell _ _ _ = w7 at *
        clear f0 f1 f2 f3 hfz e0 e1 e2 e3
        go_wp2
        go_roundw
        case rel => exact ⟨i + 1, j + 1, _, by omega, by omega, by go_num, by go_num, HV, HS, HSB⟩
        case measure => simp [intOf]; omega
    · obtain rfl : j = n := by omega
      have t2 : decide ((j : Int) < (j : Int)) = false := decide_eq_false (by omega)
      have t3 : decide (j < j) = false := decide_eq_false (by omega)
      obtain ⟨i0, hi0, hz0, hz1, hz2⟩ := info_parts infoS
      have hsp : (∀ q, q < c * 4 → (wr.cell? ⟨g, q, none⟩).isSome = true) ∧ ∀ q, wr.frozen? ⟨g, q, none⟩ = false := by
        obtain ⟨cs, h1, _⟩ := HA.out.row
        exact own_spare h1
      obtain ⟨vs, hcl⟩ := clear_cells wr g (i * 4) (j - i) (c - i) (by omega) (fun q hq => hsp.1 _ (by omega)) hsp.2
      obtain ⟨k1, hk1⟩ : ∃ k1, k1 = j - i := ⟨_, rfl⟩
      obtain ⟨k2, hk2⟩ : ∃ k2, k2 = c - i := ⟨_, rfl⟩
      have s1 : ∀ W, (Instr.slice 40 (.slice (some ⟨g, 0, none⟩) j c) (some (.int .i64 (i : Int))) none none).run Tryz.prog W = .ok (.slice (some ⟨g, i * 4, none⟩) k1 k2) W := fun W => by
        rw [hk1, hk2]
        have h9 := run_slice_l (P := Tryz.prog) Tryz.underlying40 hi0 hz1 (some ⟨g, 0, none⟩) j c (lo' := i) rfl (by omega) W
        unfold subAn at h9
        rw [if_neg (by omega)] at h9
        simpa [Addr.add_lit] using h9
      have s2 : ∀ W, (Instr.slice 40 (.slice (some ⟨g, 0, none⟩) j c) none (some (.int .i64 (i : Int))) none).run Tryz.prog W = .ok (.slice (some ⟨g, 0, none⟩) i c) W := fun W => run_slice_h Tryz.underlying40 hi0 hz1 _ j c rfl (by omega) W
      rw [← hk1, ← hk2] at hcl
      have hfr : AccB belS 51 (wr.setCells g (i * 4) vs) B (some ⟨g, 0, none⟩) i c (L.take i) := (HA.out.front (by omega)).setCells (by decide) vs (by show i * 4 ≤ i * 4; omega)
      have hlt' : L.take i = l.filter (fun s => !Cd.pd ls s) := by rw [HH.out.front, ← HLN.out, List.take_length]
      rw [hlt'] at hfr
      have HFR := Lib.hid hfr
      have HBF := Lib.hid (HB.out.trans ((oth_setCells vs (i * 4) wr (Oth.refl _ _)).below (Nat.le_trans hB HB.out.size) (fun x hx => by cases hx; exact hgB)))
      clear hsp hi0 hz0 hz1 hz2 hk1 hk2 hfr hlt'
      go_wp2
      go_ret
      exact ⟨_, _, _, rfl, HFR.out, HBF.out⟩
end Go.Proofs.YtfgifndpglgjkaaGreatDoor
