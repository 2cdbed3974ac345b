/- Sorted tables: filters. -/
import Derived.Test.YtchdmjnhjonddaaSbF
import Derived.BigQuiet
set_option maxRecDepth 100000
set_option linter.unusedVariables false
set_option linter.unusedSimpArgs false
namespace Go.Proofs.Ytchdmjnhjonddaa
open Go.RowKit

/-! Plain. -/
def Sst.put (b : List UInt8) (p : Nat) : List UInt8 := b.set (p / 8) (nth b (p / 8) ||| UInt8.ofNat (2 ^ (p % 8)))
def Sst.puts (b : List UInt8) (s : List UInt8) (m : Nat) : Nat → List UInt8
  | 0 => b
  | k + 1 => Sst.put (Sst.puts b s m k) (Sst.spot s m k)
theorem put_len (b : List UInt8) (p : Nat) : (Sst.put b p).length = b.length := by unfold Sst.put; rw [List.length_set]
theorem puts_len (b s : List UInt8) (m : Nat) : ∀ k, (Sst.puts b s m k).length = b.length
  | 0 => rfl
  | k + 1 => by rw [Sst.puts, put_len, puts_len b s m k]
def Sst.runs (l : List Ent) : Nat → Nat
  | 0 => 0
  | k + 1 => Sst.runs l k + if k = 0 ∨ (nth l k).key ≠ (nth l (k - 1)).key then 1 else 0
theorem runs_le (l : List Ent) : ∀ k, Sst.runs l k ≤ k
  | 0 => Nat.le_refl _
  | k + 1 => by have := runs_le l k; unfold Sst.runs; split <;> omega
def Sst.mb (n : Nat) : Nat := max 8 ((10 * n + 7) / 8)
def Sst.fill (l : List Ent) (mb : Nat) : Nat → List UInt8
  | 0 => List.replicate mb 0
  | i + 1 => Sst.puts (Sst.fill l mb i) (nth l i).key (8 * mb) 4
theorem fill_len (l : List Ent) (mb : Nat) : ∀ i, (Sst.fill l mb i).length = mb
  | 0 => by simp [Sst.fill]
  | i + 1 => by rw [Sst.fill, puts_len, fill_len l mb i]
def Sst.filter (l : List Ent) : List UInt8 := Sst.fill l (Sst.mb (Sst.runs l l.length)) l.length
theorem filter_len (l : List Ent) (h : l.length ≤ 1000) : (Sst.filter l).length ≤ 1300 := by
  unfold Sst.filter
  rw [fill_len]
  have := runs_le l l.length
  unfold Sst.mb
  omega
theorem madeCells_vs (n : Nat) : (madeCells #[.int .u8 0] n).toList = vs (List.replicate n 0) := by
  apply List.ext_getElem?
  intro i
  by_cases h : i < n
  · simp [madeCells, vs, h, Nat.mod_one]; rfl
  · rw [List.getElem?_eq_none (by simp [madeCells]; omega), List.getElem?_eq_none (by simp [vs]; omega)]
theorem made_own (w : World) (n : Nat) (hn : n ≤ maxLen) : Own (w.alloc (.cells (madeCells #[.int .u8 0] n) 5)) w.heap.size (some ⟨w.heap.size, 0, none⟩) n n (List.replicate n 0) :=
  ⟨by simp [vs], .inr ⟨w.heap.size, n, _, rfl, Nat.le_refl _, heap_alloc_new w _, Nat.le_refl _, hn, by rw [size_madeCells, Nat.mul_one], by rw [madeCells_vs, List.take_of_length_le (by simp [vs])]⟩⟩
theorem Own.put {w : World} {B g n c j : Nat} {l : List UInt8} {y : UInt8} (h : Own w B (some ⟨g, 0, none⟩) n c l) : Own (w.setCell ⟨g, j, none⟩ (.int .u8 (n8 y))) B (some ⟨g, 0, none⟩) n c (l.set j y) := by
  have hs := (World.ownsRow.stored h j (.int .u8 (n8 y))).1
  have e : (vs l).set j (.int .u8 (n8 y)) = vs (l.set j y) := by simp only [vs, List.map_set]
  rw [e] at hs
  exact hs
theorem bit_or (y : UInt8) (r : Nat) : bits .or .u8 (n8 y) ((2 : Int) ^ r % 256) = n8 (y ||| UInt8.ofNat (2 ^ r)) := by
  have e : (2 : Int) ^ r % 256 = n8 (UInt8.ofNat (2 ^ r)) := by
    unfold n8
    rw [UInt8.toNat_ofNat']
    simp
  rw [e, or8]
/-- A byte of a row of the call's own: it is read, it may be stored. -/
theorem Own.spot {w : World} {B g n c j : Nat} {l : List UInt8} (h : Own w B (some ⟨g, 0, none⟩) n c l) (hj : j < n) : w.cell? ⟨g, j, none⟩ = some (.int .u8 (n8 (nth l j))) ∧ w.frozen? ⟨g, j, none⟩ = false := by
  have hn := h.bs.1
  refine ⟨?_, World.ownsRow.frozenAt h j⟩
  rw [World.ownsRow.cellAt h j (by omega), vs, List.getElem?_map, List.getElem?_eq_getElem (by omega), nth_eq l (k := j) (by omega)]
  rfl
set_option maxHeartbeats 1000000 in
theorem bits_any (n : Nat) (w : World) (hn : n ≤ 1000000) :
    Calls Try.prog 92 #[.int .i64 n] w fun e w' => e = .returned (.int .i64 ((8 * Sst.mb n : Nat))) ∧ w = w' := by
  have HMB : Hid (Sst.mb n = max 8 ((10 * n + 7) / 8)) := Lib.hid rfl
  generalize Sst.mb n = M at *
  go_enter Try.func92, Try.ntmps92
  go_wp2_with fail
  go_loop [3] (fun v => ∃ m : Nat, v = .int .i64 m ∧ 10 * n ≤ m ∧ m ≤ 8 * ((10 * n + 7) / 8)) (fun v => 20000000 - (intOf v).toNat)
  case atStart => exact ⟨10 * n, by simp, Nat.le_refl _, by omega⟩
  case round =>
    obtain ⟨m, rfl, h1, h2⟩ := hrel
    have hmb : m ≤ 10000008 := by omega
    obtain ⟨r, hr⟩ : ∃ r, r = m % 8 := ⟨_, rfl⟩
    have er : (m : Int) % 8 = (r : Int) := by omega
    by_cases h0 : r = 0
    · have HM : Hid (m = 8 * ((10 * n + 7) / 8)) := Lib.hid (by omega)
      have t1 : ((r : Int) != 0) = false := by simp; omega
      clear h0 hr h2
      by_cases h3 : m < 64
      · have t2 : decide ((m : Int) < 64) = true := decide_eq_true (by omega)
        have t2' : decide (m < 64) = true := decide_eq_true h3
        go_wp2
        go_ret
        obtain rfl : M = 8 := by have := HM.out; have := HMB.out; omega
        exact ⟨rfl, rfl⟩
      · have t2 : decide ((m : Int) < 64) = false := decide_eq_false (by omega)
        have t2' : decide (m < 64) = false := decide_eq_false h3
        go_wp2
        go_ret
        obtain rfl : m = 8 * M := by have := HM.out; have := HMB.out; omega
        exact ⟨rfl, rfl⟩
    · have t1 : ((r : Int) != 0) = true := by simp; omega
      have h4 : m + 1 ≤ 8 * ((10 * n + 7) / 8) := by omega
      clear hr
      go_wp2
      go_round
      case rel => exact ⟨m + 1, by go_num, by omega, h4⟩
      case measure => simp [intOf]; omega
@[go_sem] theorem idx0 (s0 s1 s2 s3 : Int) (w : World) : (Instr.index 127 (.agg #[.int .u64 s0, .int .u64 s1, .int .u64 s2, .int .u64 s3]) (.int .i64 0)).run Try.prog w = .ok (.int .u64 s0) w := by kernel_rfl
@[go_sem] theorem idx1 (s0 s1 s2 s3 : Int) (w : World) : (Instr.index 127 (.agg #[.int .u64 s0, .int .u64 s1, .int .u64 s2, .int .u64 s3]) (.int .i64 1)).run Try.prog w = .ok (.int .u64 s1) w := by kernel_rfl
@[go_sem] theorem idx2 (s0 s1 s2 s3 : Int) (w : World) : (Instr.index 127 (.agg #[.int .u64 s0, .int .u64 s1, .int .u64 s2, .int .u64 s3]) (.int .i64 2)).run Try.prog w = .ok (.int .u64 s2) w := by kernel_rfl
@[go_sem] theorem idx3 (s0 s1 s2 s3 : Int) (w : World) : (Instr.index 127 (.agg #[.int .u64 s0, .int .u64 s1, .int .u64 s2, .int .u64 s3]) (.int .i64 3)).run Try.prog w = .ok (.int .u64 s3) w := by kernel_rfl
set_option maxHeartbeats 8000000 in
theorem sfilter_any (a : Option Addr) (n c : Nat) (l : List Ent) (w : World) (h : Es w a n c l) (hk : ∀ e ∈ l, e.key.length ≤ 1000000) (hn : n ≤ 1000) :
    Calls Try.prog 38 #[.slice a n c] w (RetB w w.heap.size (Sst.filter l)) := by
  have hle := h.le.1
  have HN := Lib.hid h.1
  have HL := Lib.hid h
  have HK := Lib.hid hk
  have HRL := Lib.hid (runs_le l)
  have HRS : Hid (∀ k, Sst.runs l (k + 1) = Sst.runs l k + if k = 0 ∨ (nth l k).key ≠ (nth l (k - 1)).key then 1 else 0) := Lib.hid (fun k => rfl)
  have HFI : Hid (Sst.filter l = Sst.fill l (Sst.mb (Sst.runs l n)) n) := Lib.hid (by unfold Sst.filter; rw [HN.out])
  have HMB : Hid (∀ k, Sst.mb k = max 8 ((10 * k + 7) / 8)) := Lib.hid (fun k => rfl)
  clear h hk
  go_enter Try.func38, Try.ntmps38
  go_wp2_with fail
  go_loopw [3, 12] (fun sv iv wr => ∃ i : Nat, i ≤ n ∧ iv = .int .i64 i ∧ sv = .int .i64 (Sst.runs l i : Nat) ∧ Hid (Below w.heap.size w wr)) (fun _ iv _ => n - (intOf iv).toNat)
  case atStart => exact ⟨0, Nat.zero_le _, rfl, rfl, Lib.hid (Below.refl _ _)⟩
  case round =>
    obtain ⟨i, hi, rfl, rfl, HB⟩ := hrel
    have hrl := HRL.out i
    by_cases hlt : i < n
    · have ht : decide (i < n) = true := decide_eq_true hlt
      have HR := Lib.hid (HRS.out i)
      by_cases h0 : i = 0
      · subst h0
        have HR2 : Hid (Sst.runs l (0 + 1) = Sst.runs l 0 + 1) := Lib.hid (by rw [HR.out, if_pos (.inl rfl)])
        generalize Sst.runs l 0 = r at *
        go_wp2_with fail
        refine wp_region_class (w0 := wr) (by kernel_rfl) (by kernel_rfl) (Below.refl _ _) ?_
        repeat (first | go_big_quiet_step (fail))
        refine wpQuiet_nil ?_
        intro w1 hb1; replace hb1 := BW.of hb1
        have HB1 := Lib.hid (HB.out.trans (hb1.mono HB.out.size))
        clear hb1
        go_wp2
        go_roundw
        case rel => exact ⟨1, by omega, by go_num, by rw [show (1 : Nat) = 0 + 1 from rfl, HR2.out]; go_num, HB1⟩
        case measure => simp [intOf]; omega
      · obtain ⟨k, rfl⟩ : ∃ k, i = k + 1 := ⟨i - 1, by omega⟩
        obtain ⟨b1, o1, a1, d1, ea, he1, _⟩ := (HL.out.below HB.out).vals (i := k + 1) hlt
        obtain ⟨b2, o2, a2, d2, eb, he2, _⟩ := (HL.out.below HB.out).vals (i := k) (by omega)
        subst ea
        cases eb
        have p1 := BW.cell he1.key
        have p2 := BW.cell he2.key
        have tz : ((((k + 1 : Nat) : Int)) == 0) = false := by rw [beq_eq_false_iff_ne]; omega
        have tz' : (((k : Int) + 1) == 0) = false := by rw [beq_eq_false_iff_ne]; omega
        clear he1 he2 h0
        have HR3 : Hid (Sst.runs l (k + 1 + 1) = Sst.runs l (k + 1) + if (nth l (k + 1)).key ≠ (nth l k).key then 1 else 0) := Lib.hid (by rw [HR.out]; simp)
        generalize (nth l (k + 1)).key = x at *
        generalize (nth l k).key = y at *
        generalize Sst.runs l (k + 1) = r at *
        by_cases hxy : x = y
        · have HR2 : Hid (Sst.runs l (k + 1 + 1) = r) := Lib.hid (by rw [HR3.out, if_neg (by simp [hxy])]; rfl)
          have t1 : ((bstr x).toList == (bstr y).toList) = true := by rw [bstr_beq]; exact decide_eq_true hxy
          have t1' : decide (x = y) = true := decide_eq_true hxy
          clear hxy
          go_wp2_with fail
          refine wp_region_class (w0 := wr) (by kernel_rfl) (by kernel_rfl) (Below.refl _ _) ?_
          repeat (first | go_big_quiet_step (fail))
          refine wpQuiet_nil ?_
          intro w1 hb1; replace hb1 := BW.of hb1
          have HB1 := Lib.hid (HB.out.trans (hb1.mono HB.out.size))
          clear hb1 p1 p2
          go_wp2
          go_roundw
          case rel => exact ⟨k + 1 + 1, by omega, by go_num, by rw [HR2.out], HB1⟩
          case measure => simp [intOf]; omega
        · have HR2 : Hid (Sst.runs l (k + 1 + 1) = r + 1) := Lib.hid (by rw [HR3.out, if_pos hxy])
          have t1 : ((bstr x).toList == (bstr y).toList) = false := by rw [bstr_beq]; exact decide_eq_false hxy
          have t1' : decide (x = y) = false := decide_eq_false hxy
          clear hxy
          go_wp2_with fail
          refine wp_region_class (w0 := wr) (by kernel_rfl) (by kernel_rfl) (Below.refl _ _) ?_
          repeat (first | go_big_quiet_step (fail))
          refine wpQuiet_nil ?_
          intro w1 hb1; replace hb1 := BW.of hb1
          have HB1 := Lib.hid (HB.out.trans (hb1.mono HB.out.size))
          clear hb1 p1 p2
          go_wp2
          go_roundw
          case rel => exact ⟨k + 1 + 1, by omega, by go_num, by rw [HR2.out]; go_num, HB1⟩
          case measure => simp [intOf]; omega
    · obtain rfl : n = i := by omega
      generalize hr : Sst.runs l n = r at *
      have HM := Lib.hid (HMB.out r)
      generalize hm : Sst.mb r = M at *
      have HRM : Hid (Sst.mb (Sst.runs l n) = M) := Lib.hid (by rw [hr, hm])
      have hM8 : 8 ≤ M ∧ M ≤ 1300 := by have := HM.out; omega
      obtain ⟨q, hq⟩ : ∃ q, q = (10 * r + 7) / 8 := ⟨_, rfl⟩
      have eq1 : (10 * (r : Int) + 7) / 8 = (q : Int) := by omega
      have HMQ : Hid (M = max 8 q) := Lib.hid (by rw [HM.out, hq])
      have hmk := run_make_row' (P := Try.prog) 55 5 (.int .u8 0) 1 Try.underlying55 info8 rfl .i64 .i64 M (by omega) (by omega)
      clear hq hr hm
      go_upto_region 8 with fail
      go_cut [5] (fun v wx => v = .slice (some ⟨wr.heap.size, 0, none⟩) M M ∧ wx = wr.alloc (.cells (madeCells #[.int .u8 0] M) 5))
      case first =>
        by_cases hq8 : (q : Int) ≤ 8
        · have hmk8 : ∀ w : World, (Instr.makeSlice 55 (.int .i64 8) (.int .i64 8)).run Try.prog w = .ok (.slice (some ⟨w.heap.size, 0, none⟩) 8 8) (w.alloc (.cells (madeCells #[.int .u8 0] 8) 5)) := fun w => run_make_row' (P := Try.prog) 55 5 (.int .u8 0) 1 Try.underlying55 info8 rfl .i64 .i64 8 (by omega) (by omega) w
          obtain rfl : M = 8 := by have := HMQ.out; omega
          go_wp2
          go_meet
          exact ⟨rfl, rfl⟩
        · obtain rfl : M = q := by have := HMQ.out; omega
          go_wp2
          go_meet
          exact ⟨rfl, rfl⟩
      case rest =>
      obtain ⟨rfl, hwx⟩ := hcut
      have ho := made_own wr M (by simp only [maxLen]; omega)
      have hb2 := HB.out.trans ((below_alloc1 wr (.cells (madeCells #[.int .u8 0] M) 5)).mono HB.out.size)
      rw [← hwx] at ho hb2
      have hgz : w.heap.size ≤ wr.heap.size := HB.out.size
      have HO0 : Hid (Own wc w.heap.size (some ⟨wr.heap.size, 0, none⟩) M M (Sst.fill l M 0)) := Lib.hid (ho.mono HB.out.size)
      have HB0 := Lib.hid hb2
      clear hmk eq1 hwx ho hb2 HMQ HM
      generalize wr.heap.size = g at *
      clear HB
      go_wp2_with fail
      go_loopw [42] (fun iv wr => ∃ i : Nat, i ≤ n ∧ iv = .int .i64 i ∧ Hid (Own wr w.heap.size (some ⟨g, 0, none⟩) M M (Sst.fill l M i)) ∧ Hid (Below w.heap.size w wr)) (fun iv _ => n - (intOf iv).toNat)
      case atStart => exact ⟨0, Nat.zero_le _, rfl, HO0, HB0⟩
      case round =>
        obtain ⟨i, hi2, rfl, HO, HB⟩ := hrel
        clear HO0 HB0
        by_cases hlt2 : i < n
        case neg =>
          obtain rfl : n = i := by omega
          go_wp2
          go_ret
          exact ⟨_, _, _, rfl, by rw [HFI.out]; exact HO.out, HB.out⟩
        have ht2 : decide (i < n) = true := decide_eq_true hlt2
        obtain ⟨b, off, ae, ce, rfl, he, hv⟩ := (HL.out.below HB.out).vals (i := i) hlt2
        have HKL : Hid ((nth l i).key.length ≤ 1000000) := Lib.hid (by rw [nth_eq l (by rw [HN.out]; exact hlt2)]; exact HK.out _ (List.getElem_mem _))
        have HFS : Hid (Sst.fill l M (i + 1) = Sst.puts (Sst.fill l M i) (nth l i).key (8 * M) 4) := Lib.hid rfl
        have p0 := he.key
        have p1 := he.seq
        have p2 := he.gone
        have p3 := he.val
        have HFL := Lib.hid (fill_len l M i)
        clear he hv
        generalize Sst.fill l M i = f0 at *
        generalize nth l i = x at *
        obtain ⟨xk, xs, xg, xv⟩ := x
        dsimp only at *
        have hxk := HKL.out
        have HPL := Lib.hid (fun W : World => places_any xk (8 * M) W (by omega) (by omega) (by omega))
        have HSL : Hid (∀ j, Sst.spot xk (8 * M) j < 8 * M) := Lib.hid (fun j => Nat.mod_lt _ (by omega))
        have HPS : Hid (∀ k, Sst.puts f0 xk (8 * M) (k + 1) = Sst.put (Sst.puts f0 xk (8 * M) k) (Sst.spot xk (8 * M) k)) := Lib.hid (fun k => rfl)
        have HPZ : Hid (Sst.puts f0 xk (8 * M) 0 = f0) := Lib.hid rfl
        have HPN : Hid (∀ k, (Sst.puts f0 xk (8 * M) k).length = M) := Lib.hid (fun k => by rw [puts_len, HFL.out])
        have HPU : Hid (∀ y p, Sst.put y p = y.set (p / 8) (nth y (p / 8) ||| UInt8.ofNat (2 ^ (p % 8)))) := Lib.hid (fun y p => rfl)
        generalize Sst.puts f0 xk (8 * M) = ps at *
        have e8 : ((8 * M : Nat) : Int) = 8 * (M : Int) := by omega
        rw [e8] at HPL
        clear e8
        go_wp2_with fail
        refine (HPL.out _).mono ?_
        rintro e w3 ⟨rfl, hb3⟩
        have HB3 := Lib.hid (HB.out.trans ((below_alloc1 wr _).trans (hb3.mono (le_alloc (Nat.le_refl _))) |>.mono HB.out.size))
        have HO3 : Hid (Own w3 w.heap.size (some ⟨g, 0, none⟩) M M (ps 0)) := Lib.hid (by rw [HPZ.out]; exact HO.out.below ((below_alloc1 wr _).trans (hb3.mono (le_alloc (Nat.le_refl _)))))
        clear hb3 p0 p1 p2 p3
        generalize Sst.spot xk (8 * M) = sp at *
        go_wp2_with fail
        go_loopw [53] (fun kv wr => ∃ k : Nat, k ≤ 4 ∧ kv = .int .i64 k ∧ Hid (Own wr w.heap.size (some ⟨g, 0, none⟩) M M (ps k)) ∧ Hid (Below w.heap.size w wr)) (fun kv _ => 4 - (intOf kv).toNat)
        case atStart => exact ⟨0, Nat.zero_le _, rfl, HO3, HB3⟩
        case round =>
          obtain ⟨k, hk4, rfl, HO4, HB4⟩ := hrel
          by_cases hlt4 : k < 4
          case neg =>
            obtain rfl : k = 4 := by omega
            go_wp2
            go_roundw
            case rel => exact ⟨i + 1, by omega, by go_num, by rw [HFS.out]; exact HO4, HB4⟩
            case measure => simp [intOf]; omega
          have ht4 : decide (k < 4) = true := decide_eq_true hlt4
          obtain ⟨S, hS⟩ : ∃ S, sp k = S := ⟨_, rfl⟩
          have hSl := HSL.out k
          rw [hS] at hSl
          have HSK := Lib.hid hS
          have HPK : Hid (ps (k + 1) = (ps k).set (S / 8) (nth (ps k) (S / 8) ||| UInt8.ofNat (2 ^ (S % 8)))) := Lib.hid (by rw [HPS.out, HPU.out, hS])
          have hS8 : S / 8 < M := by omega
          obtain ⟨c1, c2⟩ := HO4.out.spot hS8
          have HI := Lib.hid (bit_or (nth (ps k) (S / 8)) (S % 8))
          have HON : Hid (Own (wr.setCell ⟨g, S / 8, none⟩ (.int .u8 (n8 (nth (ps k) (S / 8) ||| UInt8.ofNat (2 ^ (S % 8)))))) w.heap.size (some ⟨g, 0, none⟩) M M (ps (k + 1))) := Lib.hid (by rw [HPK.out]; exact HO4.out.put)
          have hgb : w.heap.size ≤ g := (HO4.out.new ⟨g, 0, none⟩ rfl).1
          have HBN : Hid (Below w.heap.size w (wr.setCell ⟨g, S / 8, none⟩ (.int .u8 (n8 (nth (ps k) (S / 8) ||| UInt8.ofNat (2 ^ (S % 8))))))) := Lib.hid (HB4.out.setCell (p := ⟨g, S / 8, none⟩) hgb _)
          have hilt : (S : Int) / 8 < (M : Int) := by omega
          have hi0 : 0 ≤ (S : Int) / 8 := by omega
          obtain rfl | rfl | rfl | rfl : k = 0 ∨ k = 1 ∨ k = 2 ∨ k = 3 := by omega
          all_goals
            go_wp2_with fail
            rw [HI.out]
            go_wp2
            go_roundw
            case rel => exact ⟨_ + 1, by omega, by go_num, HON, HBN⟩
            case measure => simp [intOf] <;> omega
end Go.Proofs.Ytchdmjnhjonddaa
