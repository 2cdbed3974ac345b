/- Sorted tables: the reference's filters. -/
import Derived.Test.YtjigfinpbdglnaaGreatDoorZSbF
set_option linter.unusedVariables false
set_option linter.unusedSimpArgs false
set_option maxRecDepth 100000
set_option linter.unusedVariables false
set_option linter.unusedSimpArgs false
namespace Go.Proofs.YtjigfinpbdglnaaGreatDoor
open Go.RowKit

set_option maxHeartbeats 8000000 in
theorem rfilter_any (a : Option Addr) (n c : Nat) (l : List Ent) (w : World) (h : Es w a n c l) (hk : ∀ e ∈ l, e.key.length ≤ 1000000) (hn : n ≤ 1000000) :
    Calls Tryz.prog 57 #[.slice a n c] w (RetB w w.heap.size (Sst.filter l)) := by
  have hle := h.le.1
  have HN := Lib.hid h.1
  have HL := Lib.hid h
  have HK := Lib.hid hk
  have HRL := Lib.hid (runs_le l)
  have HRS : Hid (∀ k, Sst.runs l (k + 1) = Sst.runs l k + if k = 0 ∨ (nth l k).key ≠ (nth l (k - 1)).key then 1 else 0) := Lib.hid (fun k => rfl)
  have HFI : Hid (Sst.filter l = Sst.fill l (Sst.mb (Sst.runs l n)) n) := Lib.hid (by unfold Sst.filter; rw [HN.out])
  have HMB : Hid (∀ k, Sst.mb k = max 8 ((10 * k + 7) / 8)) := Lib.hid (fun k => rfl)
  clear h hk
  go_enter Tryz.func57, Tryz.ntmps57
  go_wp2_with fail
  go_loopw [3, 4] (fun sv iv wr => ∃ i : Nat, i ≤ n ∧ iv = .int .i64 i ∧ sv = .int .i64 (Sst.runs l i : Nat) ∧ Hid (Below w.heap.size w wr)) (fun _ iv _ => n - (intOf iv).toNat)
  case atStart => exact ⟨0, Nat.zero_le _, rfl, rfl, Lib.hid (Below.refl _ _)⟩
  case round =>
    obtain ⟨i, hi, rfl, rfl, HB⟩ := hrel
    have hrl := HRL.out i
    by_cases hlt : i < n
    · have ht : decide (i < n) = true := decide_eq_true hlt
      have HR := Lib.hid (HRS.out i)
      by_cases h0 : i = 0
      · subst h0
        have HR2 : Hid (Sst.runs l (0 + 1) = Sst.runs l 0 + 1) := Lib.hid (by rw [HR.out, if_pos (.inl rfl)])
        generalize Sst.runs l 0 = r at *
        go_wp2_with fail
        refine wp_region_class (w0 := wr) (by kernel_rfl) (by kernel_rfl) (Below.refl _ _) ?_
        repeat (first | go_big_quiet_step (fail))
        refine wpQuiet_nil ?_
        intro w1 hb1; replace hb1 := BW.of hb1
        have HB1 := Lib.hid (HB.out.trans (hb1.mono HB.out.size))
        clear hb1
        go_wp2
        go_roundw
        case rel => exact ⟨1, by omega, by go_num, by rw [show (1 : Nat) = 0 + 1 from rfl, HR2.out]; go_num, HB1⟩
        case measure => simp [intOf]; omega
      · obtain ⟨k, rfl⟩ : ∃ k, i = k + 1 := ⟨i - 1, by omega⟩
        obtain ⟨b1, o1, a1, d1, ea, he1, _⟩ := (HL.out.below HB.out).vals (i := k + 1) hlt
        obtain ⟨b2, o2, a2, d2, eb, he2, _⟩ := (HL.out.below HB.out).vals (i := k) (by omega)
        subst ea
        cases eb
        have p1 := BW.cell he1.key
        have p2 := BW.cell he2.key
        have tz : ((((k + 1 : Nat) : Int)) == 0) = false := by rw [beq_eq_false_iff_ne]; omega
        have tz' : (((k : Int) + 1) == 0) = false := by rw [beq_eq_false_iff_ne]; omega
        clear he1 he2 h0
        have HR3 : Hid (Sst.runs l (k + 1 + 1) = Sst.runs l (k + 1) + if (nth l (k + 1)).key ≠ (nth l k).key then 1 else 0) := Lib.hid (by rw [HR.out]; simp)
        generalize (nth l (k + 1)).key = x at *
        generalize (nth l k).key = y at *
        generalize Sst.runs l (k + 1) = r at *
        by_cases hxy : x = y
        · have HR2 : Hid (Sst.runs l (k + 1 + 1) = r) := Lib.hid (by rw [HR3.out, if_neg (by simp [hxy])]; rfl)
          have t1 : ((bstr x).toList == (bstr y).toList) = true := by rw [bstr_beq]; exact decide_eq_true hxy
          have t1' : decide (x = y) = true := decide_eq_true hxy
          clear hxy
          go_wp2_with fail
          refine wp_region_class (w0 := wr) (by kernel_rfl) (by kernel_rfl) (Below.refl _ _) ?_
          repeat (first | go_big_quiet_step (fail))
          refine wpQuiet_nil ?_
          intro w1 hb1; replace hb1 := BW.of hb1
          have HB1 := Lib.hid (HB.out.trans (hb1.mono HB.out.size))
          clear hb1 p1 p2
          go_wp2
          go_roundw
          case rel => exact ⟨k + 1 + 1, by omega, by go_num, by rw [HR2.out], HB1⟩
          case measure => simp [intOf]; omega
        · have HR2 : Hid (Sst.runs l (k + 1 + 1) = r + 1) := Lib.hid (by rw [HR3.out, if_pos hxy])
          have t1 : ((bstr x).toList == (bstr y).toList) = false := by rw [bstr_beq]; exact decide_eq_false hxy
          have t1' : decide (x = y) = false := decide_eq_false hxy
          clear hxy
          go_wp2_with fail
          refine wp_region_class (w0 := wr) (by kernel_rfl) (by kernel_rfl) (Below.refl _ _) ?_
          repeat (first | go_big_quiet_step (fail))
          refine wpQuiet_nil ?_
          intro w1 hb1; replace hb1 := BW.of hb1
          have HB1 := Lib.hid (HB.out.trans (hb1.mono HB.out.size))
          clear hb1 p1 p2
          go_wp2
          go_roundw
          case rel => exact ⟨k + 1 + 1, by omega, by go_num, by rw [HR2.out]; go_num, HB1⟩
          case measure => simp [intOf]; omega
    · obtain rfl : n = i := by omega
      generalize hr : Sst.runs l n = r at *
      have HM := Lib.hid (HMB.out r)
      generalize hm : Sst.mb r = M at *
      have HRM : Hid (Sst.mb (Sst.runs l n) = M) := Lib.hid (by rw [hr, hm])
      have hM8 : 8 ≤ M ∧ M ≤ 1250010 := by have := HM.out; omega
      have hmk := run_make_row' (P := Tryz.prog) 22 5 (.int .u8 0) 1 Tryz.underlying22 info8 rfl .i64 .i64 M (by omega) (by omega)
      have HBT := Lib.hid (bits_any r wr (by omega))
      rw [hm] at HBT
      clear hm hr
      have e8 : (8 * (M : Int)) / 8 = (M : Int) := by omega
      go_wp2_with fail
      refine HBT.out.mono ?_
      rintro e w2 ⟨rfl, rfl⟩
      go_upto_region 9 with fail
      obtain ⟨wc, hwx⟩ : ∃ wc, wc = wr.alloc (.cells (madeCells #[.int .u8 0] M) 5) := ⟨_, rfl⟩
      try rw [← hwx]
      have ho := made_own wr M (by simp only [maxLen]; omega)
      have hb2 := HB.out.trans ((below_alloc1 wr (.cells (madeCells #[.int .u8 0] M) 5)).mono HB.out.size)
      rw [← hwx] at ho hb2
      have hgz : w.heap.size ≤ wr.heap.size := HB.out.size
      have HO0 : Hid (Own wc w.heap.size (some ⟨wr.heap.size, 0, none⟩) M M (Sst.fill l M 0)) := Lib.hid (ho.mono HB.out.size)
      have HB0 := Lib.hid hb2
      clear hmk hwx ho hb2 HM e8 HBT
      generalize wr.heap.size = g at *
      clear HB
      go_wp2_with fail
      go_loopw [7] (fun iv wr => ∃ i : Nat, i ≤ n ∧ iv = .int .i64 i ∧ Hid (Own wr w.heap.size (some ⟨g, 0, none⟩) M M (Sst.fill l M i)) ∧ Hid (Below w.heap.size w wr)) (fun iv _ => n - (intOf iv).toNat)
      case atStart => exact ⟨0, Nat.zero_le _, rfl, HO0, HB0⟩
      case round =>
        obtain ⟨i, hi2, rfl, HO, HB⟩ := hrel
        clear HO0 HB0
        by_cases hlt2 : i < n
        case neg =>
          obtain rfl : n = i := by omega
          go_wp2
          go_ret
          exact ⟨_, _, _, rfl, by rw [HFI.out]; exact HO.out, HB.out⟩
        have ht2 : decide (i < n) = true := decide_eq_true hlt2
        obtain ⟨b, off, ae, ce, rfl, he, hv⟩ := (HL.out.below HB.out).vals (i := i) hlt2
        have HKL : Hid ((nth l i).key.length ≤ 1000000) := Lib.hid (by rw [nth_eq l (by rw [HN.out]; exact hlt2)]; exact HK.out _ (List.getElem_mem _))
        have HFS : Hid (Sst.fill l M (i + 1) = Sst.puts (Sst.fill l M i) (nth l i).key (8 * M) 4) := Lib.hid rfl
        have p0 := he.key
        have p1 := he.seq
        have p2 := he.gone
        have p3 := he.val
        have HFL := Lib.hid (fill_len l M i)
        clear he hv
        generalize Sst.fill l M i = f0 at *
        generalize nth l i = x at *
        obtain ⟨xk, xs, xg, xv⟩ := x
        dsimp only at *
        have hxk := HKL.out
        have HPL := Lib.hid (fun W : World => rspots_any xk (8 * M) W (by omega) (by omega) (by omega))
        have HSL : Hid (∀ j, Sst.spot xk (8 * M) j < 8 * M) := Lib.hid (fun j => Nat.mod_lt _ (by omega))
        have HPS : Hid (∀ k, Sst.puts f0 xk (8 * M) (k + 1) = Sst.put (Sst.puts f0 xk (8 * M) k) (Sst.spot xk (8 * M) k)) := Lib.hid (fun k => rfl)
        have HPZ : Hid (Sst.puts f0 xk (8 * M) 0 = f0) := Lib.hid rfl
        have HPN : Hid (∀ k, (Sst.puts f0 xk (8 * M) k).length = M) := Lib.hid (fun k => by rw [puts_len, HFL.out])
        have HPU : Hid (∀ y p, Sst.put y p = y.set (p / 8) (nth y (p / 8) ||| UInt8.ofNat (2 ^ (p % 8)))) := Lib.hid (fun y p => rfl)
        generalize Sst.puts f0 xk (8 * M) = ps at *
        have e8 : ((8 * M : Nat) : Int) = 8 * (M : Int) := by omega
        rw [e8] at HPL
        clear e8
        go_wp2_with fail
        refine (HPL.out _).mono ?_
        rintro e w3 ⟨rfl, hb3⟩
        generalize Sst.spot xk (8 * M) = sp at *
        have hr4 := heap_alloc_new w3 (.cells #[.int .i64 (sp 0 : Nat), .int .i64 (sp 1 : Nat), .int .i64 (sp 2 : Nat), .int .i64 (sp 3 : Nat)] 84)
        obtain ⟨w4, hw4⟩ : ∃ w4, w3.alloc (.cells #[.int .i64 (sp 0 : Nat), .int .i64 (sp 1 : Nat), .int .i64 (sp 2 : Nat), .int .i64 (sp 3 : Nat)] 84) = w4 := ⟨_, rfl⟩
        have hb34 : Below w3.heap.size w3 w4 := by rw [← hw4]; exact below_alloc1 _ _
        rw [hw4] at hr4
        have hb04 := hb3.trans (hb34.mono hb3.size)
        have HB3 := Lib.hid (HB.out.trans (hb04.mono HB.out.size))
        have HO3 : Hid (Own w4 w.heap.size (some ⟨g, 0, none⟩) M M (ps 0)) := Lib.hid (by rw [HPZ.out]; exact HO.out.below hb04)
        have HSQ : Hid (∀ k, k < 4 → w4.cell? ⟨w3.heap.size, k, none⟩ = some (.int .i64 (sp k : Nat))) := Lib.hid (fun k hk => (cell_of_row _ _ k _ _ _ hr4).trans (by
          obtain rfl | rfl | rfl | rfl : k = 0 ∨ k = 1 ∨ k = 2 ∨ k = 3 := by omega
          all_goals rfl))
        have hgq : g ≠ w3.heap.size := by have := (HO.out.new ⟨g, 0, none⟩ rfl).2; have := hb3.size; simp only at *; omega
        have HW4 := Lib.hid hw4
        clear hb3 hb34 hb04 hr4 hw4 p0 p1 p2 p3
        go_upto_region 13 with fail
        rw [HW4.out]
        go_wp2_with fail
        go_loopw [9] (fun kv wr => ∃ k : Nat, k ≤ 4 ∧ kv = .int .i64 k ∧ Hid (∀ j, j < 4 → wr.cell? ⟨w3.heap.size, j, none⟩ = some (.int .i64 (sp j : Nat))) ∧ Hid (Own wr w.heap.size (some ⟨g, 0, none⟩) M M (ps k)) ∧ Hid (Below w.heap.size w wr)) (fun kv _ => 4 - (intOf kv).toNat)
        case atStart => exact ⟨0, Nat.zero_le _, rfl, HSQ, HO3, HB3⟩
        case round =>
          obtain ⟨k, hk4, rfl, HQ4, HO4, HB4⟩ := hrel
          by_cases hlt4 : k < 4
          case neg =>
            obtain rfl : k = 4 := by omega
            go_wp2
            go_roundw
            case rel => exact ⟨i + 1, by omega, by go_num, by rw [HFS.out]; exact HO4, HB4⟩
            case measure => simp [intOf]; omega
          have ht4 : decide (k < 4) = true := decide_eq_true hlt4
          obtain ⟨S, hS⟩ : ∃ S, sp k = S := ⟨_, rfl⟩
          have hSl := HSL.out k
          rw [hS] at hSl
          have HSK := Lib.hid hS
          obtain ⟨D, hD⟩ : ∃ D, S / 8 = D := ⟨_, rfl⟩
          obtain ⟨R, hR⟩ : ∃ R, S % 8 = R := ⟨_, rfl⟩
          have HPK : Hid (ps (k + 1) = (ps k).set (D) (nth (ps k) (D) ||| UInt8.ofNat (2 ^ (R)))) := Lib.hid (by rw [HPS.out, HPU.out, hS, hD, hR])
          have hS8 : D < M := by omega
          obtain ⟨c1, c2⟩ := HO4.out.spot hS8
          have HI := Lib.hid (bit_or (nth (ps k) (D)) (R))
          have HON : Hid (Own (wr.setCell ⟨g, D, none⟩ (.int .u8 (n8 (nth (ps k) (D) ||| UInt8.ofNat (2 ^ (R)))))) w.heap.size (some ⟨g, 0, none⟩) M M (ps (k + 1))) := Lib.hid (by rw [HPK.out]; exact HO4.out.put)
          have hgb : w.heap.size ≤ g := (HO4.out.new ⟨g, 0, none⟩ rfl).1
          have HBN : Hid (Below w.heap.size w (wr.setCell ⟨g, D, none⟩ (.int .u8 (n8 (nth (ps k) (D) ||| UInt8.ofNat (2 ^ (R))))))) := Lib.hid (HB4.out.setCell (p := ⟨g, D, none⟩) hgb _)
          have cq := HQ4.out k hlt4
          rw [hS] at cq
          have HQN : Hid (∀ j, j < 4 → (wr.setCell ⟨g, D, none⟩ (.int .u8 (n8 (nth (ps k) D ||| UInt8.ofNat (2 ^ R))))).cell? ⟨w3.heap.size, j, none⟩ = some (.int .i64 (sp j : Nat))) := Lib.hid (fun j hj => (World.cell?_setCell_other _ _ _ _ (fun e => hgq (congrArg Addr.block e))).trans (HQ4.out j hj))
          have eD : (S : Int) / 8 = (D : Int) := by omega
          have eR : (S : Int) % 8 = (R : Int) := by omega
          have eT : Int.tmod (S : Int) 8 = (R : Int) := by rw [Int.tmod_eq_emod_of_nonneg (by omega)]; omega
          have ew : IntKind.i64.wrap (D : Int) = (D : Int) := by rw [IntKind.wrap_i64]; omega
          have ewt : IntKind.i64.wrap (R : Int) = (R : Int) := by rw [IntKind.wrap_i64]; omega
          have ewu : IntKind.u64.wrap (R : Int) = (R : Int) := by rw [IntKind.wrap_u64]; omega
          clear hD hR
          clear hS
          go_upto_region 16 with fail
          refine wp_region_still_tail 20 (by kernel_rfl) (by kernel_rfl) ?_
          simp only [List.take_succ_cons, List.take_zero, List.drop_succ_cons, List.drop_zero]
          repeat still_step
          refine wpStill_nil ?_
          go_wp2_with fail
          rw [HI.out]
          go_wp2
          go_roundw
          case rel => exact ⟨k + 1, by omega, by go_num, Lib.hid (fun j hj => HQN.out j hj), Lib.hid (HON.out.below (Below.refl _ _).drew), Lib.hid HBN.out.drew⟩
          case measure => simp [intOf]; omega
end Go.Proofs.YtjigfinpbdglnaaGreatDoor
