/- The walk of RsSplits. -/
import Derived.Test.YtppgbapfmijboaaRsS
set_option maxRecDepth 100000
set_option linter.unusedVariables false
set_option linter.unusedSimpArgs false
namespace Go.Proofs.Ytppgbapfmijboaa
open Go.RowKit Go.Deep

/-- A row of the call's own whose elements are read. -/
structure OwnE (w : World) (B : Nat) (a : Option Addr) (n c : Nat) (ls : List (List UInt8)) : Prop where
  row : ∃ cs, OwnV w B a n c cs ∧ cs.length = ls.length ∧ ∀ i, i < ls.length → ∃ ai ni ci, cs[i]? = some (.slice ai ni ci) ∧ ∀ W, (∀ j, j < B → W.heap[j]? = w.heap[j]?) → Bs W ai ni ci (nth ls i)
theorem OwnE.bss {w : World} {B n c : Nat} {a : Option Addr} {ls : List (List UInt8)} (h : OwnE w B a n c ls) : Bss w a n c ls := by
  obtain ⟨cs, h1, h2, h3⟩ := h.row
  exact elems_bss h1 ⟨h2, fun i hi => by obtain ⟨ai, ni, ci, g1, g2⟩ := h3 i hi; exact ⟨ai, ni, ci, g1, g2 w (fun _ _ => rfl)⟩⟩
/-- An element is made nil. -/
theorem OwnE.del {w : World} {B n c g i : Nat} {ls : List (List UInt8)} (h : OwnE w B (some ⟨g, 0, none⟩) n c ls) (hi : i < n) : OwnE (w.setCell ⟨g, i, none⟩ (.slice none 0 0)) B (some ⟨g, 0, none⟩) n c (ls.set i []) ∧ Below B w (w.setCell ⟨g, i, none⟩ (.slice none 0 0)) := by
  obtain ⟨cs, h1, h2, h3⟩ := h.row
  have hgB : B ≤ g := (h1.new _ rfl).1
  refine ⟨⟨cs.set i (.slice none 0 0), ?_, by rw [List.length_set, List.length_set, h2], fun j hj => ?_⟩, (Below.refl _ _).setCell hgB _⟩
  · rcases h1.2 with ⟨h4, _⟩ | ⟨g', cap, cur, h4, h5, h6, h7, h8, h9, h10⟩
    · cases h4
    · cases h4
      refine ⟨by rw [List.length_set]; exact h1.1, .inr ⟨g, _, cur.setIfInBounds i (.slice none 0 0), rfl, h5, ?_, h7, h8, by rw [Array.size_setIfInBounds]; exact h9, ?_⟩⟩
      · simp [World.setCell, Array.getElem?_modify, h6]
      · rw [Array.toList_setIfInBounds, List.take_set, h10]
  · rw [List.length_set] at hj
    obtain ⟨ai, ni, ci, g1, g2⟩ := h3 j hj
    by_cases e : j = i
    · subst e
      refine ⟨none, 0, 0, by rw [List.getElem?_set_self (by omega)], fun W hW => ?_⟩
      rw [nth_eq _ (by rw [List.length_set]; exact hj), List.getElem_set_self]
      exact Bs.nil W
    · refine ⟨ai, ni, ci, by rw [List.getElem?_set_ne (by omega)]; exact g1, fun W hW => ?_⟩
      rw [nth_eq _ (by rw [List.length_set]; exact hj), List.getElem_set_ne (by omega), ← nth_eq]
      exact g2 W (fun b hb => (hW b hb).trans (Below.heap_setCell _ _ _ _ (by show b ≠ g; omega)))
theorem OwnE.cell {w : World} {B n c i : Nat} {a : Option Addr} {ls : List (List UInt8)} (h : OwnE w B a n c ls) (hi : i < n) : ∃ g ai ni ci, a = some ⟨g, 0, none⟩ ∧ w.cell? ⟨g, i, none⟩ = some (.slice ai ni ci) ∧ ni = (nth ls i).length ∧ w.frozen? ⟨g, i, none⟩ = false := by
  obtain ⟨cs, h1, h2, h3⟩ := h.row
  have hl := h1.len.1
  obtain ⟨ai, ni, ci, g1, g2⟩ := h3 i (by omega)
  obtain ⟨b, off, e1, e2⟩ := Row.of_own h1 i _ g1
  rcases h1.2 with ⟨h4, h5⟩ | ⟨g, cap, cur, h4, h5, h6, _⟩
  · cases h4; omega
  · cases h4
    cases e1
    rw [Nat.zero_add] at e2
    exact ⟨_, ai, ni, ci, rfl, e2, (g2 w (fun _ _ => rfl)).1.symm, by simp [World.frozen?, h6]⟩
theorem own_len {w : World} {B n c : Nat} {a : Option Addr} {ls : List (List UInt8)} (h : OwnE w B a n c ls) : ls.length = n := by
  obtain ⟨cs, h1, h2, _⟩ := h.row
  rw [← h2, h1.len.1]
/-- Behind the append of all of a list to an empty row. -/
theorem OwnE.new {w w' : World} {B n c : Nat} {a' ax : Option Addr} {cx : Nat} {ls : List (List UInt8)} {cs : List Value} (hb : Below B w w') (hB : B ≤ w.heap.size) (hv : cs.length = n)
    (he : ∀ i, i < n → ∃ ai ni ci, cs[i]? = some (.slice ai ni ci) ∧ ∀ W, (∀ j, j < B → W.heap[j]? = w.heap[j]?) → Bs W ai ni ci (nth ls i)) (hl : ls.length = n) (ho : OwnV w' B a' n c cs) : OwnE w' B a' n c ls :=
  ⟨cs, ho, by omega, fun i hi => by
    obtain ⟨ai, ni, ci, h1, h2⟩ := he i (by omega)
    exact ⟨ai, ni, ci, h1, fun W hW => h2 W (fun j hj => (hW j hj).trans (hb.block j hj))⟩⟩
/-- What is read in a world is read wherever its blocks are. -/
theorem bs_old {w W : World} {a : Option Addr} {n c : Nat} {l : List UInt8} (h : Bs w a n c l) (k : ∀ j, j < w.heap.size → W.heap[j]? = w.heap[j]?) : Bs W a n c l := by
  refine ⟨h.1, h.2.1, h.2.2.1, fun j u hu => ?_⟩
  obtain ⟨b, off, e1, e2⟩ := h.2.2.2 j u hu
  refine ⟨b, off, e1, ?_⟩
  rw [← e2]
  refine World.cell?_of_block (k b ?_)
  by_cases e : b < w.heap.size
  · exact e
  · simp [World.cell?, Array.getElem?_eq_none (by omega : w.heap.size ≤ b)] at e2

set_option maxHeartbeats 16000000 in
theorem rsSplits_walk (kk mm gg : Int) (aa : Option Addr) (na ca : Nat) (la : List UInt8) (w : World) (ha : Bs w aa na ca la)
    (hk : -9223372036854775808 ≤ kk ∧ kk ≤ 9223372036854775807) (hm : -9223372036854775808 ≤ mm ∧ mm ≤ 9223372036854775807) :
    Calls Try.prog 4 #[.int .i64 kk, .int .i64 mm, .slice aa na ca, .int .i64 gg] w fun e w' => e = .returned (.bool true) ∧ Below w.heap.size w w' := by
  have hna := ha.le.1
  have HA : Hid (∀ W, Below w.heap.size w W → Bs W aa na ca la) := Lib.hid fun W h => ha.below h
  have HLA := Lib.hid ha.1
  clear ha
  go_enter Try.func4, Try.ntmps4
  go_wp2_with fail
  refine (known_any _).mono ?_
  rintro e w1 ⟨rfl, hb1⟩
  have HW := Lib.hid hb1
  clear hb1
  by_cases f1 : kk < 1
  · have t1 : decide (kk < 1) = true := decide_eq_true f1
    clear f1 hk hm
    go_wp2
    go_ret
    exact ⟨rfl, HW.out⟩
  have t1 : decide (kk < 1) = false := decide_eq_false f1
  by_cases f2 : mm < 0
  · have t2 : decide (mm < 0) = true := decide_eq_true f2
    clear f1 f2 hk hm
    go_wp2
    go_ret
    exact ⟨rfl, HW.out⟩
  have t2 : decide (mm < 0) = false := decide_eq_false f2
  by_cases f3 : 12 < kk
  · have t3 : decide (12 < kk) = true := decide_eq_true f3
    clear f1 f2 f3 hk hm
    go_wp2
    go_ret
    exact ⟨rfl, HW.out⟩
  have t3 : decide (12 < kk) = false := decide_eq_false f3
  by_cases f4 : 12 < mm
  · have t4 : decide (12 < mm) = true := decide_eq_true f4
    clear f1 f2 f3 f4 hk hm
    go_wp2
    go_ret
    exact ⟨rfl, HW.out⟩
  have t4 : decide (12 < mm) = false := decide_eq_false f4
  by_cases f5 : 2000 < na
  · have t5 : decide ((2000 : Int) < (na : Int)) = true := decide_eq_true (by omega)
    clear f1 f2 f3 f4 f5 hk hm
    go_wp2
    go_ret
    exact ⟨rfl, HW.out⟩
  have t5 : decide ((2000 : Int) < (na : Int)) = false := decide_eq_false (by omega)
  obtain ⟨K, rfl⟩ : ∃ K : Nat, kk = (K : Int) := ⟨kk.toNat, by omega⟩
  obtain ⟨M, rfl⟩ : ∃ M : Nat, mm = (M : Int) := ⟨mm.toNat, by omega⟩
  have hK : 1 ≤ K ∧ K ≤ 12 ∧ M ≤ 12 := by omega
  have hna1 : na ≤ 2000 := by omega
  clear f1 f2 f3 f4 f5 hk hm
  go_wp2_with fail
  clear t1 t2 t3 t4 t5
  refine (new_any K M _ (by omega) (by omega)).mono ?_
  rintro e w2 ⟨⟨b, rfl, hc⟩, hb2⟩
  have HW2 := Lib.hid (HW.out.trans (hb2.mono HW.out.size))
  have HC2 : Hid (∀ W, Below w2.heap.size w2 W → Cod W b K M) := Lib.hid fun W h => hc.below h
  clear hc hb2 HW
  go_wp2_with fail
  refine (encode_any b K M _ _ _ la w2 (HC2.out _ (Below.refl _ _)) (HA.out _ HW2.out) hK.1 (by omega) (by omega)).mono ?_
  rintro e w3 h
  obtain ⟨⟨a3, c3, rfl, h3⟩, hb3⟩ := h.bss (by omega)
  have hall : Rs.all K M la = mat (K + M) (Rs.wd K na) (Rs.enc K M la) := by unfold Rs.all; rw [HLA.out]
  rw [← hall] at h3
  have HS3 : Hid (∀ W, Below w3.heap.size w3 W → Bss W a3 (K + M) c3 (Rs.all K M la)) := Lib.hid fun W h => h3.below h
  have HB3 := Lib.hid hb3
  clear h h3 hb3 hall
  go_wp2_with fail
  obtain ⟨W, hW⟩ : ∃ W, Rs.wd K la.length = W := ⟨_, rfl⟩
  have w1 := wd_pos K la.length
  have w2' := wd_few (n := la.length) hK.1
  have HLW : Hid (∀ i, i < K + M → (nth (Rs.all K M la) i).length = W) := Lib.hid fun i hi => by rw [all_len hi, hW]
  have hWlen : W ≤ 3000 := by
    have h5 : 1 * Rs.wd K la.length ≤ K * Rs.wd K la.length := Nat.mul_le_mul_right _ hK.1
    rw [HLA.out] at *
    omega
  rw [hW] at w1
  have hKM : 0 < K + M := by omega
  have hKM9 : K + M ≤ 24 := by omega
  have HFL : Hid (∀ i, i ≤ 24 → (Rs.front K M la i).length ≤ 100000) := Lib.hid fun i hi => by
    have := front_len (K := K) (M := M) (d := la) i
    rw [hW] at this
    have : i * W ≤ 24 * 3000 := Nat.mul_le_mul hi hWlen
    omega
  go_loopw [12, 13] (fun v i wr => ∃ (k n c : Nat) (a : Option Addr), k ≤ K + M ∧ i = .int .i64 k ∧ v = .slice a n c ∧ Below w3.heap.size w3 wr ∧ Own wr w3.heap.size a n c (Rs.front K M la k)) (fun _ i _ => K + M - (intOf i).toNat)
  case atStart => exact ⟨0, 0, 0, none, Nat.zero_le _, rfl, rfl, Below.refl _ _, by have := Own.nil w3 w3.heap.size; simpa [Rs.front] using this⟩
  case round =>
    obtain ⟨k, n, c, a, hk, rfl, rfl, hb, ho⟩ := hrel
    have hn9 : n ≤ 100000 := by have := ho.bs.1; have := HFL.out k (by omega); omega
    by_cases hlt : k < K + M
    · obtain ⟨b0, o0, a0, n0, c0, e0, d0, r0⟩ := (HS3.out wr hb).get hKM
      subst e0
      obtain ⟨b1, o1, a1, n1, c1, e1, d1, r1⟩ := (HS3.out wr hb).get hlt
      cases e1
      obtain rfl : n0 = W := by rw [← r0.1]; exact HLW.out 0 hKM
      obtain rfl : n1 = n0 := by rw [← r1.1]; exact HLW.out k hlt
      rw [Nat.add_zero] at d0
      have t1 : ((n1 : Int) != (n1 : Int)) = false := by simp
      have HO := Lib.hid ho
      have HB := Lib.hid hb
      have R1 : Hid (∀ W, Below wr.heap.size wr W → Bs W a1 n1 c1 (nth (Rs.all K M la) k)) := Lib.hid fun W h => r1.below h
      clear ho hb r0 r1
      go_wp2_with fail
      refine wp_region_class (w0 := wr) (by kernel_rfl) (by kernel_rfl) (Below.refl _ _) ?_
      have l1 := BW.cell d0
      have l2 := BW.cell d1
      repeat (first | go_big_quiet_step (fail))
      refine wpQuiet_nil ?_
      intro wq hbq; replace hbq := BW.of hbq
      clear l1 l2
      have d1' := cell_later hbq d1
      have HO2 := Lib.hid (HO.out.below hbq)
      have R2 := Lib.hid (R1.out wq hbq)
      have HB2 := Lib.hid (HB.out.trans (hbq.mono HB.out.size))
      have hsz := HB2.out.size
      clear hbq d0 d1 HO R1 HB t1
      by_cases hkK : k < K
      · have t3 : decide ((k : Int) < (K : Int)) = true := decide_eq_true (by omega)
        have hfs := Lib.hid (front_step (M := M) (d := la) hkK)
        have hn1K : n + n1 ≤ 140737488355328 := by omega
        go_wp2_with (at_builtin; refine app_own rfl _ _ rfl w3.heap.size rfl HO2.out rfl R2.out hn1K hsz ?_; intro a4 c4 w4 h4 hb4 _)
        go_roundw
        case rel => exact ⟨k + 1, n + n1, c4, a4, by omega, by go_num, rfl, HB2.out.trans (hb4.mono (by omega)), by rw [hfs.out]; exact h4⟩
        case measure => simp [intOf]; omega
      · have t3 : decide ((k : Int) < (K : Int)) = false := decide_eq_false (by omega)
        have hfs := Lib.hid (front_stay (M := M) (d := la) hkK)
        go_wp2
        go_roundw
        case rel => exact ⟨k + 1, n, c, a, by omega, by go_num, rfl, HB2.out, by rw [hfs.out]; exact HO2.out⟩
        case measure => simp [intOf]; omega
    · obtain rfl : k = K + M := by omega
      obtain ⟨p1, p2, p3⟩ := front_pad (M := M) (d := la) hK.1
      rw [hW] at p1 p3
      have hwle := wd_le (n := la.length) hK.1
      rw [hW] at hwle
      generalize hFF : Rs.front K M la (K + M) = F at *
      have hbF := ho.bs
      obtain ⟨b0, o0, a0, n0, c0, e0, d0, r0⟩ := (HS3.out wr hb).get hKM
      subst e0
      obtain rfl : n0 = W := by rw [← r0.1]; exact HLW.out 0 hKM
      rw [Nat.add_zero] at d0
      have hnF : n = K * n0 := by rw [← p1]; exact hbF.1.symm
      have hnna : na ≤ n := by have := HLA.out; omega
      have hcn : n ≤ c := hbF.2.1
      have HNF := Lib.hid hnF
      clear hnF
      have hwr := HW2.out.trans ((HB3.out.trans (hb.mono HB3.out.size)).mono HW2.out.size)
      have hsl := slice_h a n c (hi := (na : Int)) (hi' := na) rfl (by omega)
      have hcv1 : Hid (∀ W, Below wr.heap.size wr W → (convert 22 9 (.slice a na c)).run Try.prog W = .ok (.string (bstr la)) W) := Lib.hid fun W h => by
        have := conv_bytes ((hbF.take hnna).below h)
        rwa [show F.take na = la by rw [← HLA.out]; exact p2] at this
      have hcv2 : Hid (∀ W, Below wr.heap.size wr W → (convert 22 9 (.slice aa na ca)).run Try.prog W = .ok (.string (bstr la)) W) := Lib.hid fun W h => conv_bytes ((HA.out wr hwr).below h)
      have s1 : (((K + M : Nat) : Int) != ((K : Int) + (M : Int))) = false := by simp
      have s2 : ¬ n < na := by omega
      have s3 : ((bstr la).toList != (bstr la).toList) = false := by simp
      have HO := Lib.hid ho
      have HB := Lib.hid hb
      have HP3 := Lib.hid p3
      have hleast : Hid (1 < n0 → (n0 - 1) * K < na) := Lib.hid fun h => by have := wd_least (n := la.length) hK.1 (by rw [hW]; exact h); rw [hW, HLA.out] at this; exact this
      clear ho hb p1 p2 p3 hbF r0
      have HS4 : Hid (∀ W, Below wr.heap.size wr W → Bss W (some ⟨b0, o0, none⟩) (K + M) c3 (Rs.all K M la)) := Lib.hid fun W h => HS3.out W (HB.out.trans (h.mono HB.out.size))
      have HC4 : Hid (∀ W, Below wr.heap.size wr W → Cod W b K M) := Lib.hid fun W h => HC2.out W (HB3.out.trans ((HB.out.trans (h.mono HB.out.size)).mono HB3.out.size))
      have HWR := Lib.hid hwr
      clear hwr HC2 HS3 HW2 HB3 HB
      by_cases h1W : 1 < n0
      case' pos =>
        obtain ⟨T, hT⟩ : ∃ T, (n0 - 1) * K = T := ⟨_, rfl⟩
        have hl := hleast.out h1W
        rw [hT] at hl
        have s6 : ((n0 : Int) - 1) * (K : Int) = (T : Int) := by rw [← hT, Int.natCast_mul]; congr 1; omega
        have s5 : ¬ na ≤ T := by omega
        have s4 : decide ((1 : Int) < (n0 : Int)) = true := decide_eq_true (by omega)
      case' neg => have s4 : decide ((1 : Int) < (n0 : Int)) = false := decide_eq_false (by omega)
      all_goals
        go_wp2_with fail
        refine wp_region_class (w0 := wr) (by kernel_rfl) (by kernel_rfl) (Below.refl _ _) ?_
        have l1 := BW.cell d0
        have l2 := fun (V : BW wr) => hcv1.out V.w V.b
        have l3 := fun (V : BW wr) => hcv2.out V.w V.b
        repeat (first | go_big_quiet_step (fail))
        refine wpQuiet_nil ?_
        intro wq hbq; replace hbq := BW.of hbq
        clear l1 l2 l3
        try clear s5 s6 hT hl
        have HQ := Lib.hid hbq
        have HOQ := Lib.hid (HO.out.below hbq)
        clear hbq s1 s2 s3 s4 d0 hsl h1W
        go_wp2_with fail
        go_loopw [14] (fun i wx => ∃ j : Nat, na ≤ j ∧ j ≤ n ∧ i = .int .i64 j ∧ Below wq.heap.size wq wx) (fun i _ => n - (intOf i).toNat)
        case atStart => exact ⟨na, Nat.le_refl _, hnna, rfl, Below.refl _ _⟩
        case round =>
          obtain ⟨j, hj1, hj2, rfl, hbx⟩ := hrel
          have HBX := Lib.hid hbx
          clear hbx
          by_cases hlj : j < n
          · obtain ⟨bF, oF, eF, dF⟩ := (HOQ.out.below HBX.out).bs.byte hlj
            subst eF
            rw [HP3.out j (by rw [HLA.out]; exact hj1) (by rw [← HNF.out]; exact hlj)] at dF
            replace dF : wr.cell? ⟨bF, oF + j, none⟩ = some (.int .u8 0) := dF
            go_wp2
            go_roundw
            case rel => exact ⟨j + 1, by omega, by omega, by go_num, HBX.out⟩
            case measure => simp [intOf]; omega
          · obtain rfl : j = n := by omega
            have HQW := Lib.hid (HQ.out.trans (HBX.out.mono HQ.out.size))
            have HS5 : Hid (∀ W, Below wr.heap.size wr W → Bss W (some ⟨b0, o0, none⟩) (K + M) c3 (Rs.all K M la)) := Lib.hid fun W h => HS4.out W (HQW.out.trans (h.mono HQW.out.size))
            have HC5 : Hid (∀ W, Below wr.heap.size wr W → Cod W b K M) := Lib.hid fun W h => HC4.out W (HQW.out.trans (h.mono HQW.out.size))
            have HWR5 := Lib.hid (HWR.out.trans (HQW.out.mono HWR.out.size))
            obtain ⟨csS, u1, u2, u3, u4⟩ := bss_elems (HS4.out _ HQW.out)
            have U1 := Lib.hid (u1.below (below_alloc wr (.cells #[] 22)))
            have U2 := Lib.hid u2
            have U3 := Lib.hid u3
            have U4 := Lib.hid u4
            have HLAL : Hid ((Rs.all K M la).length = K + M) := Lib.hid (mat_len _ _ _)
            clear u1 u2 u3 u4 hlj
            have hcase : (∃ g : Nat, gg = (g : Int) ∧ g < K + M ∧ 0 < M) ∨ (decide (0 ≤ gg) = false) ∨ (decide (0 ≤ gg) = true ∧ decide (gg < (K : Int) + (M : Int)) = false) ∨ (decide (0 ≤ gg) = true ∧ decide (gg < (K : Int) + (M : Int)) = true ∧ M = 0) := by
              by_cases q1 : 0 ≤ gg
              · by_cases q2 : gg < (K : Int) + (M : Int)
                · by_cases q3 : 0 < M
                  · exact .inl ⟨gg.toNat, by omega, by omega, q3⟩
                  · exact .inr (.inr (.inr ⟨decide_eq_true q1, decide_eq_true q2, by omega⟩))
                · exact .inr (.inr (.inl ⟨decide_eq_true q1, decide_eq_false q2⟩))
              · exact .inr (.inl (decide_eq_false q1))
            have HOE : Hid (∀ a6 c6 w6, OwnV w6 wr.heap.size a6 (K + M) c6 csS → Below wr.heap.size (wr.alloc (.cells #[] 22)) w6 → OwnE w6 wr.heap.size a6 (K + M) c6 (Rs.gone K M la [])) := Lib.hid fun a6 c6 w6 ho hb => by
              rw [gone_none]
              refine OwnE.new (ax := none) (cx := 0) ((below_alloc wr _).trans hb) (Nat.le_refl _) U3.out (fun i hi => ?_) HLAL.out ho
              obtain ⟨ai, ni, ci, h1, h2⟩ := U2.out.2 i (by rw [HLAL.out]; exact hi)
              exact ⟨ai, ni, ci, h1, fun W hW => bs_old h2 hW⟩
            rcases hcase with ⟨g, rfl, hg, hM0⟩ | hq1 | ⟨hq1, hq2⟩ | ⟨hq1, hq2, hq3⟩
            · go_wp2_with (at_builtin; refine app_matr (cs := []) rfl _ _ rfl wr.heap.size rfl (ownV_lit wr) rfl U1.out U3.out U4.out (by omega) (le_alloc (Nat.le_refl _)) ?_; intro a6 c6 w6 ho6 hb6 _; simp only [Nat.zero_add, List.nil_append] at ho6; obtain ⟨g6, ai6, ni6, ci6, ea6, d6, _, f6⟩ := (HOE.out a6 c6 w6 ho6 hb6).cell hg; subst ea6; have HOX := Lib.hid ((HOE.out _ c6 w6 ho6 hb6).del hg); have HB6 := Lib.hid ((below_alloc wr (.cells #[] 22)).trans hb6); clear ho6 hb6)
              have hgs := gone_set (K := K) (M := M) (d := la) (G := []) hg
              rw [List.nil_append] at hgs
              have HX := Lib.hid (And.intro (HOX.out.1.bss) (HB6.out.trans HOX.out.2))
              rw [hgs] at HX
              have hlo : Rs.lostB K (Rs.gone K M la [g]) = false := by rw [gone_lost (by simp) (by intro x hx; simp at hx; omega)]; simp; omega
              clear d6 f6 HOX HB6 hgs
              have hsub := gone_sub K M la [g]
              obtain ⟨r1, r2⟩ := rep_is hK.1 (by omega) hsub hlo
              have hlens : ∀ i, i < K + M → (nth (Rs.gone K M la [g]) i).length ≤ 100000000 := fun i hi => by have := hsub.lens hi; omega
              have HAL : Hid (∀ i, i < K + M → (nth (Rs.all K M la) i).length ≤ 100000000) := Lib.hid fun i hi => by have := HLW.out i hi; omega
              refine (repair_any b K M _ _ _ _ _ (HC5.out _ HX.out.2) HX.out.1 hK.1 (by omega) (by omega) hlens).mono ?_
              rintro e w8 ⟨⟨a8, m8, c8, rfl, h8⟩, hb8⟩
              rw [r2] at h8
              rw [r1]
              obtain rfl : m8 = K + M := by rw [← h8.1, HLAL.out]
              have H8 := Lib.hid h8
              have HB8 := Lib.hid (HX.out.2.trans (hb8.mono HX.out.2.size))
              clear hsub r1 r2 hlens h8 hb8 hlo
              obtain ⟨q1, q2⟩ := rep_is (K := K) (M := M) (d := la) (l := Rs.gone K M la []) hK.1 (by omega) (gone_sub K M la []) (by rw [gone_lost List.nodup_nil (by simp)]; simp)
              rw [gone_none] at q1 q2
              have Q1 := Lib.hid q1
              have Q2 := Lib.hid q2
              clear q1 q2
              go_wp2_with fail
              refine (repair_any b K M _ _ _ _ w8 (HC5.out _ HB8.out) H8.out hK.1 (by omega) (by omega) HAL.out).mono ?_
              rintro e w9 ⟨⟨a9, m9, c9, rfl, h9⟩, hb9⟩
              rw [Q2.out] at h9
              rw [Q1.out]
              obtain rfl : m9 = K + M := by rw [← h9.1, HLAL.out]
              have H9 := Lib.hid h9
              have HB9 := Lib.hid (HB8.out.trans (hb9.mono HB8.out.size))
              have H89 := Lib.hid (H8.out.below hb9)
              clear h9 hb9
              go_wp2_with fail
              refine (same_yes _ _ _ _ _ _ _ w9 H89.out (HS5.out _ HB9.out)).mono ?_
              rintro e w10 ⟨rfl, hb10⟩
              have HB10 := Lib.hid (HB9.out.trans (hb10.mono HB9.out.size))
              have H910 := Lib.hid (H9.out.below hb10)
              clear hb10
              go_wp2_with fail
              refine (same_yes _ _ _ _ _ _ _ w10 H910.out (HS5.out _ HB10.out)).mono ?_
              rintro e w11 ⟨rfl, hb11⟩
              have HB11 := Lib.hid (HWR5.out.trans ((HB10.out.trans (hb11.mono HB10.out.size)).mono HWR5.out.size))
              clear hb11
              go_wp2
              go_ret
              exact ⟨rfl, HB11.out⟩
            · go_wp2_with (at_builtin; refine app_matr (cs := []) rfl _ _ rfl wr.heap.size rfl (ownV_lit wr) rfl U1.out U3.out U4.out (by omega) (le_alloc (Nat.le_refl _)) ?_; intro a6 c6 w6 ho6 hb6 _; simp only [Nat.zero_add, List.nil_append] at ho6; have HX := Lib.hid (And.intro (HOE.out a6 c6 w6 ho6 hb6).bss ((below_alloc wr (.cells #[] 22)).trans hb6)); clear ho6 hb6)
              have hlo : Rs.lostB K (Rs.gone K M la []) = false := by rw [gone_lost List.nodup_nil (by simp)]; simp
              have hsub := gone_sub K M la []
              obtain ⟨r1, r2⟩ := rep_is hK.1 (by omega) hsub hlo
              have hlens : ∀ i, i < K + M → (nth (Rs.gone K M la []) i).length ≤ 100000000 := fun i hi => by have := hsub.lens hi; omega
              have HAL : Hid (∀ i, i < K + M → (nth (Rs.all K M la) i).length ≤ 100000000) := Lib.hid fun i hi => by have := HLW.out i hi; omega
              refine (repair_any b K M _ _ _ _ _ (HC5.out _ HX.out.2) HX.out.1 hK.1 (by omega) (by omega) hlens).mono ?_
              rintro e w8 ⟨⟨a8, m8, c8, rfl, h8⟩, hb8⟩
              rw [r2] at h8
              rw [r1]
              obtain rfl : m8 = K + M := by rw [← h8.1, HLAL.out]
              have H8 := Lib.hid h8
              have HB8 := Lib.hid (HX.out.2.trans (hb8.mono HX.out.2.size))
              clear hsub r1 r2 hlens h8 hb8 hlo
              obtain ⟨q1, q2⟩ := rep_is (K := K) (M := M) (d := la) (l := Rs.gone K M la []) hK.1 (by omega) (gone_sub K M la []) (by rw [gone_lost List.nodup_nil (by simp)]; simp)
              rw [gone_none] at q1 q2
              have Q1 := Lib.hid q1
              have Q2 := Lib.hid q2
              clear q1 q2
              go_wp2_with fail
              refine (repair_any b K M _ _ _ _ w8 (HC5.out _ HB8.out) H8.out hK.1 (by omega) (by omega) HAL.out).mono ?_
              rintro e w9 ⟨⟨a9, m9, c9, rfl, h9⟩, hb9⟩
              rw [Q2.out] at h9
              rw [Q1.out]
              obtain rfl : m9 = K + M := by rw [← h9.1, HLAL.out]
              have H9 := Lib.hid h9
              have HB9 := Lib.hid (HB8.out.trans (hb9.mono HB8.out.size))
              have H89 := Lib.hid (H8.out.below hb9)
              clear h9 hb9
              go_wp2_with fail
              refine (same_yes _ _ _ _ _ _ _ w9 H89.out (HS5.out _ HB9.out)).mono ?_
              rintro e w10 ⟨rfl, hb10⟩
              have HB10 := Lib.hid (HB9.out.trans (hb10.mono HB9.out.size))
              have H910 := Lib.hid (H9.out.below hb10)
              clear hb10
              go_wp2_with fail
              refine (same_yes _ _ _ _ _ _ _ w10 H910.out (HS5.out _ HB10.out)).mono ?_
              rintro e w11 ⟨rfl, hb11⟩
              have HB11 := Lib.hid (HWR5.out.trans ((HB10.out.trans (hb11.mono HB10.out.size)).mono HWR5.out.size))
              clear hb11
              go_wp2
              go_ret
              exact ⟨rfl, HB11.out⟩
            · go_wp2_with (at_builtin; refine app_matr (cs := []) rfl _ _ rfl wr.heap.size rfl (ownV_lit wr) rfl U1.out U3.out U4.out (by omega) (le_alloc (Nat.le_refl _)) ?_; intro a6 c6 w6 ho6 hb6 _; simp only [Nat.zero_add, List.nil_append] at ho6; have HX := Lib.hid (And.intro (HOE.out a6 c6 w6 ho6 hb6).bss ((below_alloc wr (.cells #[] 22)).trans hb6)); clear ho6 hb6)
              have hlo : Rs.lostB K (Rs.gone K M la []) = false := by rw [gone_lost List.nodup_nil (by simp)]; simp
              have hsub := gone_sub K M la []
              obtain ⟨r1, r2⟩ := rep_is hK.1 (by omega) hsub hlo
              have hlens : ∀ i, i < K + M → (nth (Rs.gone K M la []) i).length ≤ 100000000 := fun i hi => by have := hsub.lens hi; omega
              have HAL : Hid (∀ i, i < K + M → (nth (Rs.all K M la) i).length ≤ 100000000) := Lib.hid fun i hi => by have := HLW.out i hi; omega
              refine (repair_any b K M _ _ _ _ _ (HC5.out _ HX.out.2) HX.out.1 hK.1 (by omega) (by omega) hlens).mono ?_
              rintro e w8 ⟨⟨a8, m8, c8, rfl, h8⟩, hb8⟩
              rw [r2] at h8
              rw [r1]
              obtain rfl : m8 = K + M := by rw [← h8.1, HLAL.out]
              have H8 := Lib.hid h8
              have HB8 := Lib.hid (HX.out.2.trans (hb8.mono HX.out.2.size))
              clear hsub r1 r2 hlens h8 hb8 hlo
              obtain ⟨q1, q2⟩ := rep_is (K := K) (M := M) (d := la) (l := Rs.gone K M la []) hK.1 (by omega) (gone_sub K M la []) (by rw [gone_lost List.nodup_nil (by simp)]; simp)
              rw [gone_none] at q1 q2
              have Q1 := Lib.hid q1
              have Q2 := Lib.hid q2
              clear q1 q2
              go_wp2_with fail
              refine (repair_any b K M _ _ _ _ w8 (HC5.out _ HB8.out) H8.out hK.1 (by omega) (by omega) HAL.out).mono ?_
              rintro e w9 ⟨⟨a9, m9, c9, rfl, h9⟩, hb9⟩
              rw [Q2.out] at h9
              rw [Q1.out]
              obtain rfl : m9 = K + M := by rw [← h9.1, HLAL.out]
              have H9 := Lib.hid h9
              have HB9 := Lib.hid (HB8.out.trans (hb9.mono HB8.out.size))
              have H89 := Lib.hid (H8.out.below hb9)
              clear h9 hb9
              go_wp2_with fail
              refine (same_yes _ _ _ _ _ _ _ w9 H89.out (HS5.out _ HB9.out)).mono ?_
              rintro e w10 ⟨rfl, hb10⟩
              have HB10 := Lib.hid (HB9.out.trans (hb10.mono HB9.out.size))
              have H910 := Lib.hid (H9.out.below hb10)
              clear hb10
              go_wp2_with fail
              refine (same_yes _ _ _ _ _ _ _ w10 H910.out (HS5.out _ HB10.out)).mono ?_
              rintro e w11 ⟨rfl, hb11⟩
              have HB11 := Lib.hid (HWR5.out.trans ((HB10.out.trans (hb11.mono HB10.out.size)).mono HWR5.out.size))
              clear hb11
              go_wp2
              go_ret
              exact ⟨rfl, HB11.out⟩
            · have hq4 : ¬ 0 < M := by omega
              have hq5 : decide ((0 : Int) < (M : Int)) = false := decide_eq_false (by omega)
              clear hq3
              go_wp2_with (at_builtin; refine app_matr (cs := []) rfl _ _ rfl wr.heap.size rfl (ownV_lit wr) rfl U1.out U3.out U4.out (by omega) (le_alloc (Nat.le_refl _)) ?_; intro a6 c6 w6 ho6 hb6 _; simp only [Nat.zero_add, List.nil_append] at ho6; have HX := Lib.hid (And.intro (HOE.out a6 c6 w6 ho6 hb6).bss ((below_alloc wr (.cells #[] 22)).trans hb6)); clear ho6 hb6)
              have hlo : Rs.lostB K (Rs.gone K M la []) = false := by rw [gone_lost List.nodup_nil (by simp)]; simp
              have hsub := gone_sub K M la []
              obtain ⟨r1, r2⟩ := rep_is hK.1 (by omega) hsub hlo
              have hlens : ∀ i, i < K + M → (nth (Rs.gone K M la []) i).length ≤ 100000000 := fun i hi => by have := hsub.lens hi; omega
              have HAL : Hid (∀ i, i < K + M → (nth (Rs.all K M la) i).length ≤ 100000000) := Lib.hid fun i hi => by have := HLW.out i hi; omega
              refine (repair_any b K M _ _ _ _ _ (HC5.out _ HX.out.2) HX.out.1 hK.1 (by omega) (by omega) hlens).mono ?_
              rintro e w8 ⟨⟨a8, m8, c8, rfl, h8⟩, hb8⟩
              rw [r2] at h8
              rw [r1]
              obtain rfl : m8 = K + M := by rw [← h8.1, HLAL.out]
              have H8 := Lib.hid h8
              have HB8 := Lib.hid (HX.out.2.trans (hb8.mono HX.out.2.size))
              clear hsub r1 r2 hlens h8 hb8 hlo
              obtain ⟨q1, q2⟩ := rep_is (K := K) (M := M) (d := la) (l := Rs.gone K M la []) hK.1 (by omega) (gone_sub K M la []) (by rw [gone_lost List.nodup_nil (by simp)]; simp)
              rw [gone_none] at q1 q2
              have Q1 := Lib.hid q1
              have Q2 := Lib.hid q2
              clear q1 q2
              go_wp2_with fail
              refine (repair_any b K M _ _ _ _ w8 (HC5.out _ HB8.out) H8.out hK.1 (by omega) (by omega) HAL.out).mono ?_
              rintro e w9 ⟨⟨a9, m9, c9, rfl, h9⟩, hb9⟩
              rw [Q2.out] at h9
              rw [Q1.out]
              obtain rfl : m9 = K + M := by rw [← h9.1, HLAL.out]
              have H9 := Lib.hid h9
              have HB9 := Lib.hid (HB8.out.trans (hb9.mono HB8.out.size))
              have H89 := Lib.hid (H8.out.below hb9)
              clear h9 hb9
              go_wp2_with fail
              refine (same_yes _ _ _ _ _ _ _ w9 H89.out (HS5.out _ HB9.out)).mono ?_
              rintro e w10 ⟨rfl, hb10⟩
              have HB10 := Lib.hid (HB9.out.trans (hb10.mono HB9.out.size))
              have H910 := Lib.hid (H9.out.below hb10)
              clear hb10
              go_wp2_with fail
              refine (same_yes _ _ _ _ _ _ _ w10 H910.out (HS5.out _ HB10.out)).mono ?_
              rintro e w11 ⟨rfl, hb11⟩
              have HB11 := Lib.hid (HWR5.out.trans ((HB10.out.trans (hb11.mono HB10.out.size)).mono HWR5.out.size))
              clear hb11
              go_wp2
              go_ret
              exact ⟨rfl, HB11.out⟩
end Go.Proofs.Ytppgbapfmijboaa
