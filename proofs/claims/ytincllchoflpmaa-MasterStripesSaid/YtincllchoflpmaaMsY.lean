/- MasterStripes. -/
import Derived.Test.YtincllchoflpmaaMsX
import Derived.Test.YtincllchoflpmaaMx
import Derived.Test.YtincllchoflpmaaOnl
namespace Go.Proofs.Ytincllchoflpmaa
open Go.RowKit Go.Deep
set_option linter.unusedVariables false
set_option linter.unusedSimpArgs false

def Ms.laid (l : List Int) : Cf := Ms.zero.run (l.map (fun z => ⟨4, z, 0, 0⟩))
theorem laid_snoc (l : List Int) (z : Int) : Ms.laid (l ++ [z]) = (Ms.laid l).run [⟨4, z, 0, 0⟩] := by
  unfold Ms.laid Cf.run
  rw [List.map_append, List.foldl_append]
  rfl
theorem laid_ok (l : List Int) : (Ms.laid l).Ok := Cf.run_ok Ms.zero_ok _
theorem infoB : (Try.prog.info? 4).map (fun i => (i.zero, i.size, i.bytes)) = some (some (.bool false), 1, 1) := by kernel_rfl
theorem stores_nodup {c : Cf} (h : c.Ok) : c.stores.Nodup := h.rise.imp (fun h e => by omega)
theorem stores_node {c : Cf} (h : c.Ok) {x : Int} (hx : x ∈ c.stores) : ∃ k : Nat, x = (k : Int) ∧ k < 16 := by
  have := h.st x hx
  simp [Ms.node] at this
  exact ⟨x.toNat, by omega, by omega⟩
/-- While stripes are counted. -/
structure StS (W wr : World) (bc : Nat) (l : List Int) : Prop where
  below : Below W.heap.size W wr
  lo : W.heap.size ≤ bc
  row : rowTo wr bc 3 16 (fun v => .int .i64 ((l.count ((v : Nat) : Int) : Nat) : Int))
theorem StS.later {W wr w' : World} {bc : Nat} {l : List Int} (h : StS W wr bc l) (hb : Below wr.heap.size wr w') : StS W w' bc l :=
  ⟨h.below.trans (hb.mono h.below.size), h.lo, h.row.below hb⟩
theorem Is.onl {w w' : World} {a : Option Addr} {n c : Nat} {l : List Int} {S : Nat → Prop} (h : Is w a n c l) (k : Onl w w' S) (hb : ∀ y, a = some y → ¬ S y.block) : Is w' a n c l := by
  refine ⟨h.1, h.2.1, h.2.2.1, fun j v hj => ?_, h.2.2.2.2⟩
  obtain ⟨b, off, e, hc⟩ := h.2.2.2.1 j v hj
  exact ⟨b, off, e, k.cell hc (hb _ e)⟩
/-- While one stripe is counted: R's first k are seen. -/
structure StK (V wr : World) (bc bs : Nat) (l R : List Int) (k : Nat) : Prop where
  onl : Onl V wr (fun b => b = bc ∨ b = bs)
  cnt : rowTo wr bc 3 16 (fun v => .int .i64 (((l ++ R.take k).count ((v : Nat) : Int) : Nat) : Int))
  seen : rowTo wr bs 4 16 (fun v => .bool (decide (((v : Nat) : Int) ∈ R.take k)))
theorem StK.step {V wr : World} {bc bs : Nat} {l R : List Int} {k x : Nat} (h : StK V wr bc bs l R k) (hne : bc ≠ bs) (hk : k < R.length) (hx : nth R k = (x : Int)) :
    StK V ((wr.setCell ⟨bs, x, none⟩ (.bool true)).setCell ⟨bc, x, none⟩ (.int .i64 ((((l ++ R.take k).count (x : Int) : Nat) : Int) + 1))) bc bs l R (k + 1) := by
  have ht := take_snoc R hk
  rw [hx] at ht
  refine ⟨(h.onl.set (a := ⟨bs, x, none⟩) (.inr rfl) _).set (a := ⟨bc, x, none⟩) (.inl rfl) _, ?_, ?_⟩
  · refine ((h.cnt.setOther (a := ⟨bs, x, none⟩) hne _).set x _).congr fun v hv => ?_
    rw [ht, ← List.append_assoc, List.count_append]
    by_cases e : v = x
    · subst e; simp; omega
    · rw [if_neg e]
      have : ¬ ((x : Int) = (v : Int)) := by omega
      simp [List.count_cons, this]
  · refine ((h.seen.set x _).setOther (a := ⟨bc, x, none⟩) (Ne.symm hne) _).congr fun v hv => ?_
    rw [ht]
    by_cases e : v = x
    · subst e; simp
    · rw [if_neg e]
      have : ¬ ((v : Int) = (x : Int)) := by omega
      simp [this]
set_option maxRecDepth 8000 in
set_option maxHeartbeats 10000000 in
theorem masterStripes_walk (a : Option Addr) (n cp : Nat) (l : List Int) (s : Nat) (m : Int) (w : World) (hl : Is w a n cp l) (hs : U64 s) (hm : -9223372036854775808 ≤ m ∧ m ≤ 9223372036854775807) :
    Calls Try.prog 8 #[.slice a n cp, .int .u64 s, .int .i64 m] w fun e w' => e = .returned (.bool true) ∧ Below w.heap.size w w' := by
  have HL := Lib.hid hl
  have hle := hl.le.1
  have HNL := Lib.hid hl.1
  have HM := Lib.hid hm
  have HKN := Lib.hid (known_any w)
  have HS := Lib.hid hs
  clear hl hm hs
  go_enter Try.func8, Try.ntmps8
  go_wp2_with fail
  refine HKN.out.mono ?_
  rintro e w1 ⟨rfl, hb⟩
  have HB1 := Lib.hid hb
  clear hb HKN
  go_upto_region 4 with fail
  have hc := cf_box w1 Ms.zero none 0 none 0
  have hb2 := below_alloc1 w1 (.cells #[.int .i64 0, .slice none 0 0, .slice none 0 0] 41)
  have hz2 := World.size_alloc w1 (.cells #[.int .i64 0, .slice none 0 0, .slice none 0 0] 41)
  have hf2 : ∀ j, (w1.alloc (.cells #[.int .i64 0, .slice none 0 0, .slice none 0 0] 41)).frozen? ⟨w1.heap.size, j, none⟩ = false := fun j => (frozen?_alloc_cells _ _ _ _).trans (by simp [World.frozen?])
  have hc' : CfAt (w1.alloc (.cells #[.int .i64 0, .slice none 0 0, .slice none 0 0] 41)) w1.heap.size Ms.zero none 0 none 0 := hc
  obtain ⟨W2, hW2⟩ : ∃ W2, w1.alloc (.cells #[.int .i64 0, .slice none 0 0, .slice none 0 0] 41) = W2 := ⟨_, rfl⟩
  obtain ⟨b3, hb3⟩ : ∃ b, b = w1.heap.size := ⟨_, rfl⟩
  rw [hW2] at hc' hb2 hz2 hf2 ⊢
  rw [← hb3] at hc' hz2 hf2 ⊢
  obtain ⟨B, hB⟩ : ∃ B, B = W2.heap.size := ⟨_, rfl⟩
  have HP : Hid (w.heap.size ≤ b3 ∧ b3 < B) := Lib.hid ⟨by rw [hb3]; exact HB1.out.size, by omega⟩
  have HI0 : Hid (HoldI w W2 B b3 (Ms.laid (l.take 0))) := Lib.hid ⟨none, 0, none, 0, hc', ⟨AccM.nil _ _, AccI.nil _ _⟩, hf2, HB1.out.trans (hb2.mono HB1.out.size), by omega, by omega⟩
  have HB2 : Hid (Below w.heap.size w W2) := Lib.hid (HB1.out.trans (hb2.mono HB1.out.size))
  clear hc hc' hb2 hz2 hf2 hW2 hb3 hB HB1
  by_cases hbig : 16 < n
  · have t : decide ((16 : Int) < (n : Int)) = true := decide_eq_true (by omega)
    clear hbig
    go_wp2
    go_ret
    exact ⟨rfl, HB2.out⟩
  have t : decide ((16 : Int) < (n : Int)) = false := decide_eq_false (by omega)
  clear hbig
  go_wp2_with fail
  go_loopw [8] (fun i wr => ∃ k : Nat, k ≤ n ∧ i = .int .i64 k ∧ Hid (HoldI w wr B b3 (Ms.laid (l.take k)))) (fun i _ => n - (intOf i).toNat)
  case atStart => exact ⟨0, Nat.zero_le _, rfl, HI0⟩
  case round =>
    clear HI0 HB2 t
    obtain ⟨k, hk, rfl, hI⟩ := hrel
    obtain ⟨W, hW⟩ : ∃ W, W = wr := ⟨_, rfl⟩
    subst hW
    obtain ⟨c, hck⟩ : ∃ c, c = Ms.laid (l.take k) := ⟨_, rfl⟩
    have HOK : Hid c.Ok := Lib.hid (by rw [hck]; exact laid_ok _)
    have hIo := hI.out
    rw [← hck] at hI hIo
    obtain ⟨ac, cc, ast, cs, hcf, hco, hfz, hbz, hBz, hbl⟩ := hIo
    have p0 := hcf.epoch
    have p1 := hcf.chain
    have p2 := hcf.stores
    by_cases hlt : k < n
    case neg =>
      obtain rfl : k = n := by omega
      have hr := CfO.r hco
      have HR := Lib.hid hr
      have HBW := Lib.hid hbz
      have h16 := Cf.stores16 HOK.out
      obtain ⟨L, hLe⟩ : ∃ L, L = c.stores := ⟨_, rfl⟩
      have HND : Hid (L.Nodup ∧ ∀ x ∈ L, ∃ k : Nat, x = (k : Int) ∧ k < 16) := Lib.hid (by rw [hLe]; exact ⟨stores_nodup HOK.out, fun x hx => stores_node HOK.out hx⟩)
      have HL2 : Hid (L = c.stores) := Lib.hid hLe
      obtain ⟨N, hN⟩ : ∃ N, N = c.stores.length := ⟨_, rfl⟩
      have HN := Lib.hid hN
      rw [← hN] at p2 h16
      clear hr hcf hco hfz hbz hBz hck hLe hN hI HL HNL HP
      go_upto_region 11 with fail
      by_cases hbad : m < 1 ∨ (N : Int) < m
      · have hsn := stripe_no c ac ast cc cs s m W HR.out (by rw [← HN.out]; exact hbad) (by rw [← HN.out]; exact h16)
        unfold cval at hsn
        rw [← HN.out] at hsn
        have HSN := Lib.hid hsn
        clear hsn
        by_cases hm1 : m < 1
        · have t1 : decide (m < (1 : Int)) = true := decide_eq_true hm1
          have t2 : decide ((1 : Int) ≤ m) = false := decide_eq_false (by omega)
          clear hbad hm1
          go_wp2_with fail
          refine HSN.out.mono ?_
          rintro e w5 ⟨kk, hkk, rfl, hb⟩
          have HBE := Lib.hid (HBW.out.trans (hb.mono HBW.out.size))
          clear HSN hb
          go_wp2
          go_ret
          exact ⟨rfl, HBE.out⟩
        · have t1 : decide (m < (1 : Int)) = false := decide_eq_false hm1
          have t2 : decide ((1 : Int) ≤ m) = true := decide_eq_true (by omega)
          have t3 : decide ((N : Int) < m) = true := decide_eq_true (by omega)
          have t4 : decide (m ≤ (N : Int)) = false := decide_eq_false (by omega)
          clear hbad hm1
          go_wp2_with fail
          refine HSN.out.mono ?_
          rintro e w5 ⟨kk, hkk, rfl, hb⟩
          have HBE := Lib.hid (HBW.out.trans (hb.mono HBW.out.size))
          clear HSN hb
          go_wp2
          go_ret
          exact ⟨rfl, HBE.out⟩
      obtain ⟨M, rfl⟩ : ∃ M : Nat, m = (M : Int) := ⟨m.toNat, by omega⟩
      have hM : 1 ≤ M ∧ M ≤ N := by omega
      have HMM := Lib.hid hM
      have t1 : decide ((M : Int) < (1 : Int)) = false := decide_eq_false (by omega)
      have t2 : decide ((1 : Int) ≤ (M : Int)) = true := decide_eq_true (by omega)
      have t3 : decide (N < M) = false := decide_eq_false (by omega)
      have t4 : decide (M ≤ N) = true := decide_eq_true (by omega)
      have HST : Hid (∀ (q : Nat) (V : World), Below W.heap.size W V → Calls Try.prog 29 #[.agg #[.int .i64 c.epoch, .slice ac c.chain.length cc, .slice ast N cs], .int .u64 q, .int .i64 M] V (StripeP V (Ms.rot L q M) M)) := Lib.hid fun q V hV => by
        have := stripe_yes c ac ast cc cs q M V (HR.out.below hV) HMM.out.1 (by rw [← HN.out]; exact HMM.out.2) (by rw [← HN.out]; exact h16)
        unfold cval at this
        rw [← HN.out, ← HL2.out] at this
        exact this
      clear hbad
      by_cases hbg : 1152921504606846976 < s
      · have t5 : decide ((1152921504606846976 : Int) < (s : Int)) = true := decide_eq_true (by omega)
        clear hbg hM
        go_wp2_with fail
        refine (HST.out s W (Below.refl _ _)).mono ?_
        rintro e w5 ⟨al, cl, rfl, hi, hfr, hb⟩
        have HBE := Lib.hid (HBW.out.trans (hb.mono HBW.out.size))
        clear hb hi hfr
        go_wp2
        go_ret
        exact ⟨rfl, HBE.out⟩
      have t5 : decide ((1152921504606846976 : Int) < (s : Int)) = false := decide_eq_false (by omega)
      have hmk : ∀ w : World, (Instr.makeSlice 39 (.int .i64 16) (.int .i64 16)).run Try.prog w = .ok (.slice (some ⟨w.heap.size, 0, none⟩) 16 16) (w.alloc (.cells (madeCells #[.int .i64 0] 16) 3)) :=
        fun w => run_make_row' (P := Try.prog) 39 3 (.int .i64 0) 8 Try.underlying39 infoI rfl .i64 .i64 16 (by omega) (by omega) w
      go_upto_region 15 with fail
      obtain ⟨V0, hV0⟩ : ∃ V0, W.alloc (.cells (madeCells #[.int .i64 0] 16) 3) = V0 := ⟨_, rfl⟩
      obtain ⟨bc, hbc⟩ : ∃ b, b = W.heap.size := ⟨_, rfl⟩
      have HS0 : Hid (StS W V0 bc (Ms.seenL L s M 0)) := Lib.hid (by
        rw [← hV0, hbc]
        exact ⟨below_alloc1 W _, Nat.le_refl _, (rowTo.of_is (World.rowIs_made W (.int .i64 0) 16 3)).congr fun i _ => by simp [Ms.seenL]⟩)
      rw [hV0, ← hbc]
      have hNle : N ≤ 16 := h16
      have HSL : Hid (s ≤ 1152921504606846976) := Lib.hid (by omega)
      clear hV0 hbc t1 t2 t3 t4 t5 hbg hM h16 hmk
      go_wp2_with fail
      go_loopw [13] (fun i wr => ∃ j : Nat, j ≤ N ∧ i = .int .i64 j ∧ Hid (StS W wr bc (Ms.seenL L s M j))) (fun i _ => N - (intOf i).toNat)
      case atStart => exact ⟨0, Nat.zero_le _, rfl, HS0⟩
      case round =>
        clear HS0
        obtain ⟨j, hj, rfl, hS⟩ := hrel
        obtain ⟨V, hV⟩ : ∃ V, V = wr := ⟨_, rfl⟩
        subst hV
        replace p0 := cell_later hS.out.below p0
        replace p1 := cell_later hS.out.below p1
        replace p2 := cell_later hS.out.below p2
        by_cases hlj : j < N
        · obtain ⟨q, hq⟩ : ∃ q, q = s + j := ⟨_, rfl⟩
          have hw1 : IntKind.u64.wrap (j : Int) = (j : Int) := by rw [IntKind.wrap_u64]; omega
          have hw2 : (s : Int) + (j : Int) = (q : Int) := by omega
          have hw3 : IntKind.u64.wrap (q : Int) = (q : Int) := by have := HSL.out; rw [IntKind.wrap_u64]; omega
          have HQ : Hid (Ms.seenL L s M (j + 1) = Ms.seenL L s M j ++ Ms.rot L q M) := Lib.hid (by rw [hq]; exact seenL_succ _ _ _ _)
          clear hq
          go_wp2_with fail
          refine (HST.out q V hS.out.below).mono ?_
          rintro e w5 ⟨al, cl, rfl, hi, hfr, hb⟩
          have hmm : ((M : Int) != (M : Int)) = false := by simp
          have hmk2 : ∀ w : World, (Instr.makeSlice 62 (.int .i64 16) (.int .i64 16)).run Try.prog w = .ok (.slice (some ⟨w.heap.size, 0, none⟩) 16 16) (w.alloc (.cells (madeCells #[.bool false] 16) 4)) :=
            fun w => run_make_row' (P := Try.prog) 62 4 (.bool false) 1 Try.underlying62 infoB rfl .i64 .i64 16 (by omega) (by omega) w
          go_upto_region 22 with fail
          obtain ⟨V6, hV6⟩ : ∃ V6, w5.alloc (.cells (madeCells #[.bool false] 16) 4) = V6 := ⟨_, rfl⟩
          obtain ⟨bs, hbs⟩ : ∃ b, b = w5.heap.size := ⟨_, rfl⟩
          obtain ⟨R, hR⟩ : ∃ R, R = Ms.rot L q M := ⟨_, rfl⟩
          have hb6 := below_alloc1 w5 (.cells (madeCells #[.bool false] 16) 4)
          have hz6 := World.size_alloc w5 (.cells (madeCells #[.bool false] 16) 4)
          have hr6 := rowTo.of_is (World.rowIs_made w5 (.bool false) 16 4)
          rw [hV6] at hb6 hz6 hr6 ⊢
          rw [← hbs] at hr6 ⊢
          rw [← hR] at HQ hi
          have hbV6 : Below V.heap.size V V6 := hb.trans ((show Below w5.heap.size w5 V6 from hb6).mono hb.size)
          have HBV6 := Lib.hid hbV6
          have HI6 := Lib.hid (hi.below hb6)
          have HFR : Hid ((∀ y, al = some y → ¬ (y.block = bc ∨ y.block = bs)) ∧ bc ≠ bs ∧ V.heap.size ≤ bs) := Lib.hid (by
            have h1 := hS.out.row.lt
            have h2 := hb.size
            refine ⟨fun y hy => ?_, by omega, by omega⟩
            have := hfr y hy
            omega)
          have HRN : Hid (R.Nodup ∧ R.length = M ∧ ∀ x ∈ R, ∃ k : Nat, x = (k : Int) ∧ k < 16) := Lib.hid (by
            rw [hR]
            have hLN : M ≤ L.length := by rw [HL2.out, ← HN.out]; exact HMM.out.2
            exact ⟨rot_nodup HND.out.1 _ _, rot_len hLN, fun x hx => HND.out.2 x (rot_mem hx)⟩)
          have HK0 : Hid (StK V6 V6 bc bs (Ms.seenL L s M j) R 0) := Lib.hid ⟨Onl.refl _ _, (hS.out.later hbV6).row.congr fun v _ => by simp, hr6.congr fun v _ => by simp⟩
          have HLL : Hid ((Ms.seenL L s M j).length ≤ 1000000) := Lib.hid (by
            have hlen : ∀ i, (Ms.seenL L s M i).length = i * M := by
              intro i
              induction i with
              | zero => simp [Ms.seenL]
              | succ i ih =>
                rw [seenL_succ, List.length_append, ih, rot_len (by rw [HL2.out, ← HN.out]; exact HMM.out.2), Nat.succ_mul]
            rw [hlen]
            have h1 := HMM.out.2
            have h2 : j * M ≤ 16 * 16 := Nat.mul_le_mul (by omega) (by omega)
            omega)
          clear hV6 hbs hb6 hz6 hr6 hR hbV6 hi hfr hb hw1 hw2 hw3 hmk2 hmm
          have hM16 : M ≤ 16 := by have := HMM.out.2; omega
          go_wp2_with fail
          go_loopw [17] (fun i wr => ∃ k : Nat, k ≤ M ∧ i = .int .i64 k ∧ Hid (StK V6 wr bc bs (Ms.seenL L s M j) R k)) (fun i _ => M - (intOf i).toNat)
          case atStart => exact ⟨0, Nat.zero_le _, rfl, HK0⟩
          case round =>
            clear HK0
            obtain ⟨k2, hk2, rfl, hK⟩ := hrel
            by_cases hlk : k2 < M
            · obtain ⟨b, off, rfl, hat⟩ := (HI6.out.onl hK.out.onl HFR.out.1).get (i := k2) hlk
              obtain ⟨x, hx, hx16⟩ := HRN.out.2.2 (nth R k2) (by rw [nth_eq _ (by rw [HRN.out.2.1]; exact hlk)]; exact List.getElem_mem _)
              rw [hx] at hat
              have hnot : decide ((x : Int) ∈ R.take k2) = false := by
                refine decide_eq_false fun hmem => ?_
                obtain ⟨i2, hi2, e⟩ := List.mem_iff_getElem.1 hmem
                rw [List.length_take] at hi2
                rw [List.getElem_take] at e
                have hkl : k2 < R.length := by rw [HRN.out.2.1]; exact hlk
                rw [nth_eq _ hkl] at hx
                exact (List.pairwise_iff_getElem.1 HRN.out.1 i2 k2 (by omega) hkl (by omega)) (e.trans hx.symm)
              have c1 := hK.out.seen.cell hx16
              rw [hnot] at c1
              have f1 := hK.out.seen.frozen x
              have c2 := hK.out.cnt.cell hx16
              have f2 := hK.out.cnt.frozen x
              have HST2 := Lib.hid (hK.out.step HFR.out.2.1 (by rw [HRN.out.2.1]; exact hlk) hx)
              obtain ⟨cn, hcn⟩ : ∃ cn, cn = (Ms.seenL L s M j ++ R.take k2).count (x : Int) := ⟨_, rfl⟩
              have hcb : (cn : Int) + 1 ≤ 9223372036854775807 := by
                have h1 := HLL.out
                have h2 : cn ≤ (Ms.seenL L s M j ++ R.take k2).length := by rw [hcn]; exact List.count_le_length
                rw [List.length_append, List.length_take] at h2
                have h3 := HRN.out.2.1
                have h4 := HMM.out.2
                omega
              rw [← hcn] at c2 HST2
              obtain ⟨ci, hci⟩ : ∃ ci : Int, ci = (cn : Int) := ⟨_, rfl⟩
              have hcj : -9223372036854775808 ≤ ci + 1 := by omega
              rw [← hci] at c2 HST2 hcb
              clear hci
              have hne := HFR.out.2.1
              have hne2 : bs ≠ bc := hne.symm
              have i1 : (0 : Int) ≤ (x : Int) := by omega
              have i2 : (x : Int) < 16 := by omega
              have i3 : decide ((x : Int) < 0) = false := decide_eq_false (by omega)
              have i4 : decide ((15 : Int) < (x : Int)) = false := decide_eq_false (by omega)
              have i5 : decide (15 < x) = false := decide_eq_false (by omega)
              have c3 : (wr.setCell ⟨bs, x, none⟩ (.bool true)).cell? ⟨bc, x, none⟩ = some (.int .i64 ci) := by
                rw [World.cell?_setCell_other _ _ _ _ (fun e => hne2 (by cases e; rfl))]
                exact c2
              have hbne : b ≠ bs := fun e => HFR.out.1 _ rfl (.inr e)
              have hat9 : (wr.setCell ⟨bs, x, none⟩ (.bool true)).cell? ⟨b, off + k2, none⟩ = some (.int .i64 (x : Int)) := by
                rw [World.cell?_setCell_other _ _ _ _ (fun e => hbne (by cases e; rfl))]
                exact hat
              have hcw : IntKind.i64.wrap (ci + 1) = ci + 1 := IntWalk.i64_in _ ⟨hcj, hcb⟩
              clear hnot hx hcn hK hcb hcj
              go_upto_region 28 with fail
              obtain ⟨W9, hW9⟩ : ∃ W9, wr.setCell ⟨bs, x, none⟩ (.bool true) = W9 := ⟨_, rfl⟩
              have f3 : W9.frozen? ⟨bc, x, none⟩ = false := by rw [← hW9]; simp [f2]
              rw [hW9] at c3 hat9 HST2 ⊢
              clear hW9 c1 c2 f1 f2 hat
              go_wp2
              go_roundw
              case rel => exact ⟨k2 + 1, by omega, by go_num, HST2⟩
              case measure => simp [intOf]; omega
            · obtain rfl : k2 = M := by omega
              have HS2 : Hid (StS W wr bc (Ms.seenL L s k2 (j + 1))) := Lib.hid (by
                rw [HQ.out]
                refine ⟨hS.out.below.trans (((Onl.of_below HBV6.out).trans ?_ : Onl V wr (fun b => b = bc ∨ V.heap.size ≤ b)).below hS.out.below.size ?_), hS.out.lo, hK.out.cnt.congr fun v _ => ?_⟩
                · exact hK.out.onl.mono fun b hb => hb.elim .inl (fun e => .inr (by rw [e]; exact HFR.out.2.2))
                · intro b hb
                  rcases hb with e | e
                  · rw [e]; exact hS.out.lo
                  · exact Nat.le_trans hS.out.below.size e
                · rw [List.take_of_length_le (by rw [HRN.out.2.1]; exact Nat.le_refl _)])
              clear hK
              go_wp2
              go_roundw
              case rel => exact ⟨j + 1, by omega, by go_num, HS2⟩
              case measure => simp [intOf]; omega
        · obtain rfl : j = N := by omega
          have hlenL : L.length = j := by rw [HL2.out, ← HN.out]
          have HALL : Hid (∀ x ∈ L, (Ms.seenL L s M j).count x = M) := Lib.hid fun x hx => by
            have := seenL_all HND.out.1 hx s M (by rw [hlenL]; exact HMM.out.2)
            rwa [hlenL] at this
          have HIL : Hid (Is V ast j cs L) := Lib.hid (by
            have := (HR.out.below hS.out.below).stores
            rw [← HN.out, ← HL2.out] at this
            exact this)
          have HBE := Lib.hid (HBW.out.trans (hS.out.below.mono HBW.out.size))
          go_wp2_with fail
          go_loop [18] (fun i => ∃ k : Nat, k ≤ j ∧ i = .int .i64 k) (fun i => j - (intOf i).toNat)
          case atStart => exact ⟨0, Nat.zero_le _, rfl⟩
          case round =>
            obtain ⟨k3, hk3, rfl⟩ := hrel
            by_cases hlk : k3 < j
            · obtain ⟨b, off, rfl, hat⟩ := HIL.out.get (i := k3) hlk
              have hmem : nth L k3 ∈ L := by rw [nth_eq _ (by rw [hlenL]; exact hlk)]; exact List.getElem_mem _
              obtain ⟨x, hx, hx16⟩ := HND.out.2 _ hmem
              have c2 := hS.out.row.cell hx16
              have hcm := HALL.out _ hmem
              rw [hx] at hcm hat
              rw [hcm] at c2
              have i1 : (0 : Int) ≤ (x : Int) := by omega
              have i2 : (x : Int) < 16 := by omega
              have hmm : ((M : Int) != (M : Int)) = false := by simp
              clear hmem hx hcm hlenL
              go_wp2
              go_round
              case rel => exact ⟨k3 + 1, by omega, by go_num⟩
              case measure => simp [intOf]; omega
            · obtain rfl : k3 = j := by omega
              clear hlenL
              go_wp2
              go_ret
              exact ⟨rfl, HBE.out⟩
    obtain ⟨b, off, rfl, hat⟩ := (HL.out.below hbz).get hlt
    have HSN : Hid (Ms.laid (l.take (k + 1)) = c.run [⟨4, nth l k, 0, 0⟩]) := Lib.hid (by
      rw [take_snoc l (by rw [HNL.out]; exact hlt), laid_snoc, ← hck])
    obtain ⟨x, hx⟩ : ∃ x, x = nth l k := ⟨_, rfl⟩
    rw [← hx] at hat HSN
    have HCO := Lib.hid (CfO.r hco)
    have i1 : (0 : Int) ≤ (k : Int) := by omega
    have i2 : (k : Int) < (n : Int) := by omega
    have hf := hfz
    clear hx hck hcf hco hbz hfz
    go_upto_region 9 with fail
    refine wp_region_steps [8] 8 8 (by kernel_rfl) (by kernel_rfl) rfl (fun W' => ∃ V : BW W, W' = V.w) ?_
    have HBC := (Below.refl W.heap.size W).drew
    refine anyT_pull [0, 1, 2, 3, 4, 5] 8 2 (by intro c a d v w h; cases d <;> exact h) (by kernel_rfl) ⟨⟨_, HBC⟩, rfl⟩ ?_
    simp only [opsAt, List.filterMap_cons, List.filterMap_nil, List.getElem?_cons_zero, List.getElem?_cons_succ]
    iterate 6
      apply held_step
      · rfl
      · rintro _ ⟨V, rfl⟩
        have m0 := BW.cell p0 V
        have m1 := BW.cell p1 V
        have m2 := BW.cell p2 V
        have m3 := BW.cell hat V
        go_simp
        rfl
    refine held_nil ?_
    refine anyT_one 6 rfl (by kernel_rfl) rfl (fun K hK => ?_)
    go_simp
    have hxs : Xs (W.alloc (.cells #[.int .i64 4, .int .i64 x, .int .i64 0, .int .i64 0] 45)).drew (some ⟨W.heap.size, 0, none⟩) 1 1 [⟨4, x, 0, 0⟩] :=
      (show Xs (W.alloc (.cells #[.int .i64 4, .int .i64 x, .int .i64 0, .int .i64 0] 45)) (some ⟨W.heap.size, 0, none⟩) 1 1 [⟨4, x, 0, 0⟩] from xs_box W [⟨4, x, 0, 0⟩] (by show (1 : Nat) ≤ _; omega)).below (Below.refl _ _).drew
    have hb2 : Below W.heap.size W (W.alloc (.cells #[.int .i64 4, .int .i64 x, .int .i64 0, .int .i64 0] 45)).drew := (below_alloc1 W _).drew
    obtain ⟨W3, hW3⟩ : ∃ W3, (W.alloc (.cells #[.int .i64 4, .int .i64 x, .int .i64 0, .int .i64 0] 45)).drew = W3 := ⟨_, rfl⟩
    rw [hW3] at hxs hb2 ⊢
    have hru := run_any c ac ast cc cs (some ⟨W.heap.size, 0, none⟩) 1 1 _ W3 (HCO.out.below hb2) hxs HOK.out.few
    unfold cval at hru
    have HRU := Lib.hid hru
    have HBW3 := Lib.hid (Nat.le_trans hBz hb2.size)
    replace HBC := hb2
    clear hb2 hxs hru hW3 hBz
    refine hK _ _ ⟨⟨_, HBC⟩, rfl⟩ ?_
    clear hK
    refine anyT_one 7 rfl (by kernel_rfl) rfl (fun K hK => ?_)
    go_simp
    refine HRU.out.mono ?_
    rintro en W4 ⟨a7, c7, a8, c8, rfl, hO, hbn⟩
    obtain ⟨d, hd⟩ : ∃ d, d = c.run [⟨4, x, 0, 0⟩] := ⟨_, rfl⟩
    rw [← hd] at hO HSN ⊢
    simp only [cval]
    replace HBC := HBC.trans (hbn.mono HBC.size)
    have hI4 := hI.out.below HBC
    have HI5 : Hid (HoldI w (cset W4 b3 d a7 c7 a8 c8) B b3 d) := Lib.hid (hI4.cset HP.out.1 HP.out.2 (hO.mono HBW3.out))
    unfold cset at HI5
    replace p0 := cell_later HBC p0
    replace p1 := cell_later HBC p1
    replace p2 := cell_later HBC p2
    have hf4 : ∀ j, W4.frozen? ⟨b3, j, none⟩ = false := fun j => (HBC.frozen (p := ⟨b3, j, none⟩) hbl).trans (hf j)
    refine hK _ _ ⟨⟨_, HBC⟩, rfl⟩ ?_
    clear hK hbn hO HRU hd hI4 hI hf hbl hat HBW3
    refine anyT_done (by kernel_rfl) ?_
    simp only [opsAt, List.filterMap_cons, List.filterMap_nil, List.getElem?_cons_zero, List.getElem?_cons_succ]
    go_wp2
    go_roundw
    case rel => exact ⟨k + 1, by omega, by go_num, by rw [HSN.out]; exact HI5⟩
    case measure => simp [intOf]; omega
end Go.Proofs.Ytincllchoflpmaa
