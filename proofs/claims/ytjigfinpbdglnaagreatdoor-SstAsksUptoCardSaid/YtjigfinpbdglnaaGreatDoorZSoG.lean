/- Sorted tables: the reference's Open, whatever the bytes. -/
import Derived.Test.YtjigfinpbdglnaaGreatDoorZSoF
import Derived.Test.YtjigfinpbdglnaaGreatDoorZSoD
set_option linter.unusedVariables false
set_option linter.unusedSimpArgs false
set_option maxRecDepth 100000
set_option linter.unusedVariables false
set_option linter.unusedSimpArgs false
namespace Go.Proofs.YtjigfinpbdglnaaGreatDoor
open Go.RowKit

theorem num_four {l : List UInt8} (h : l.length = 4) : Sst.num l = (Codec.rf4 (nth l 0) (nth l 1) (nth l 2) (nth l 3)).toNat := by
  match l, h with
  | [a, b, c, d], _ =>
    rw [Codec.rf4_nat]
    simp only [Sst.num, nth, List.getD_eq_getElem?_getD, List.getElem?_cons_zero, List.getElem?_cons_succ, Option.getD_some]
    omega
section
variable {α : Type} {w : World} {o : Oper} {a : Act} {K : Act → World → Prop} {Q : Exit → Act → World → Prop}
theorem step_app_cel (C : Cel α) (s x : Operand) (t T : TypeId) (ho : o.op = .call { callee := .builtin .append, args := #[s, x], argTypes := #[t, t] })
    (ht : Tryz.prog.underlying t = some (.slice T)) {z : Value} {by_ : Nat} (hi : (Tryz.prog.info? T).map (fun i => (i.zero, i.size, i.bytes)) = some (some z, C.s, by_)) (hz : z.cells.size = C.s) (hs0 : 0 < C.s) (hby : by_ ≤ 100)
    (B : Nat) {aq : Option Addr} {n c : Nat} {l : List α} (hs : a.eval s = .slice aq n c) (hacc : Acc C T w B aq n c l)
    {k : Nat} {e : α} (hx : a.eval x = .slice (some ⟨k, 0, none⟩) 1 1) (hcell : ∀ j v, (C.f e)[j]? = some v → w.cell? ⟨k, j, none⟩ = some v) (hb : n ≤ 1000000000) (hB : B ≤ w.heap.size)
    (h : ∀ a' c' w', Acc C T w' B a' (n + 1) c' (l ++ [e]) → Below B w w' → Evol w aq w' a' → K (a.put o.dst (.slice a' (n + 1) c')) w') : o.wp Tryz.prog a w K Q := by
  obtain ⟨i, hi', h0, h1, h2⟩ := info_parts hi
  have hr : Row w (some ⟨k, 0, none⟩) (C.f e) := fun j v hj => ⟨k, 0, rfl, by rw [Nat.zero_add]; exact hcell j v hj⟩
  obtain ⟨a', c', w', hr', g1, g2⟩ := run_append_own' (P := Tryz.prog) w B t o.type T i z C.s by_ ht hi' h0 h1 h2 hz hs0 aq n c (l.flatMap C.f) hacc.2 (some ⟨k, 0, none⟩) 1 1 (C.f e) (by rw [C.len]; omega) hr (C.one e) (by
    have := Nat.mul_le_mul (show n + 1 ≤ 1000000001 by omega) hby
    omega) (by simp only [maxLen]; omega) hB
  unfold Oper.wp execOp
  simp only [ho, resolve, invoke, builtin, Sem.run_bind, Sem.run_pure, Result.andThen_ok, List.map_toArray, List.map_cons, List.map_nil, hs, hx, hr']
  exact h a' c' w' ⟨by simp [hacc.1], by rw [List.flatMap_append]; simpa using g1⟩ (g2.below hB (fun x hx => by subst hx; exact (World.ownsRow.lt hacc.2 x.block rfl).1)) g2
end
/-- A table of the reference's. -/
structure Rtb (w : World) (bk : Nat) (a : Option Addr) (n c : Nat) (l : List Ent) (ab : Option Addr) (m cb : Nat) (bl : List Bk) (af : Option Addr) (nf cf : Nat) (f : List UInt8) : Prop where
  heap : w.heap[bk]? = some (.cells #[.slice a n c, .slice ab m cb, .slice af nf cf] 46 (0, 0))
  es : Es w a n c l
  rd : Rd celR w ab m cb bl
  fs : Bs w af nf cf f
/-- What the reference's Open tells. -/
def RetRop (R : Except (Nat × Nat) (List Ent × List Bk)) (w : World) (e : Ending) (w' : World) : Prop := Below w.heap.size w w' ∧
  ((∃ k er : Nat, R = .error (k, er) ∧ er ≠ 0 ∧ e = .returned (.tuple #[.pointer none, .int .i64 k, .int .i64 er])) ∨
   (∃ L bl bt al cl ab cb af nf cf, R = .ok (L, bl) ∧ e = .returned (.tuple #[.pointer (some ⟨bt, 0, none⟩), .int .i64 0, .int .i64 0]) ∧ Rtb w' bt al L.length cl L ab bl.length cb bl af nf cf (Sst.filter L)))
theorem rop_no {R : Except (Nat × Nat) (List Ent × List Bk)} {w w1 : World} {k er : Nat} {kk ee : Int} (hR : R = .error (k, er)) (h0 : er ≠ 0) (hb : Below w.heap.size w w1) (hk : kk = k) (he : ee = er) : RetRop R w (.returned (.tuple #[.pointer none, .int .i64 kk, .int .i64 ee])) w1 := by
  subst hk he
  exact ⟨hb, .inl ⟨k, er, hR, h0, rfl⟩⟩
theorem r8_ok {v : Nat} (h : ¬ Sst.r8 v < 0) : Sst.r8 v = v := by
  unfold Sst.r8 at h ⊢
  split
  · rename_i g; rw [if_pos g] at h; omega
  · rfl
theorem r8_small {v : Nat} (h : v ≤ 1000000) : Sst.r8 v = v := by unfold Sst.r8; rw [if_neg (by omega)]
theorem no_rtab {a b e : Option Addr} {n c m k q r : Nat} : ∀ v ∈ [Value.slice a n c, .slice b m k, .slice e q r], ∀ z, v ≠ .int .u8 z := by
  intro v hv z e
  simp only [List.mem_cons, List.not_mem_nil, or_false] at hv
  rcases hv with rfl | rfl | rfl <;> cases e
set_option maxHeartbeats 16000000 in
theorem rop_any (a : Option Addr) (n c : Nat) (b : List UInt8) (w : World) (h : Bs w a n c b) (hbig : n ≤ 1000000) :
    Calls Tryz.prog 22 #[.slice a n c] w (RetRop (Sst.opn b) w) := by
  have hn := h.1
  have hnc := h.2.1
  have hle := h.le
  by_cases hn28 : n < 28
  · have HR := Lib.hid (opn_short (b := b) (by omega))
    have t0 : decide ((n : Int) < 28) = true := decide_eq_true (by omega)
    have t0' : decide (n < 28) = true := decide_eq_true hn28
    clear hn h
    go_enter Tryz.func22, Tryz.ntmps22
    go_wp2
    go_ret3
    exact rop_no HR.out (by decide) (Below.refl _ _) rfl rfl
  have t0 : decide ((n : Int) < 28) = false := decide_eq_false (by omega)
  have t0' : decide (n < 28) = false := decide_eq_false hn28
  obtain ⟨E, hE⟩ : ∃ E, E = n - 28 := ⟨_, rfl⟩
  have glen : b.length = E + 28 := by omega
  have HLEN := Lib.hid glen
  have en : (n : Int) - 28 = (E : Int) := by omega
  have hEn : E ≤ 1000000 ∧ E ≤ n := by omega
  have HNE : Hid (n = E + 28) := Lib.hid (by omega)
  have hno := h.old (by omega)
  have HH : Hid (∀ W, Below w.heap.size w W → Bs W a n c b) := Lib.hid (fun W hb => h.below hb)
  have HAB : Hid (∀ x, a = some x → x.block < w.heap.size) := Lib.hid hno
  -- the foot
  have sF : ∀ W, (Instr.slice 22 (.slice a n c) (some (.int .i64 (E : Int))) none none).run Tryz.prog W = .ok (.slice (subA a c E) (n - E) (c - E)) W := fun W => slice_l a n c rfl (by omega) W
  have DF : Hid (∀ W, Below w.heap.size w W → Bs W (subA a c E) 28 (c - E) (b.drop E)) := Lib.hid (fun W hb => by have := (HH.out W hb).drop (k := E) (by omega); rwa [show n - E = 28 by omega] at this)
  have e28 : n - E = 28 := by omega
  rw [e28] at sF
  have hcE : 28 ≤ c - E := by omega
  obtain ⟨aE, haE⟩ : ∃ aE, subA a c E = aE := ⟨_, rfl⟩
  obtain ⟨cE, hcEe⟩ : ∃ cE, c - E = cE := ⟨_, rfl⟩
  rw [haE, hcEe] at sF DF
  rw [hcEe] at hcE
  clear haE hcEe e28 hE hn28 glen hn hno
  have s24 : ∀ W, (Instr.slice 22 (.slice aE 28 cE) none (some (.int .i64 24)) none).run Tryz.prog W = .ok (.slice aE 24 cE) W := fun W => slice_h aE 28 cE (by rfl) (by omega) W
  have s24b : ∀ W, (Instr.slice 22 (.slice aE 28 cE) (some (.int .i64 24)) none none).run Tryz.prog W = .ok (.slice (subA aE cE 24) 4 (cE - 24)) W := fun W => slice_l aE 28 cE (lo' := 24) (by rfl) (by omega) W
  have s8 : ∀ W, (Instr.slice 22 (.slice aE 28 cE) (some (.int .i64 8)) none none).run Tryz.prog W = .ok (.slice (subA aE cE 8) 20 (cE - 8)) W := fun W => slice_l aE 28 cE (lo' := 8) (by rfl) (by omega) W
  have s16 : ∀ W, (Instr.slice 22 (.slice aE 28 cE) (some (.int .i64 16)) none none).run Tryz.prog W = .ok (.slice (subA aE cE 16) 12 (cE - 16)) W := fun W => slice_l aE 28 cE (lo' := 16) (by rfl) (by omega) W
  have DK : Hid (∀ k, k ≤ 28 → ∀ W, Below w.heap.size w W → Bs W (subA aE cE k) (28 - k) (cE - k) (b.drop (E + k))) := Lib.hid (fun k hk W hb => by have := (DF.out W hb).drop (k := k) hk; rwa [List.drop_drop] at this)
  have HS := Lib.hid (fun W (hb : Below w.heap.size w W) => refsum_any aE 24 cE _ W ((DF.out W hb).take (k := 24) (by omega)))
  have HF4 := Lib.hid (fun W (hb : Below w.heap.size w W) => readfour_any (subA aE cE 24) 4 (cE - 24) _ W (DK.out 24 (by omega) W hb) (by omega))
  have HSN := Lib.hid (num_four (l := b.drop (E + 24)) (by rw [List.length_drop, HLEN.out]; omega))
  have HOP := Lib.hid (opn_sum HLEN.out)
  have HOQ := Lib.hid (fun h2 h3 => opn_place HLEN.out h2 h3)
  obtain ⟨S24, hS24⟩ : ∃ S, Codec.sum ((b.drop E).take 24) = S := ⟨_, rfl⟩
  obtain ⟨F24, hF24⟩ : ∃ S, Codec.rf4 (nth (b.drop (E + 24)) 0) (nth (b.drop (E + 24)) 1) (nth (b.drop (E + 24)) 2) (nth (b.drop (E + 24)) 3) = S := ⟨_, rfl⟩
  rw [hS24] at HS HOP HOQ
  rw [hF24] at HF4 HSN
  have HS24 := Lib.hid hS24
  rw [HSN.out] at HOP HOQ
  obtain ⟨xs, hxs⟩ : ∃ x, n32 S24 = x := ⟨_, rfl⟩
  obtain ⟨xf, hxf⟩ : ∃ x, n32 F24 = x := ⟨_, rfl⟩
  rw [hxs] at HS
  rw [hxf] at HF4
  have HXS : Hid (xs = xf ↔ S24.toNat = F24.toNat) := Lib.hid (by rw [← hxs, ← hxf]; unfold n32; omega)
  clear hS24 hF24 h hxs hxf
  go_enter Tryz.func22, Tryz.ntmps22
  go_upto_region 5 with fail
  refine wp_region_class (w0 := w) (by kernel_rfl) (by kernel_rfl) (Below.refl _ _) ?_
  repeat (first | go_big_quiet_step (first | (go_at_call 50; exact calls_class_s (HS.out _ (BW.b _))) | (go_at_call 51; exact calls_class (HF4.out _ (BW.b _)))))
  refine wpQuiet_nil ?_
  intro w1 hb1
  replace hb1 := BW.of hb1
  have HB1 := Lib.hid hb1
  clear hb1 HS HF4 s24 s24b
  by_cases hSN : S24.toNat = F24.toNat
  case neg =>
    have HR := Lib.hid (HOP.out hSN)
    have t4 : (xs != xf) = true := by rw [bne_iff_ne]; exact fun e => hSN (HXS.out.1 e)
    clear hSN
    go_wp2
    go_ret3
    exact rop_no HR.out (by decide) HB1.out rfl rfl
  have HSUM := Lib.hid hSN
  have t4 : (xs != xf) = false := by rw [HXS.out.2 hSN]; simp
  clear hSN
  have HN1 := Lib.hid (read8_any aE 28 cE _ w1 (DF.out _ HB1.out) (by omega))
  have HN2 := Lib.hid (read8_any (subA aE cE 8) 20 (cE - 8) _ w1 (DK.out 8 (by omega) _ HB1.out) (by omega))
  obtain ⟨A, hA⟩ : ∃ A, Sst.num ((b.drop E).take 8) = A := ⟨_, rfl⟩
  obtain ⟨T, hT⟩ : ∃ T, Sst.num ((b.drop (E + 8)).take 8) = T := ⟨_, rfl⟩
  rw [hA] at HN1
  rw [hT] at HN2
  rw [hA, hT] at HOQ
  have H2 := Lib.hid hA
  have H3 := Lib.hid hT
  clear hA hT
  obtain ⟨o1, ho1⟩ : ∃ o, Sst.r8 A = o := ⟨_, rfl⟩
  obtain ⟨o2, ho2⟩ : ∃ o, Sst.r8 T = o := ⟨_, rfl⟩
  rw [ho1] at HN1
  rw [ho2] at HN2
  have HO1 := Lib.hid ho1
  have HO2 := Lib.hid ho2
  clear ho1 ho2
  go_wp2_with fail
  refine HN1.out.mono ?_
  rintro en wA ⟨rfl, rfl⟩
  go_wp2_with fail
  refine HN2.out.mono ?_
  rintro en wA ⟨rfl, rfl⟩
  clear HN1 HN2 s8
  have HPL : Hid (¬ (¬ o1 < 0 ∧ ¬ o2 < 0 ∧ ¬ o2 ≤ o1 ∧ ¬ (E : Int) ≤ o2) → Sst.opn b = .error (E, 14)) := Lib.hid (fun hh => HOQ.out (by rw [HSUM.out]) (fun h => hh (by
    have e1 : o1 = A := by rw [← HO1.out]; exact r8_small (by omega)
    have e2 : o2 = T := by rw [← HO2.out]; exact r8_small (by omega)
    omega)))
  by_cases h1 : o1 < 0
  case pos =>
    have HR := Lib.hid (HPL.out (by omega))
    have t1 : decide (o1 < 0) = true := decide_eq_true h1
    clear h1
    go_wp2
    go_ret3
    exact rop_no HR.out (by decide) HB1.out rfl rfl
  have t1 : decide (o1 < 0) = false := decide_eq_false h1
  by_cases h2 : o2 < 0
  case pos =>
    have HR := Lib.hid (HPL.out (by omega))
    have t2 : decide (o2 < 0) = true := decide_eq_true h2
    clear h2
    go_wp2
    go_ret3
    exact rop_no HR.out (by decide) HB1.out rfl rfl
  have t2 : decide (o2 < 0) = false := decide_eq_false h2
  by_cases h3 : o2 ≤ o1
  case pos =>
    have HR := Lib.hid (HPL.out (by omega))
    have t3 : decide (o2 ≤ o1) = true := decide_eq_true h3
    have t3b : decide (o1 ≥ o2) = true := decide_eq_true h3
    clear h3
    go_wp2
    go_ret3
    exact rop_no HR.out (by decide) HB1.out rfl rfl
  have t3 : decide (o2 ≤ o1) = false := decide_eq_false h3
  have t3b : decide (o1 ≥ o2) = false := decide_eq_false h3
  by_cases h4 : (E : Int) ≤ o2
  case pos =>
    have HR := Lib.hid (HPL.out (by omega))
    have t4 : decide ((E : Int) ≤ o2) = true := decide_eq_true h4
    have t4b : decide (o2 ≥ (E : Int)) = true := decide_eq_true h4
    clear h4
    go_wp2
    go_ret3
    exact rop_no HR.out (by decide) HB1.out rfl rfl
  have t4 : decide ((E : Int) ≤ o2) = false := decide_eq_false h4
  have t4b : decide (o2 ≥ (E : Int)) = false := decide_eq_false h4
  have eo1 : o1 = (A : Int) := by rw [← HO1.out]; exact r8_ok (by rw [HO1.out]; exact h1)
  have eo2 : o2 = (T : Int) := by rw [← HO2.out]; exact r8_ok (by rw [HO2.out]; exact h2)
  have lt1 : A < T := by omega
  have lt2 : T < E := by omega
  have HON := Lib.hid (opn_on HLEN.out (by rw [HS24.out, HSUM.out, HSN.out]) H2.out H3.out lt1 lt2)
  subst eo1 eo2
  have t3c : decide (T ≤ A) = false := decide_eq_false (by omega)
  have t4c : decide (E ≤ T) = false := decide_eq_false (by omega)
  have hAn : A ≤ 1000000 ∧ T ≤ n ∧ A ≤ n ∧ T ≤ 1000000 := by omega
  clear HO1 HO2 HPL HOQ HOP h1 h2 h3 h4 H2 H3 HSN HSUM HS24 HXS
  have S8 : Hid (∀ k : Nat, k ≤ A → ∀ W, (Instr.slice 22 (.slice a n c) (some (.int .i64 (k : Int))) (some (.int .i64 (A : Int))) none).run Tryz.prog W = .ok (.slice (subA a c k) (A - k) (c - k)) W) := Lib.hid (fun k hk W => slice_lh a n c rfl rfl hk (by omega) W)
  have s6 : ∀ W, (Instr.slice 22 (.slice a n c) (some (.int .i64 (A : Int))) (some (.int .i64 (T : Int))) none).run Tryz.prog W = .ok (.slice (subA a c A) (T - A) (c - A)) W := fun W => slice_lh a n c rfl rfl (by omega) (by omega) W
  have s7 : ∀ W, (Instr.slice 22 (.slice a n c) (some (.int .i64 (T : Int))) (some (.int .i64 (E : Int))) none).run Tryz.prog W = .ok (.slice (subA a c T) (E - T) (c - T)) W := fun W => slice_lh a n c rfl rfl (by omega) (by omega) W
  have F6 : Hid (∀ W, Below w.heap.size w W → Bs W (subA a c A) (T - A) (c - A) (Sst.win b A T)) := Lib.hid (fun W hb => (HH.out W hb).sub (by omega) (by omega))
  have F7 : Hid (∀ W, Below w.heap.size w W → Bs W (subA a c T) (E - T) (c - T) (Sst.win b T E)) := Lib.hid (fun W hb => (HH.out W hb).sub (by omega) (by omega))
  have F8 : Hid (∀ k : Nat, k ≤ A → ∀ W, Below w.heap.size w W → Bs W (subA a c k) (A - k) (c - k) (Sst.win b k A)) := Lib.hid (fun k hk W hb => (HH.out W hb).sub hk (by omega))
  have HAK : Hid (∀ k x, subA a c k = some x → x.block < w.heap.size) := Lib.hid (fun k x hx => by
    obtain ⟨y, e1, e2⟩ := subA_block hx
    rw [e2]; exact HAB.out y e1)
  generalize subA a c A = aA at *
  generalize subA a c T = aT at *
  obtain ⟨R, hR⟩ : ∃ R, Sst.blocks b A = R := ⟨_, rfl⟩
  have HST0 := Lib.hid (blocks_start b A)
  rw [hR] at HST0 HON
  clear hR
  go_upto_region 13 with fail
  have hr3 := heap_alloc_new w1 (.cells #[.slice none 0 0, .slice none 0 0, .slice none 0 0] 46)
  have hb3 := below_alloc1 w1 (.cells #[.slice none 0 0, .slice none 0 0, .slice none 0 0] 46)
  have HB3 := Lib.hid (HB1.out.trans (hb3.mono HB1.out.size))
  have hw3 := HB1.out.size
  have hs3 : w1.heap.size < (w1.alloc (.cells #[.slice none 0 0, .slice none 0 0, .slice none 0 0] 46)).heap.size := by simp
  generalize w1.alloc (.cells #[.slice none 0 0, .slice none 0 0, .slice none 0 0] 46) = wT at *
  generalize w1.heap.size = bt at *
  have HT3 := Lib.hid hr3
  have HBT3 := Lib.hid hs3
  have HWB := Lib.hid hw3
  clear hr3 hb3 hs3 hw3 t1 t2 t3 t3b t4b HB1
  go_loopw [10] (fun fr wr => ∃ (k : Nat) (L : List Ent) (bl : List Bk) (al ab : Option Addr) (n0 cl m0 cb : Nat), fr = .int .i64 k ∧ k ≤ A ∧ Hid (L.length = n0) ∧ Hid (bl.length = m0) ∧ Hid (wr.heap[bt]? = some (.cells #[.slice al n0 cl, .slice ab m0 cb, .slice none 0 0] 46 (0, 0))) ∧ Hid (AccV wr (bt + 1) al n0 cl L) ∧ Hid (Acc celR 76 wr (bt + 1) ab m0 cb bl) ∧ Hid (Below w.heap.size w wr) ∧ Hid (Sst.Inv A k L bl) ∧ Hid (Sst.Step b A k L bl R)) (fun fr _ => A - (intOf fr).toNat)
  case atStart => exact ⟨0, [], [], none, none, 0, 0, 0, 0, rfl, Nat.zero_le _, Lib.hid rfl, Lib.hid rfl, HT3, Lib.hid (AccV.nil _ _), Lib.hid (Acc.nil _ _ _ _), HB3, Lib.hid (Sst.Inv.nil A), HST0⟩
  case round =>
    obtain ⟨k, L, bl, al, ab, n0, cl, m0, cb, rfl, hkA, HN0, HM0, HT, HE, HK, HB, HI, HS⟩ := hrel
    clear HST0 HT3 HB3
    have hn0 : n0 ≤ 1000000 := by have := HI.out.n; have := HN0.out; omega
    have hm0 : m0 ≤ 1000000 := by have := HI.out.m; have := HM0.out; omega
    have hsm : 4 * n0 ≤ k ∧ m0 ≤ k := by have h1 := HI.out.n; have h2 := HI.out.m; have h3 := HN0.out; have h4 := HM0.out; omega
    have HBTr : Hid (bt < wr.heap.size) := Lib.hid (Array.getElem?_eq_some_iff.1 HT.out).1
    by_cases hkl : k < A
    case neg =>
      obtain rfl : k = A := by omega
      have HOKB : Hid (BkOk bl) := Lib.hid HI.out.ok
      have HKL : Hid (∀ e ∈ L, e.key.length ≤ 1000000) := Lib.hid (fun e he => by have := (HI.out.eok e he).k; omega)
      have HRR := Lib.hid (HS.out.done (Nat.le_refl _))
      rw [HRR.out] at HON
      have tL : decide ((k : Int) < (k : Int)) = false := decide_eq_false (by omega)
      have HILE : Hid ((Sst.index bl).length ≤ 100030000000) := Lib.hid (by
        have h1 := index_len HOKB.out bl.length (Nat.le_refl _)
        rw [List.take_length] at h1
        have h2 := HM0.out
        rw [h2] at h1
        have := Nat.mul_le_mul hm0 (Nat.le_refl 100030)
        omega)
      have HFLE : Hid (8 ≤ (Sst.filter L).length ∧ (Sst.filter L).length ≤ 1250010) := Lib.hid (filter_len2 L (by have := HN0.out; omega))
      go_upto_region 24 with fail
      go_cut [125] (fun v wx => v = .bool (!decide (Sst.win b k T = Codec.frame (Sst.index bl))) ∧ Hid (Below wr.heap.size wr wx))
      case first =>
        have HBD := Lib.hid ((Below.refl wr.heap.size wr).drew)
        have HTD := Lib.hid ((HBD.out.block _ HBTr.out).trans HT.out)
        have HWD := Lib.hid (HB.out.trans (HBD.out.mono HB.out.size))
        have HKD := Lib.hid (HK.out.below HBD.out)
        refine wp_region_steps [11] 11 11 (by kernel_rfl) (by kernel_rfl) rfl (fun W' => ∃ V : BW wr.drew, W' = V.w) ?_
        generalize wr.drew = w8 at *
        obtain ⟨d0, d1, d2, df⟩ := cells3 HTD.out
        have d1' := BW.cell d1
        clear d0 d1 d2 df
        refine anyT_pull [0, 1, 2, 3, 4, 5, 6, 7] 11 3 (by intro c a d v w h; cases d <;> exact h) (by kernel_rfl) ⟨⟨w8, Below.refl _ _⟩, rfl⟩ ?_
        simp only [opsAt, List.filterMap_cons, List.filterMap_nil, List.getElem?_cons_zero, List.getElem?_cons_succ]
        iterate 8
          apply held_step
          · kernel_rfl
          · rintro _ ⟨V, rfl⟩
            go_simp
            rfl
        refine held_nil ?_
        clear d1'
        apply anyT_one 8
        · rfl
        · kernel_rfl
        · kernel_rfl
        intro K hK
        go_simp
        refine (rindex_any w8.heap.size ab m0 cb bl w8 (Nat.le_refl _) (HKD.out.rd (by decide)) HOKB.out hm0).mono ?_
        rintro en w9 ⟨a9, n9, c9, rfl, o9, hb9⟩
        have HO9 := Lib.hid o9
        have HB9 := Lib.hid hb9
        refine hK _ _ ⟨⟨w9, hb9⟩, rfl⟩ ?_
        clear hK o9 hb9
        apply anyT_one 9
        · rfl
        · kernel_rfl
        · kernel_rfl
        intro K hK
        go_simp
        refine (refframe_any w9.heap.size none a9 0 0 n9 c9 [] _ w9 (Nat.le_refl _) (.inl (World.ownsRow_nil _ _ _ _)) HO9.out.bs (fun _ y z _ hz => by cases hz) ⟨by have h1 := HO9.out.bs.1; have h2 := HILE.out; omega⟩).mono ?_
        rintro en w10 ⟨a10, n10, c10, rfl, o10, hb10⟩
        rw [List.nil_append] at o10
        have HO10 := Lib.hid o10
        have HB10 := Lib.hid (HB9.out.trans (hb10.mono HB9.out.size))
        have HW10 := Lib.hid (HWD.out.trans (HB10.out.mono HWD.out.size))
        refine hK _ _ ⟨⟨w10, HB10.out⟩, rfl⟩ ?_
        clear hK o10 hb10
        apply anyT_one 10
        · rfl
        · kernel_rfl
        · kernel_rfl
        intro K hK
        go_simp
        refine (same_any aA a10 (T - k) (c - k) n10 c10 _ _ w10 (F6.out _ HW10.out) HO10.out.bs).mono ?_
        rintro en w11 ⟨rfl, rfl⟩
        refine hK _ _ ⟨⟨w10, HB10.out⟩, rfl⟩ ?_
        clear hK
        refine anyT_done (by kernel_rfl) ?_
        simp only [opsAt, List.filterMap_cons, List.filterMap_nil, List.getElem?_cons_zero, List.getElem?_cons_succ]
        go_wp2
        go_meet
        exact ⟨rfl, Lib.hid (HBD.out.trans (HB10.out.mono HBD.out.size))⟩
      case rest =>
      obtain ⟨rfl, HC⟩ := hcut
      have HWc := Lib.hid (HB.out.trans (HC.out.mono HB.out.size))
      by_cases hq1 : Sst.win b k T = Codec.frame (Sst.index bl)
      case neg =>
        have HR1 : Hid (Sst.opn b = .error (k, 14)) := Lib.hid (by rw [HON.out]; (try dsimp only); rw [if_pos hq1])
        rw [decide_eq_false hq1]
        clear hq1
        go_wp2
        go_ret3
        exact rop_no HR1.out (by decide) HWc.out rfl rfl
      have HQ1 := Lib.hid hq1
      rw [decide_eq_true hq1]
      clear hq1
      have HTc := Lib.hid ((HC.out.block _ HBTr.out).trans HT.out)
      have HEc := Lib.hid (HE.out.below HC.out)
      have HKc := Lib.hid (HK.out.below HC.out)
      have HBTc : Hid (bt < wc.heap.size) := Lib.hid (Nat.lt_of_lt_of_le HBTr.out HC.out.size)
      obtain ⟨c0, c1, c2, cf⟩ := cells3 HTc.out
      go_wp2_with fail
      refine (rfilter_any al n0 cl L wc HEc.out.e.es HKL.out hn0).mono ?_
      rintro en w5 ⟨af, nf, cf', rfl, of, hb5⟩
      have HF5 := Lib.hid of
      have HW5 := Lib.hid (HWc.out.trans (hb5.mono HWc.out.size))
      have HT5 := Lib.hid ((hb5.block _ HBTc.out).trans HTc.out)
      have HE5 := Lib.hid (HEc.out.below hb5)
      have HK5 := Lib.hid (HKc.out.below hb5)
      clear of hb5 c0 c1 c2 cf
      obtain ⟨c0, c1, c2, cf⟩ := cells3 HT5.out
      go_upto_region 27 with fail
      have HS1 := Lib.hid (oth_setAt w5 bt 2 (.slice af nf cf'))
      have HT6 := Lib.hid (heap_set (j := 2) (v := .slice af nf cf') HT5.out)
      have HE6 := Lib.hid (HE5.out.oth HS1.out HT5.out (by decide) (by decide))
      have HK6 : Hid (Acc celR 76 (w5.setCell ⟨bt, 2, none⟩ (.slice af nf cf')) (bt + 1) ab m0 cb bl) := Lib.hid ⟨HK5.out.1, own_lowOth HK5.out.2 HS1.out (by omega)⟩
      have HF6 := Lib.hid (HF5.out.bs.notin HS1.out HT5.out no_rtab)
      have HW6 := Lib.hid (HW5.out.trans (HS1.out.below HW5.out.size (fun x hx => by cases hx; exact HWB.out)))
      generalize w5.setCell ⟨bt, 2, none⟩ (.slice af nf cf') = w6 at *
      have HT6 : Hid (w6.heap[bt]? = some (.cells #[.slice al n0 cl, .slice ab m0 cb, .slice af nf cf'] 46 (0, 0))) := Lib.hid HT6.out
      have HBT6 : Hid (bt < w6.heap.size) := Lib.hid (Array.getElem?_eq_some_iff.1 HT6.out).1
      clear HS1 HT5 HE5 HK5 HF5 HW5 HTc HEc HKc HC c0 c1 c2 cf
      go_cut [145] (fun v wx => v = .bool (!decide (Sst.win b T E = Codec.frame (Sst.filter L))) ∧ Hid (Below w6.heap.size w6 wx))
      case first =>
        have HBD := Lib.hid ((Below.refl w6.heap.size w6).drew)
        have HTD := Lib.hid ((HBD.out.block _ HBT6.out).trans HT6.out)
        have HWD := Lib.hid (HW6.out.trans (HBD.out.mono HW6.out.size))
        have HFD := Lib.hid (HF6.out.below HBD.out)
        refine wp_region_steps [10] 10 10 (by kernel_rfl) (by kernel_rfl) rfl (fun W' => ∃ V : BW w6.drew, W' = V.w) ?_
        generalize w6.drew = w8 at *
        obtain ⟨d0, d1, d2, df⟩ := cells3 HTD.out
        have d2' := BW.cell d2
        clear d0 d1 d2 df
        refine anyT_pull [0, 1, 2, 3, 4, 5, 6, 7] 10 2 (by intro c a d v w h; cases d <;> exact h) (by kernel_rfl) ⟨⟨w8, Below.refl _ _⟩, rfl⟩ ?_
        simp only [opsAt, List.filterMap_cons, List.filterMap_nil, List.getElem?_cons_zero, List.getElem?_cons_succ]
        iterate 8
          apply held_step
          · kernel_rfl
          · rintro _ ⟨V, rfl⟩
            go_simp
            rfl
        refine held_nil ?_
        clear d2'
        apply anyT_one 8
        · rfl
        · kernel_rfl
        · kernel_rfl
        intro K hK
        go_simp
        refine (refframe_any w8.heap.size none af 0 0 nf cf' [] _ w8 (Nat.le_refl _) (.inl (World.ownsRow_nil _ _ _ _)) HFD.out (fun _ y z _ hz => by cases hz) ⟨by have h1 := HFD.out.1; have h2 := HFLE.out.2; omega⟩).mono ?_
        rintro en w10 ⟨a10, n10, c10, rfl, o10, hb10⟩
        rw [List.nil_append] at o10
        have HO10 := Lib.hid o10
        have HB10 := Lib.hid hb10
        have HW10 := Lib.hid (HWD.out.trans (HB10.out.mono HWD.out.size))
        refine hK _ _ ⟨⟨w10, HB10.out⟩, rfl⟩ ?_
        clear hK o10 hb10
        apply anyT_one 9
        · rfl
        · kernel_rfl
        · kernel_rfl
        intro K hK
        go_simp
        refine (same_any aT a10 (E - T) (c - T) n10 c10 _ _ w10 (F7.out _ HW10.out) HO10.out.bs).mono ?_
        rintro en w11 ⟨rfl, rfl⟩
        refine hK _ _ ⟨⟨w10, HB10.out⟩, rfl⟩ ?_
        clear hK
        refine anyT_done (by kernel_rfl) ?_
        simp only [opsAt, List.filterMap_cons, List.filterMap_nil, List.getElem?_cons_zero, List.getElem?_cons_succ]
        go_wp2
        go_meet
        exact ⟨rfl, Lib.hid (HBD.out.trans (HB10.out.mono HBD.out.size))⟩
      case rest =>
      obtain ⟨rfl, HC⟩ := hcut
      have HWc2 := Lib.hid (HW6.out.trans (HC.out.mono HW6.out.size))
      by_cases hq2 : Sst.win b T E = Codec.frame (Sst.filter L)
      case neg =>
        have HR1 : Hid (Sst.opn b = .error (T, 14)) := Lib.hid (by rw [HON.out]; (try dsimp only); rw [if_neg (by rw [HQ1.out]; simp), if_pos hq2])
        rw [decide_eq_false hq2]
        clear hq2
        go_wp2
        go_ret3
        exact rop_no HR1.out (by decide) HWc2.out rfl rfl
      have HQ2 := Lib.hid hq2
      rw [decide_eq_true hq2]
      clear hq2
      have HTc := Lib.hid ((HC.out.block _ HBT6.out).trans HT6.out)
      have HN8 := Lib.hid (fun W (hb : Below w.heap.size w W) => read8_any (subA aE cE 16) 12 (cE - 16) _ W (DK.out 16 (by omega) W hb) (by omega))
      obtain ⟨N7, hN7⟩ : ∃ N, Sst.num ((b.drop (E + 16)).take 8) = N := ⟨_, rfl⟩
      rw [hN7] at HN8
      rw [hN7] at HON
      obtain ⟨o7, ho7⟩ : ∃ o, Sst.r8 N7 = o := ⟨_, rfl⟩
      rw [ho7] at HN8
      have HO7 : Hid (o7 = (n0 : Int) ↔ N7 = n0) := Lib.hid (by
        rw [← ho7]
        unfold Sst.r8
        split <;> omega)
      clear hN7 ho7
      obtain ⟨c0, c1, c2, cf⟩ := cells3 HTc.out
      go_upto_region 29 with fail
      refine wp_region_class (w0 := wc) (by kernel_rfl) (by kernel_rfl) (Below.refl _ _) ?_
      have m0' := BW.cell c0
      repeat (first | go_big_quiet_step (exact calls_class_s (HN8.out _ (HWc2.out.trans ((BW.b _).mono HWc2.out.size)))))
      refine wpQuiet_nil ?_
      intro w9 hb9
      replace hb9 := BW.of hb9
      have HB9 := Lib.hid hb9
      have HW9 := Lib.hid (HWc2.out.trans (hb9.mono HWc2.out.size))
      clear hb9 m0' HN8
      by_cases hq3 : N7 = n0
      case neg =>
        have HR1 : Hid (Sst.opn b = .error (E, 14)) := Lib.hid (by rw [HON.out]; (try dsimp only); rw [if_neg (by rw [HQ1.out]; simp), if_neg (by rw [HQ2.out]; simp), HN0.out, if_pos hq3])
        have t7 : (o7 != (n0 : Int)) = true := by rw [bne_iff_ne]; exact fun e => hq3 (HO7.out.1 e)
        clear hq3
        go_wp2
        go_ret3
        exact rop_no HR1.out (by decide) HW9.out rfl rfl
      have HR1 : Hid (Sst.opn b = .ok (L, bl)) := Lib.hid (by rw [HON.out]; (try dsimp only); rw [if_neg (by rw [HQ1.out]; simp), if_neg (by rw [HQ2.out]; simp), HN0.out, if_neg (by rw [hq3]; simp)])
      have t7 : (o7 != (n0 : Int)) = false := by rw [HO7.out.2 hq3]; simp
      clear hq3
      go_wp2
      go_ret3
      have HX := Lib.hid (HC.out.trans (HB9.out.mono HC.out.size))
      refine ⟨HW9.out, .inr ⟨L, bl, bt, al, cl, ab, cb, af, nf, cf', HR1.out, rfl, ?_⟩⟩
      rw [HN0.out, HM0.out]
      exact ⟨(HX.out.block _ HBT6.out).trans HT6.out, HE6.out.e.es.below HX.out, (HK6.out.below HX.out).rd (by decide), HF6.out.below HX.out⟩
    have hkb : k ≤ 1000000 := by omega
    have tA : decide ((k : Int) < (A : Int)) = true := decide_eq_true (by omega)
    have tA' : decide (k < A) = true := decide_eq_true hkl
    obtain ⟨c0, c1, c2, cf⟩ := cells3 HT.out
    have s8 := S8.out k hkA
    have HR13 := Lib.hid (refreadframe_at (subA a c k) (A - k) (c - k) _ wr (F8.out k hkA _ HB.out))
    have HAX := Lib.hid (HAK.out k)
    obtain ⟨p, nn, er, hfr⟩ : ∃ p nn er, Codec.rdFrame (Sst.win b k A) = (p, nn, er) := ⟨_, _, _, rfl⟩
    rw [hfr] at HR13
    have HFR := Lib.hid hfr
    generalize subA a c k = aAk at *
    generalize A - k = Ak at *
    generalize c - k = ck at *
    clear hfr
    go_wp2_with fail
    refine HR13.out.mono ?_
    rintro en w4 ⟨a4, n4', c4, rfl, hp4, hb4, hat4⟩
    dsimp only at hp4 ⊢
    have HP4 := Lib.hid hp4
    have HB4 := Lib.hid hb4
    have HBW4 := Lib.hid (HB.out.trans (hb4.mono HB.out.size))
    have HAT := Lib.hid hat4
    clear hp4 hb4 HR13 hat4
    by_cases her : er = 0
    case neg =>
      have HR1 : Hid (Sst.opn b = .error (k, 14)) := Lib.hid (by rw [HON.out, HS.out.bad1 hkl (by rw [HFR.out]; exact her)])
      have ter : ((er : Int) != 0) = true := by rw [bne_iff_ne]; omega
      clear her
      go_wp2
      go_ret3
      exact rop_no HR1.out (by decide) HBW4.out rfl rfl
    subst her
    have hpp := rdFrame_pos HFR.out
    have hwl : (Sst.win b k A).length ≤ A - k := by unfold Sst.win; rw [List.length_take]; omega
    have hpn := HP4.out.1
    have hnk : k + nn ≤ A ∧ nn ≤ 1000000 ∧ 5 ≤ nn ∧ n4' ≤ 1000000 := by omega
    have HNK := Lib.hid hnk
    clear hpp hwl hpn
    have HT4 := Lib.hid ((HB4.out.block _ HBTr.out).trans HT.out)
    have HE4 := Lib.hid (HE.out.below HB4.out)
    have HK4 := Lib.hid (HK.out.below HB4.out)
    have HSZ4 : Hid (bt + 1 ≤ w4.heap.size) := Lib.hid (by have := HB4.out.size; have := HBTr.out; omega)
    have HBL4 : Hid (∀ x, a4 = some x → x.block < bt + 1) := Lib.hid (fun x hx => by
      obtain ⟨y, e1, e2⟩ := HAT.out x hx
      have := HAX.out y e1
      have := HWB.out
      omega)
    clear c0 c1 c2 cf
    obtain ⟨c0, c1, c2, cf⟩ := cells3 HT4.out
    have HEN := Lib.hid (rentries_any a4 n4' c4 p al n0 cl L (bt + 1) w4 HP4.out HBL4.out HSZ4.out HE4.out HI.out.right (by omega) (by omega))
    go_wp2_with fail
    refine HEN.out.mono ?_
    rintro en w5 ⟨a5, n5, c5, ok, rfl, hb5, hcase⟩
    have HB5 := Lib.hid hb5
    have HBW5 := Lib.hid (HBW4.out.trans (hb5.mono (by have := HWB.out; omega)))
    have HCS := Lib.hid hcase
    clear hb5 hcase HEN
    cases ok with
    | false =>
      have HR1 : Hid (Sst.opn b = .error (k, 14)) := Lib.hid (by
        rcases HCS.out with ⟨h, _⟩ | ⟨_, h⟩
        · cases h
        · rcases h with h | ⟨l, h1, h2⟩
          · rw [HON.out, HS.out.bad2 hkl (by rw [HFR.out]; exact h)]
          · rw [HON.out, HS.out.bad3 hkl (by rw [HFR.out]; exact h1) h2])
      go_wp2
      go_ret3
      exact rop_no HR1.out (by decide) HBW5.out rfl rfl
    | true =>
      obtain ⟨l, hlne, HD, HRT, HL5, HKT⟩ : ∃ l, l ≠ [] ∧ Hid (Sst.dents p = some l) ∧ Hid (Ent.rightB (L ++ l) = true) ∧ Hid (AccV w5 (bt + 1) a5 n5 c5 (L ++ l)) ∧ Hid (KeepT w4 w5) := by
        rcases HCS.out with ⟨_, l, g1, g2, g3, g4, g5⟩ | ⟨h, _⟩
        · exact ⟨l, g1, Lib.hid g2, Lib.hid g3, Lib.hid g4, Lib.hid g5⟩
        · cases h
      have HLN := Lib.hid hlne
      have HST := Lib.hid (HS.out.next hkl HFR.out HD.out HLN.out HRT.out)
      have HIN := Lib.hid (HI.out.next (by omega) hkl HFR.out HD.out HLN.out HRT.out)
      have hn5 : n5 = n0 + l.length := by rw [← HL5.out.len, List.length_append, HN0.out]
      have hlp : 0 < l.length := List.length_pos_iff.2 hlne
      have h05 : n0 < n5 := by omega
      have tn5 : decide (n0 < n5) = true := decide_eq_true h05
      have hn5b : n5 ≤ 1000000 := by have h1 := HIN.out.n; rw [List.length_append, HN0.out] at h1; have h2 := HIN.out.le; omega
      have HNTH : Hid (nth (L ++ l) n0 = nth l 0) := Lib.hid (by
        rw [nth_eq _ (by rw [List.length_append, HN0.out]; omega), nth_eq _ hlp, List.getElem_append_right (by rw [HN0.out]; exact Nat.le_refl _)]
        simp [HN0.out])
      have HLEN5 := Lib.hid hn5
      clear hlne hn5 hlp HCS
      have HT5 := Lib.hid ((HB5.out.block _ (Nat.lt_succ_self _)).trans HT4.out)
      have HSZ5 : Hid (bt + 1 ≤ w5.heap.size) := Lib.hid (Nat.le_trans HSZ4.out HB5.out.size)
      have HK5 : Hid (Acc celR 76 w5 (bt + 1) ab m0 cb bl) := Lib.hid ⟨HK4.out.1, HKT.out _ _ _ _ _ _ (by decide) HK4.out.2⟩
      clear c0 c1 c2 cf HKT HE4 HK4 HP4 HBL4 HAT HAX
      obtain ⟨c0, c1, c2, cf⟩ := cells3 HT5.out
      go_upto_region 22 with fail
      have HS1 := Lib.hid (oth_setAt w5 bt 0 (.slice a5 n5 c5))
      have HT6 := Lib.hid (heap_set (j := 0) (v := .slice a5 n5 c5) HT5.out)
      have HL6 := Lib.hid (HL5.out.oth HS1.out HT5.out (by decide) (by decide))
      have HK6 : Hid (Acc celR 76 (w5.setCell ⟨bt, 0, none⟩ (.slice a5 n5 c5)) (bt + 1) ab m0 cb bl) := Lib.hid ⟨HK5.out.1, own_lowOth HK5.out.2 HS1.out (by omega)⟩
      have HW6 := Lib.hid (HBW5.out.trans (HS1.out.below HBW5.out.size (fun x hx => by cases hx; exact HWB.out)))
      have HSZ6 : Hid (bt + 1 ≤ (w5.setCell ⟨bt, 0, none⟩ (.slice a5 n5 c5)).heap.size) := Lib.hid (by rw [World.size_setCell]; exact HSZ5.out)
      generalize w5.setCell ⟨bt, 0, none⟩ (.slice a5 n5 c5) = w6 at *
      clear HS1 HT5 HL5 HK5 HBW5 HB5 HT4 HB4 HBW4 c0 c1 c2 cf
      obtain ⟨b5, o5, a5', d5', e5, he5, _⟩ := HL6.out.e.es.vals (i := n0) h05
      have hk5 : w6.cell? ⟨b5, o5 + n0 * 4, none⟩ = some (.string (bstr (nth l 0).key)) := by rw [← HNTH.out]; exact he5.key
      clear he5
      subst e5
      obtain ⟨key0, hkey0⟩ : ∃ key0, (nth l 0).key = key0 := ⟨_, rfl⟩
      rw [hkey0] at hk5 HST HIN
      have HKEY := Lib.hid hkey0
      clear hkey0
      have HBD := Lib.hid ((Below.refl w6.heap.size w6).drew)
      have HT7 := Lib.hid ((HBD.out.block _ (by have := HSZ6.out; omega)).trans HT6.out)
      have HL7 := Lib.hid (HL6.out.below HBD.out)
      have HK7 := Lib.hid (HK6.out.below HBD.out)
      have HW7 := Lib.hid (HW6.out.trans (HBD.out.mono HW6.out.size))
      have HSZ7 : Hid (bt + 1 ≤ w6.drew.heap.size) := Lib.hid HSZ6.out
      have d5 := cell_later HBD.out hk5
      refine wp_region_steps [17] 17 17 (by kernel_rfl) (by kernel_rfl) rfl (fun W' => W'.cell? ⟨bt, 1, none⟩ = some (.slice ab m0 cb) ∧ W'.cell? ⟨b5, o5 + n0 * 4, none⟩ = some (.string (bstr key0))) ?_
      generalize w6.drew = w7 at *
      obtain ⟨d0, d1, d2, df⟩ := cells3 HT7.out
      have HDD := Lib.hid (And.intro d1 d5)
      clear d0 d1 d2 df d5
      refine anyT_pull [0, 1, 2, 3, 4, 5, 6, 7, 8, 9, 10, 11, 12] 17 4 (by intro c a d v w h; cases d <;> exact h) (by kernel_rfl) HDD.out ?_
      simp only [opsAt, List.filterMap_cons, List.filterMap_nil, List.getElem?_cons_zero, List.getElem?_cons_succ]
      iterate 13
        apply held_step
        · kernel_rfl
        · rintro V ⟨s1, s2⟩
          go_simp
          rfl
      refine held_nil ?_
      apply anyT_one 13
      · rfl
      · kernel_rfl
      · kernel_rfl
      intro K hK
      go_simp
      have hb8 := below_alloc1 w7 (.cells #[.int .i64 (k : Int), .int .i64 (nn : Int), .string (bstr key0)] 76)
      refine hK _ _ ⟨cell_later hb8 HDD.out.1, cell_later hb8 HDD.out.2⟩ ?_
      clear hK
      apply anyT_one 14
      · rfl
      · kernel_rfl
      · kernel_rfl
      intro K hK
      refine step_app_cel celR _ _ 44 76 rfl Tryz.underlying44 infoBr rfl (by decide) (by decide) (bt + 1) rfl (HK7.out.below hb8) (e := ⟨key0, k, nn⟩) rfl (br_box (by first | rfl | simp) ⟨key0, k, nn⟩) (by omega) (le_alloc HSZ7.out) ?_
      intro a9 c9 w9 h9 hb9 hev9
      have HA9 := Lib.hid h9
      have HB9 : Hid (Below (bt + 1) w7 w9) := Lib.hid ((hb8.mono HSZ7.out).trans hb9)
      have HL9 := Lib.hid ((HL7.out.below hb8).evol (HK7.out.below hb8).2 (by decide) (by decide) hev9)
      have HT9 := Lib.hid ((HB9.out.block _ (Nat.lt_succ_self _)).trans HT7.out)
      have HSS : w9.cell? ⟨bt, 1, none⟩ = some (.slice ab m0 cb) ∧ w9.cell? ⟨b5, o5 + n0 * 4, none⟩ = some (.string (bstr key0)) := by
        refine ⟨(cells3 HT9.out).2.1, ?_⟩
        obtain ⟨b6, o6, a6', d6', e6, he6, _⟩ := HL9.out.e.es.vals (i := n0) h05
        cases e6
        have := he6.key
        rw [HNTH.out] at this
        rw [this, HKEY.out]
      refine hK _ _ HSS ?_
      clear hK h9 hb9 hev9 hb8
      refine anyT_pull [15, 16] 17 0 (by intro c a d v w h; cases d <;> exact h) (by kernel_rfl) HSS ?_
      simp only [opsAt, List.filterMap_cons, List.filterMap_nil, List.getElem?_cons_zero, List.getElem?_cons_succ]
      iterate 2
        apply held_step
        · kernel_rfl
        · rintro V ⟨s1, s2⟩
          go_simp
          rfl
      refine held_nil ?_
      clear HSS
      refine anyT_done (by kernel_rfl) ?_
      simp only [opsAt, List.filterMap_cons, List.filterMap_nil, List.getElem?_cons_zero, List.getElem?_cons_succ]
      obtain ⟨c0, c1, c2, cf⟩ := cells3 HT9.out
      have HS' := Lib.hid (oth_setAt w9 bt 1 (.slice a9 (m0 + 1) c9))
      have HTS := Lib.hid (heap_set (j := 1) (v := .slice a9 (m0 + 1) c9) HT9.out)
      have HAS := Lib.hid (HL9.out.oth HS'.out HT9.out (by decide) (by decide))
      have HCS : Hid (Acc celR 76 (w9.setCell ⟨bt, 1, none⟩ (.slice a9 (m0 + 1) c9)) (bt + 1) a9 (m0 + 1) c9 _) := Lib.hid ⟨HA9.out.1, own_lowOth HA9.out.2 HS'.out (by omega)⟩
      have HWX : Hid (Below w.heap.size w w9) := Lib.hid (HW7.out.trans (HB9.out.mono (by have := HWB.out; omega)))
      have HWS : Hid (Below w.heap.size w (w9.setCell ⟨bt, 1, none⟩ (.slice a9 (m0 + 1) c9))) := Lib.hid (HWX.out.trans (HS'.out.below HWX.out.size (fun x hx => by cases hx; exact HWB.out)))
      go_wp2
      generalize w9.setCell ⟨bt, 1, none⟩ (.slice a9 (m0 + 1) c9) = w11 at *
      go_roundw
      case rel => exact ⟨k + nn, L ++ l, bl ++ [⟨key0, k, nn⟩], some ⟨b5, o5, none⟩, a9, n5, c5, m0 + 1, c9, by go_num, HNK.out.1, Lib.hid (by rw [List.length_append, HN0.out, HLEN5.out]), Lib.hid (by rw [List.length_append, HM0.out]; rfl), HTS, HAS, HCS, HWS, HIN, HST⟩
      case measure => have := HNK.out; simp [intOf]; omega
end Go.Proofs.YtjigfinpbdglnaaGreatDoor
