/- errors.Is at a *sst.Wrong, errors.As restated; what Open tells of any bytes is the document's. -/
import Derived.Test.YtjigfinpbdglnaaGreatDoorZSoK
import Derived.Test.YtjigfinpbdglnaaGreatDoorZSoDz
import Derived.Test.YtjigfinpbdglnaaGreatDoorZSoG
import Derived.Lib.IfaceEq
set_option linter.unusedVariables false
set_option linter.unusedSimpArgs false
set_option maxRecDepth 100000
set_option linter.unusedVariables false
set_option linter.unusedSimpArgs false
namespace Go.Proofs.YtjigfinpbdglnaaGreatDoor
open Go.RowKit Go.Lib Go.Extern.Stop Go.Stop Go.Extern

theorem isT_ (v : Value) (w : World) : (Extern.ReflectliteType.typeOf #[.iface 51 v]).run Tryz.prog w = .ok (.iface 151 (.agg #[.pointer (some ⟨4, 51, none⟩)])) w := by kernel_rfl
theorem isC_ (w : World) : ((Extern.ReflectliteType.method fun t => do Extern.Rtype.noPackHeld "Comparable" t; (fun a => Value.bool a.comparable) <$> typeInfo t) #[.agg #[.pointer (some ⟨4, 51, none⟩)]]).run Tryz.prog w = .ok (.bool true) w := by kernel_rfl
theorem isM_ (v : Value) (w : World) : (Go.method 319 151 v "Comparable").run Tryz.prog w = .ok (138, v) w := by kernel_rfl
theorem noIs_ (v : Value) (xT : TypeId) (w : World) : (Instr.typeAssert (.iface 61 v) xT 163 true).run Tryz.prog w = .ok (.tuple #[.nilIface, .bool false]) w := run_typeAssert_lacksB Tryz.underlying163 (by kernel_rfl) (by kernel_rfl) v xT w
theorem hasUn_ (v : Value) (xT : TypeId) (w : World) : (Instr.typeAssert (.iface 61 v) xT 158 true).run Tryz.prog w = .ok (.tuple #[.iface 61 v, .bool true]) w := run_typeAssert_hasB Tryz.underlying158 (by kernel_rfl) v xT w
theorem methUn_ (v : Value) (w : World) : (Go.method 319 61 v "Unwrap").run Tryz.prog w = .ok (132, v) w := by kernel_rfl
set_option maxHeartbeats 4000000 in
theorem is_wrong (g k er : Nat) (w : World) (h : Wr w g k er) :
    Calls Tryz.prog 24 #[.iface 61 (.pointer (some ⟨g, 0, none⟩)), .iface 51 (.int .i64 er)] w fun e w' => e = .returned (.bool true) ∧ w = w' := by
  have h8 := @run_callFunc_extern Tryz.prog 62 _ Extern.ReflectliteType.typeOf Tryz.func62 (by kernel_rfl) (by kernel_rfl) (by kernel_rfl) (by kernel_rfl)
  have h32 := @run_callFunc_extern Tryz.prog 138 _ (Extern.ReflectliteType.method fun t => do Extern.Rtype.noPackHeld "Comparable" t; pure (.bool (← typeInfo t).comparable)) Tryz.func138 (by kernel_rfl) (by kernel_rfl) (by kernel_rfl) (by kernel_rfl)
  have tT := isT_
  have cT := isC_
  have mR := isM_
  have nE := noIs_
  have uW := hasUn_
  have mU := methUn_
  obtain ⟨c0, c1, _⟩ := cells2 h
  have hee := run_eql_iface_int (P := Tryz.prog) w (t := 55) (tx := 51) (k := .i64) (er : Int) (er : Int) Tryz.underlying55 (by kernel_rfl) Tryz.underlying51
  clear h
  have hty := run_eql_iface_types (P := Tryz.prog) 61 51 (.pointer (some ⟨g, 0, none⟩)) (.int .i64 er) Tryz.underlying55 (by decide) w
  go_enter Tryz.func24, Tryz.ntmps24
  go_wp2
  refine wp_loop_rounds 2 ?_
  rw [rounds_succ]
  go_wp2
  rw [rounds_succ]
  go_wp2
  go_ret
  exact ⟨by simp, rfl⟩
set_option maxHeartbeats 1000000 in
/-- errors.As, in a world whose newest blocks hold the target. -/
theorem as_any (g t B : Nat) (w : World) (hc : Cst w) (ht : w.heap[t]? = some (.cells #[.pointer none] 61 (0, 0))) (hB : B ≤ t) :
    Calls Tryz.prog 23 #[.iface 61 (.pointer (some ⟨g, 0, none⟩)), .iface 63 (.pointer (some ⟨t, 0, none⟩))] w fun e w' =>
      e = .returned (.bool true) ∧ w'.cell? ⟨t, 0, none⟩ = some (.pointer (some ⟨g, 0, none⟩)) ∧ Below B w w' := by
  have htl := (Array.getElem?_eq_some_iff.1 ht).1
  refine (as_hit ⟨g, 0, none⟩ ⟨t, 0, none⟩ (.pointer none) w hc.ty (by rw [cell_of_row _ _ 0 _ _ _ ht]; rfl) (by simp [World.frozen?, ht])).mono ?_
  rintro e w' ⟨rfl, rfl⟩
  have hb : Below w.heap.size w ((((w.alloc (.cells #[.pointer (some ⟨t, 0, none⟩)] 63)).alloc (.cells #[.pointer (some ⟨4, 63, none⟩), .pointer (some ⟨w.heap.size, 0, none⟩), .int .u64 150] 114)).alloc (.cells #[.pointer (some ⟨4, 63, none⟩), .pointer (some ⟨w.heap.size, 0, none⟩), .int .u64 150] 114)).alloc (.cells #[.pointer (some ⟨g, 0, none⟩)] 61)) :=
    ((((Below.refl _ _).alloc (Nat.le_refl _) _).alloc (by simp) _).alloc (by simp; omega) _).alloc (by simp; omega) _
  have hr : ((((w.alloc (.cells #[.pointer (some ⟨t, 0, none⟩)] 63)).alloc (.cells #[.pointer (some ⟨4, 63, none⟩), .pointer (some ⟨w.heap.size, 0, none⟩), .int .u64 150] 114)).alloc (.cells #[.pointer (some ⟨4, 63, none⟩), .pointer (some ⟨w.heap.size, 0, none⟩), .int .u64 150] 114)).alloc (.cells #[.pointer (some ⟨g, 0, none⟩)] 61)).heap[t]? = some (.cells #[.pointer none] 61 (0, 0)) := (hb.block t htl).trans ht
  generalize (((w.alloc (.cells #[.pointer (some ⟨t, 0, none⟩)] 63)).alloc (.cells #[.pointer (some ⟨4, 63, none⟩), .pointer (some ⟨w.heap.size, 0, none⟩), .int .u64 150] 114)).alloc (.cells #[.pointer (some ⟨4, 63, none⟩), .pointer (some ⟨w.heap.size, 0, none⟩), .int .u64 150] 114)).alloc (.cells #[.pointer (some ⟨g, 0, none⟩)] 61) = w4 at *
  refine ⟨rfl, ?_, (hb.mono (by omega)).setCell (p := ⟨t, 0, none⟩) hB _⟩
  have h4 : w4.cell? ⟨t, 0, none⟩ = some (.pointer none) := by rw [cell_of_row _ _ 0 _ _ _ hr]; rfl
  exact World.cell?_setCell_same _ _ _ h4
/-! ### What the document tells of any bytes -/
theorem run_out {b : List UInt8} {A : Nat} (hA : A ≤ 100000000) : ∀ (f k : Nat) (L : List Ent) (bl : List Bk), Sst.Inv A k L bl → (∀ k', Sst.run b A f k L bl = .error k' → k' ≤ A) ∧ (∀ L' bl', Sst.run b A f k L bl = .ok (L', bl') → ∃ k', Sst.Inv A k' L' bl')
  | 0, k, L, bl, h => ⟨fun k' e => by cases e; exact h.le, fun L' bl' e => by cases e⟩
  | f + 1, k, L, bl, h => by
    rw [Sst.run]
    by_cases h1 : k < A
    · rw [if_pos h1]
      by_cases h2 : (Codec.rdFrame (Sst.win b k A)).2.2 ≠ 0
      · rw [if_pos h2]
        exact ⟨fun k' e => by cases e; exact h.le, fun L' bl' e => by cases e⟩
      · rw [if_neg h2]
        cases h3 : Sst.dents (Codec.rdFrame (Sst.win b k A)).1 with
        | none => exact ⟨fun k' e => by cases e; exact h.le, fun L' bl' e => by cases e⟩
        | some l =>
          simp only
          by_cases h4 : l = [] ∨ Ent.rightB (L ++ l) = false
          · rw [if_pos h4]
            exact ⟨fun k' e => by cases e; exact h.le, fun L' bl' e => by cases e⟩
          · rw [if_neg h4]
            obtain ⟨h5, h6⟩ := not_or.1 h4
            obtain ⟨p, n, q, h7⟩ : ∃ p n q, Codec.rdFrame (Sst.win b k A) = (p, n, q) := ⟨_, _, _, rfl⟩
            rw [h7] at h2 h3 ⊢
            simp only [ne_eq, Decidable.not_not] at h2
            subst h2
            exact run_out hA f _ _ _ (h.next hA h1 h7 h3 h5 (by simpa using h6))
    · rw [if_neg h1]
      exact ⟨fun k' e => (by cases e), fun L' bl' e => by cases e; exact ⟨_, h⟩⟩
theorem opn_out {b : List UInt8} (hb : b.length ≤ 1000000) : (∀ k er, Sst.opn b = .error (k, er) → (er = 11 ∨ er = 13 ∨ er = 14) ∧ k ≤ b.length) ∧ (∀ L bl, Sst.opn b = .ok (L, bl) → ∃ A k, A ≤ b.length ∧ Sst.Inv A k L bl) := by
  have key : ∀ {k er k' er' : Nat}, (Except.error (k, er) : Except (Nat × Nat) (List Ent × List Bk)) = .error (k', er') → k' = k ∧ er' = er := fun e => by cases e; exact ⟨rfl, rfl⟩
  unfold Sst.opn
  by_cases h1 : b.length < 28
  · rw [if_pos h1]
    refine ⟨fun k er e => ?_, fun L bl e => by cases e⟩
    obtain ⟨rfl, rfl⟩ := key e
    exact ⟨.inl rfl, Nat.zero_le _⟩
  rw [if_neg h1]
  split
  · refine ⟨fun k er e => ?_, fun L bl e => by cases e⟩
    obtain ⟨rfl, rfl⟩ := key e
    exact ⟨.inr (.inl rfl), by omega⟩
  split
  · refine ⟨fun k er e => ?_, fun L bl e => by cases e⟩
    obtain ⟨rfl, rfl⟩ := key e
    exact ⟨.inr (.inr rfl), by omega⟩
  rename_i _ hAT
  rw [Decidable.not_not] at hAT
  generalize Sst.num ((b.drop (b.length - 28)).take 8) = A at *
  generalize Sst.num ((b.drop (b.length - 28 + 8)).take 8) = T at *
  obtain ⟨g1, g2⟩ := run_out (b := b) (A := A) (by omega) (A + 1) 0 [] [] (Sst.Inv.nil A)
  have g3 : Sst.run b A (A + 1) 0 [] [] = Sst.blocks b A := rfl
  rw [g3] at g1 g2
  cases hR : Sst.blocks b A with
  | error k' =>
    simp only
    refine ⟨fun k er e => ?_, fun L bl e => by cases e⟩
    obtain ⟨rfl, rfl⟩ := key e
    exact ⟨.inr (.inr rfl), by have := g1 _ hR; omega⟩
  | ok q =>
    obtain ⟨L, bl⟩ := q
    simp only
    split
    · refine ⟨fun k er e => ?_, fun L bl e => by cases e⟩
      obtain ⟨rfl, rfl⟩ := key e
      exact ⟨.inr (.inr rfl), by omega⟩
    split
    · refine ⟨fun k er e => ?_, fun L bl e => by cases e⟩
      obtain ⟨rfl, rfl⟩ := key e
      exact ⟨.inr (.inr rfl), by omega⟩
    split
    · refine ⟨fun k er e => ?_, fun L bl e => by cases e⟩
      obtain ⟨rfl, rfl⟩ := key e
      exact ⟨.inr (.inr rfl), by omega⟩
    · refine ⟨fun k er e => (by cases e), fun L' bl' e => ?_⟩
      cases e
      obtain ⟨k', hi⟩ := g2 _ _ hR
      exact ⟨A, k', by omega, hi⟩
end Go.Proofs.YtjigfinpbdglnaaGreatDoor
