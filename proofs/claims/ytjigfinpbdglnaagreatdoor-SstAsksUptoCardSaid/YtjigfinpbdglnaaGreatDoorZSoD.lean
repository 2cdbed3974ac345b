/- Sorted tables: Open, whatever the bytes. -/
import Derived.Test.YtjigfinpbdglnaaGreatDoorZSoP
set_option linter.unusedVariables false
set_option linter.unusedSimpArgs false
set_option maxRecDepth 100000
set_option linter.unusedVariables false
set_option linter.unusedSimpArgs false
namespace Go.Proofs.YtjigfinpbdglnaaGreatDoor
open Go.RowKit

theorem opn_short {b : List UInt8} (h : b.length < 28) : Sst.opn b = .error (0, 11) := by unfold Sst.opn; rw [if_pos h]
section
variable {b : List UInt8} {E A T : Nat}
theorem opn_eq (hE : b.length = E + 28) : Sst.opn b = if (Codec.sum ((b.drop E).take 24)).toNat ≠ Sst.num (b.drop (E + 24)) then .error (E, 13)
  else if ¬ (Sst.num ((b.drop E).take 8) < Sst.num ((b.drop (E + 8)).take 8) ∧ Sst.num ((b.drop (E + 8)).take 8) < E) then .error (E, 14)
  else match Sst.blocks b (Sst.num ((b.drop E).take 8)) with
    | .error k => .error (k, 14)
    | .ok (L, bl) =>
      if Sst.win b (Sst.num ((b.drop E).take 8)) (Sst.num ((b.drop (E + 8)).take 8)) ≠ Codec.frame (Sst.index bl) then .error (Sst.num ((b.drop E).take 8), 14)
      else if Sst.win b (Sst.num ((b.drop (E + 8)).take 8)) E ≠ Codec.frame (Sst.filter L) then .error (Sst.num ((b.drop (E + 8)).take 8), 14)
      else if Sst.num ((b.drop (E + 16)).take 8) ≠ L.length then .error (E, 14)
      else .ok (L, bl) := by
  have e : b.length - 28 = E := by omega
  unfold Sst.opn
  rw [if_neg (by omega), e]
  rfl
theorem opn_sum (hE : b.length = E + 28) (h : (Codec.sum ((b.drop E).take 24)).toNat ≠ Sst.num (b.drop (E + 24))) : Sst.opn b = .error (E, 13) := by rw [opn_eq hE, if_pos h]
theorem opn_place (hE : b.length = E + 28) (h : (Codec.sum ((b.drop E).take 24)).toNat = Sst.num (b.drop (E + 24))) (h2 : ¬ (Sst.num ((b.drop E).take 8) < Sst.num ((b.drop (E + 8)).take 8) ∧ Sst.num ((b.drop (E + 8)).take 8) < E)) : Sst.opn b = .error (E, 14) := by rw [opn_eq hE, if_neg (by rw [h]; simp), if_pos h2]
theorem opn_on (hE : b.length = E + 28) (h : (Codec.sum ((b.drop E).take 24)).toNat = Sst.num (b.drop (E + 24))) (hA : Sst.num ((b.drop E).take 8) = A) (hT : Sst.num ((b.drop (E + 8)).take 8) = T) (h1 : A < T) (h2 : T < E) :
    Sst.opn b = match Sst.blocks b A with
    | .error k => .error (k, 14)
    | .ok (L, bl) =>
      if Sst.win b A T ≠ Codec.frame (Sst.index bl) then .error (A, 14)
      else if Sst.win b T E ≠ Codec.frame (Sst.filter L) then .error (T, 14)
      else if Sst.num ((b.drop (E + 16)).take 8) ≠ L.length then .error (E, 14)
      else .ok (L, bl) := by
  subst hA hT
  rw [opn_eq hE, if_neg (by rw [h]; simp), if_neg (by simp only [Decidable.not_not]; exact ⟨h1, h2⟩)]
end
def Wr (w : World) (g k er : Nat) : Prop := w.heap[g]? = some (.cells #[.int .i64 k, .int .i64 er] 66 (0, 0))
/-- What Open tells: a table, or what is wrong, and where. -/
def RetOpn (R : Except (Nat × Nat) (List Ent × List Bk)) (w : World) (e : Ending) (w' : World) : Prop := Below w.heap.size w w' ∧
  ((∃ k er g, R = .error (k, er) ∧ w.heap.size ≤ g ∧ e = .returned (.tuple #[.pointer none, .iface 61 (.pointer (some ⟨g, 0, none⟩))]) ∧ Wr w' g k er) ∨
   (∃ L bl bt al cl af nf cf, R = .ok (L, bl) ∧ e = .returned (.tuple #[.pointer (some ⟨bt, 0, none⟩), .nilIface]) ∧ Tb w' bt al L.length cl L bl.length af nf cf (Sst.filter L)))
theorem ret_wrong {R : Except (Nat × Nat) (List Ent × List Bk)} {w w1 : World} {k er g : Nat} {kk ee : Int} (hR : R = .error (k, er)) (hb : Below w.heap.size w w1) (hg : g = w1.heap.size) (hk : kk = k) (he : ee = er) :
    RetOpn R w (.returned (.tuple #[.pointer none, .iface 61 (.pointer (some ⟨g, 0, none⟩))])) (w1.alloc (.cells #[.int .i64 kk, .int .i64 ee] 66)) := by
  subst hg hk he
  exact ⟨hb.alloc hb.size _, .inl ⟨k, er, _, hR, hb.size, rfl, heap_alloc_new w1 _⟩⟩
theorem slice_E3 (a : Option Addr) (n c : Nat) {lo hi mx : Int} {lo' hi' mx' : Nat} (hlo : lo = lo') (hhi : hi = hi') (hmx : mx = mx') (h1 : lo' ≤ hi') (h2 : hi' ≤ mx') (h3 : mx' ≤ c) (w : World) :
    (Instr.slice 30 (.slice a n c) (some (.int .i64 lo)) (some (.int .i64 hi)) (some (.int .i64 mx))).run Tryz.prog w = .ok (.slice (subAn a mx' lo' 4) (hi' - lo') (mx' - lo')) w := by
  obtain ⟨i, hi0, _, g1, _⟩ := info_parts infoE
  subst hlo hhi hmx
  have e1 : lo' ≤ mx' := Nat.le_trans h1 h2
  simp [Instr.slice, run_underlying Tryz.underlying30, sizeOf, typeInfo, hi0, g1, Instr.sliceBounds, run_sliceBound_q, h1, h2, h3, e1]
  unfold subAn
  by_cases e : mx' = lo'
  · subst e; simp
  · cases a <;> simp [e]
theorem run_max0 {P : Program} (w : World) (ts : Array TypeId) (t : TypeId) (x : Int) : (Builtin.max_ ts t #[.int .i64 x, .int .i64 0]).run P w = .ok (.int .i64 (max x 0)) w := by
  by_cases h : x < 0
  · have e : max x 0 = 0 := by omega
    simp [Builtin.max_, Builtin.max2, h, e]
  · have e : max x 0 = x := by omega
    simp [Builtin.max_, Builtin.max2, h, e]
section
variable {P : Program} {l : List Oper} {Q : Exit → Act → World → Prop} {S : World → Prop} {ts : List Nat}
/-- One that is not wanted comes next. -/
theorem anyT_skip {L : Array Bool → Act → World → Prop} (k : Nat) {f : Nat} {listed : Array Bool} {a : Act} {w : World} {o : Oper} (h0 : l[k]? = some o) (hr : (Region.ready .any l.toArray listed == [k] && !inTail ts k) = true) (hw : Region.wanted o (yielded l.toArray a.tmps) = false) (hS : S w)
    (h : anyT P .any l.toArray Q S ts L f (listed.setIfInBounds k true) (a.put o.dst undef) w) : anyT P .any l.toArray Q S ts L (f + 1) listed a w := by
  simp only [Bool.and_eq_true, beq_iff_eq, Bool.not_eq_true'] at hr
  refine ⟨fun e => (by rw [hr.1] at e; cases e), fun i hi => ?_⟩
  rw [hr.1] at hi
  have : i = k := by simpa using hi
  subst this
  refine ⟨hr.2, ?_⟩
  unfold wpOp
  simp only [List.getElem?_toArray, h0]
  rw [if_neg (by rw [hw]; simp)]
  exact ⟨hS, h⟩
end
theorem num8_lt {l : List UInt8} (h : l.length ≤ 8) : Sst.num l < 18446744073709551616 := by
  have h1 := num_lt l
  have h2 : 256 ^ l.length ≤ 256 ^ 8 := Nat.pow_le_pow_right (by decide) h
  omega
/-- How a reading of the blocks goes on. -/
def Sst.Var (v : Nat) (b : List UInt8) (E A T : Nat) (R : Except Nat (List Ent × List Bk)) : Prop :=
  (v = 0 ∧ ∀ L bl, R ≠ .ok (L, bl)) ∨ (∃ L bl, R = .ok (L, bl) ∧ ((v = 1 ∧ Sst.win b A T ≠ Codec.frame (Sst.index bl)) ∨ (Sst.win b A T = Codec.frame (Sst.index bl) ∧ ((v = 2 ∧ Sst.win b T E ≠ Codec.frame (Sst.filter L)) ∨ (Sst.win b T E = Codec.frame (Sst.filter L) ∧ ((v = 3 ∧ Sst.num ((b.drop (E + 16)).take 8) ≠ L.length) ∨ (v = 4 ∧ Sst.num ((b.drop (E + 16)).take 8) = L.length)))))))
theorem var_all (b : List UInt8) (E A T : Nat) (R : Except Nat (List Ent × List Bk)) : Sst.Var 0 b E A T R ∨ Sst.Var 1 b E A T R ∨ Sst.Var 2 b E A T R ∨ Sst.Var 3 b E A T R ∨ Sst.Var 4 b E A T R := by
  cases R with
  | error k => exact .inl (.inl ⟨rfl, fun L bl h => by cases h⟩)
  | ok q =>
    obtain ⟨L, bl⟩ := q
    by_cases h1 : Sst.win b A T = Codec.frame (Sst.index bl)
    · by_cases h2 : Sst.win b T E = Codec.frame (Sst.filter L)
      · by_cases h3 : Sst.num ((b.drop (E + 16)).take 8) = L.length
        · exact .inr (.inr (.inr (.inr (.inr ⟨L, bl, rfl, .inr ⟨h1, .inr ⟨h2, .inr ⟨rfl, h3⟩⟩⟩⟩))))
        · exact .inr (.inr (.inr (.inl (.inr ⟨L, bl, rfl, .inr ⟨h1, .inr ⟨h2, .inl ⟨rfl, h3⟩⟩⟩⟩))))
      · exact .inr (.inr (.inl (.inr ⟨L, bl, rfl, .inr ⟨h1, .inl ⟨rfl, h2⟩⟩⟩)))
    · exact .inr (.inl (.inr ⟨L, bl, rfl, .inl ⟨rfl, h1⟩⟩))
theorem var0 {b : List UInt8} {E A T : Nat} {R : Except Nat (List Ent × List Bk)} {L : List Ent} {bl : List Bk} (h : Sst.Var 0 b E A T R) (hR : R = .ok (L, bl)) : False := by
  subst hR
  rcases h with ⟨_, h⟩ | ⟨L', bl', _, h⟩
  · exact h L bl rfl
  · rcases h with ⟨h, _⟩ | ⟨_, h⟩
    · omega
    · rcases h with ⟨h, _⟩ | ⟨_, h⟩
      · omega
      · rcases h with ⟨h, _⟩ | ⟨h, _⟩ <;> omega
theorem var_err {b : List UInt8} {E A T v : Nat} {R : Except Nat (List Ent × List Bk)} {k : Nat} (h : Sst.Var v b E A T R) (hv : v ≠ 0) (hR : R = .error k) : False := by
  subst hR
  rcases h with ⟨h, _⟩ | ⟨L', bl', h, _⟩
  · exact hv h
  · cases h
theorem var_q1 {b : List UInt8} {E A T v : Nat} {R : Except Nat (List Ent × List Bk)} {L : List Ent} {bl : List Bk} (h : Sst.Var v b E A T R) (hR : R = .ok (L, bl)) : (v = 1 → Sst.win b A T ≠ Codec.frame (Sst.index bl)) ∧ (2 ≤ v → Sst.win b A T = Codec.frame (Sst.index bl)) ∧ (v = 2 → Sst.win b T E ≠ Codec.frame (Sst.filter L)) ∧ (3 ≤ v → Sst.win b T E = Codec.frame (Sst.filter L)) ∧ (v = 3 → Sst.num ((b.drop (E + 16)).take 8) ≠ L.length) ∧ (v = 4 → Sst.num ((b.drop (E + 16)).take 8) = L.length) := by
  subst hR
  rcases h with ⟨_, h⟩ | ⟨L', bl', h0, h⟩
  · exact absurd rfl (h L bl)
  · cases h0
    rcases h with ⟨h, h1⟩ | ⟨g1, h⟩
    · exact ⟨fun _ => h1, fun _ => by omega, fun _ => by omega, fun _ => by omega, fun _ => by omega, fun _ => by omega⟩
    · rcases h with ⟨h, h1⟩ | ⟨g2, h⟩
      · exact ⟨fun _ => by omega, fun _ => g1, fun _ => h1, fun _ => by omega, fun _ => by omega, fun _ => by omega⟩
      · rcases h with ⟨h, h1⟩ | ⟨h, g3⟩
        · exact ⟨fun _ => by omega, fun _ => g1, fun _ => by omega, fun _ => g2, fun _ => h1, fun _ => by omega⟩
        · exact ⟨fun _ => by omega, fun _ => g1, fun _ => by omega, fun _ => g2, fun _ => by omega, fun _ => g3⟩
end Go.Proofs.YtjigfinpbdglnaaGreatDoor
