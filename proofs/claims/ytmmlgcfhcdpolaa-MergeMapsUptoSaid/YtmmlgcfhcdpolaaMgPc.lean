/- The map of MergeMaps at the machine. -/
import Derived.Test.YtmmlgcfhcdpolaaMgPb
import Derived.Test.YtmmlgcfhcdpolaaMgZ
import Derived.Maps.OwnSet
import Derived.Maps.OwnOps
import Derived.Maps.RangeWalk
import Derived.Sort.KeysCollected
import Derived.StringKeys
namespace Go.Proofs.Ytmmlgcfhcdpolaa
open Go.RowKit
open Go.Maps (Keyed)
set_option linter.unusedVariables false

def RV (v : Value) : Option (DataW Value × List MemPlace) := some (.held v, [])
abbrev entV (e : Ent) (a : Option Addr) (c : Nat) : Value := .agg #[.string (bstr e.key), .int .u64 e.seq, .bool e.gone, .slice a e.val.length c]
abbrev zE : Value := .agg #[.string ByteArray.empty, .int .u64 0, .bool false, .slice none 0 0]
theorem keyS : Keyed Try.prog 9 := Maps.string_keyed Try.underlying9
theorem keyOf_bstr {k : List UInt8} (h : k.length ≤ maxLen) : keyOf Try.prog 9 (.string (bstr k)) = some (.string k) := by
  have := Go.WideMaps.keyOf_string_mk (P := Try.prog) Try.underlying9 (s := bstr k) (by simpa [bstr, ByteArray.size] using h)
  rw [this]
  simp [bstr]
theorem isKey (k : List UInt8) (h : k.length ≤ maxLen) : WideAt.IsKeyLit (.string k) := keyS.key (keyOf_bstr h)
theorem zeroEnt (w : World) : (zeroValue 25).run Try.prog w = .ok zE w := by kernel_rfl
/-- The map in block b reads as f; its values lie in w0. -/
structure BM (w0 w : World) (b n : Nat) (D : DataW Value) (f : Ent.Bst) : Prop where
  own : w.ownsMap Try.prog 9 RV b n D
  no : ∀ k, k.length ≤ maxLen → f k = none → ∀ z, D.atKey (.string k) z = z
  yes : ∀ k, k.length ≤ maxLen → ∀ e, f k = some e → ∃ a c, (∀ z, D.atKey (.string k) z = .held (entV e a c)) ∧ Bs w0 a e.val.length c e.val
theorem BM.made (w0 w : World) : BM w0 (w.alloc (.map #[] 0)) w.heap.size 0 (.map []) (fun _ => none) :=
  ⟨World.ownsMap_made w _ _ _, fun k _ _ z => rfl, fun k _ e h => by cases h⟩
theorem BM.below {w0 w w' : World} {b n : Nat} {D : DataW Value} {f : Ent.Bst} (h : BM w0 w b n D f) (hb : Below w.heap.size w w') : BM w0 w' b n D f := by
  refine ⟨?_, h.no, h.yes⟩
  have hlt := h.own.lt
  obtain ⟨es, clock, h1, F, hs, hD⟩ := h.own
  exact ⟨es, clock, (hb.block b hlt).trans h1, F, hs, hD⟩
theorem BM.put {w0 w w' : World} {b n : Nat} {D : DataW Value} {f : Ent.Bst} {e : Ent} {a : Option Addr} {c : Nat} (h : BM w0 w b n D f) (hk : e.key.length ≤ maxLen) (hb : Bs w0 a e.val.length c e.val)
    (ho : w'.ownsMap Try.prog 9 RV b (n + 1) (D.put (.string e.key) (.held (entV e a c)))) : BM w0 w' b (n + 1) (D.put (.string e.key) (.held (entV e a c))) (Ent.putB f e) := by
  refine ⟨ho, fun k hk' hf z => ?_, fun k hk' x hf => ?_⟩
  · unfold Ent.putB at hf
    by_cases e1 : k = e.key
    · rw [if_pos e1] at hf; cases hf
    · rw [if_neg e1] at hf
      rw [Maps.atKey_put_other (fun h => e1 (by cases h; rfl))]
      exact h.no k hk' hf z
  · unfold Ent.putB at hf
    by_cases e1 : k = e.key
    · rw [if_pos e1] at hf
      cases hf
      rw [e1]
      exact ⟨a, c, fun z => Maps.atKey_put_same h.own.isMap (isKey _ hk) _ _, hb⟩
    · rw [if_neg e1] at hf
      obtain ⟨a', c', g1, g2⟩ := h.yes k hk' x hf
      exact ⟨a', c', fun z => by rw [Maps.atKey_put_other (fun h => e1 (by cases h; rfl))]; exact g1 z, g2⟩
section
variable {w : World} {ops : Array Oper} {rest : List Oper} {o : Oper} {a : Act} {Q : Exit → Act → World → Prop}
/-- 'v, ok := m[k]', no entry there. -/
theorem look_no (hg : o.guard = none) (m x : Operand) (hop : o.op = Op.lookup 49 m x true) {b n : Nat} {D : DataW Value} {f : Ent.Bst} {w0 : World} (hm : a.eval m = .map (some b)) (h : BM w0 w b n D f)
    {k : List UInt8} (hk : k.length ≤ maxLen) (hx : a.eval x = .string (bstr k)) (hf : f k = none) (hK : wpList Try.prog ops Q rest (a.put o.dst (.tuple #[zE, .bool false])) w) : wpList Try.prog ops Q (o :: rest) a w := by
  refine wpList_lookup_own_ok _ hg m x _ hop 9 25 keyS Try.underlying49 RV (zeroEnt w) (.held zE) [] rfl b n D hm h.own _ _ hx (keyOf_bstr hk) ?_
  intro v ps hv
  rw [h.no k hk hf] at hv
  rw [Maps.has_false_of_atKey (h.no k hk hf)]
  have : v = zE := by unfold RV at hv; injection hv with hv; injection hv with h1 h2; injection h1
  rw [this]
  exact hK
theorem look_yes (hg : o.guard = none) (m x : Operand) (hop : o.op = Op.lookup 49 m x true) {b n : Nat} {D : DataW Value} (hm : a.eval m = .map (some b)) (h : w.ownsMap Try.prog 9 RV b n D)
    {k : List UInt8} (hk : k.length ≤ maxLen) (hx : a.eval x = .string (bstr k)) {v0 : Value} (hat : ∀ z, D.atKey (.string k) z = .held v0) (hK : wpList Try.prog ops Q rest (a.put o.dst (.tuple #[v0, .bool true])) w) : wpList Try.prog ops Q (o :: rest) a w := by
  refine wpList_lookup_own_ok _ hg m x _ hop 9 25 keyS Try.underlying49 RV (zeroEnt w) (.held zE) [] rfl b n D hm h _ _ hx (keyOf_bstr hk) ?_
  intro v ps hv
  rw [hat] at hv
  rw [Maps.has_true_of_atKey hat]
  have : v = v0 := by unfold RV at hv; injection hv with hv; injection hv with h1 h2; injection h1
  rw [this]
  exact hK
/-- 'm[k]', an entry there. -/
theorem look_at (hg : o.guard = none) (m x : Operand) (hop : o.op = Op.lookup 49 m x false) {b n : Nat} {D : DataW Value} (hm : a.eval m = .map (some b)) (h : w.ownsMap Try.prog 9 RV b n D)
    {k : List UInt8} (hk : k.length ≤ maxLen) (hx : a.eval x = .string (bstr k)) {v0 : Value} (hat : ∀ z, D.atKey (.string k) z = .held v0) (hK : wpList Try.prog ops Q rest (a.put o.dst v0) w) : wpList Try.prog ops Q (o :: rest) a w := by
  refine wpList_plain hg fun K' hK' => ?_
  obtain ⟨v, ps, hrun, hv⟩ := h.lookup keyS Try.underlying49 (zeroEnt w) (zd := .held zE) (zp := []) rfl (keyOf_bstr hk)
  rw [hat] at hv
  have : v = v0 := by unfold RV at hv; injection hv with hv; injection hv with h1 h2; injection h1
  subst this
  unfold Oper.wp
  simp [execOp, hop, hm, hx, hrun, Result.andThen]
  exact hK' _ _ hK
theorem store_in (hg : o.guard = none) (m x v : Operand) (hop : o.op = Op.mapUpdate 49 m x v) {b n : Nat} {D : DataW Value} {f : Ent.Bst} {w0 : World} (hm : a.eval m = .map (some b)) (h : BM w0 w b n D f) (hn : n < maxLen)
    {e : Ent} {ae : Option Addr} {ce : Nat} (hk : e.key.length ≤ maxLen) (hb : Bs w0 ae e.val.length ce e.val) (hx : a.eval x = .string (bstr e.key)) (hv : a.eval v = entV e ae ce)
    (hK : ∀ D' w', BM w0 w' b (n + 1) D' (Ent.putB f e) → w.grownBy w' (some b) → wpList Try.prog ops Q rest (a.put o.dst undef) w') : wpList Try.prog ops Q (o :: rest) a w := by
  refine wpList_mapUpdate_own _ hg m x v _ hop 9 25 keyS Try.underlying49 RV b n D hm h.own hn _ _ _ hx hv (keyOf_bstr hk) (.held (entV e ae ce)) [] rfl ?_
  intro w' h1 h2
  exact hK _ _ (h.put hk hb h1) h2
/-- The field Gone of an entry by value. -/
theorem field_gone (hg : o.guard = none) (x : Operand) (hop : o.op = Op.field 25 x 2) {k q g v : Value} (hx : a.eval x = .agg #[k, q, g, v]) (hK : wpList Try.prog ops Q rest (a.put o.dst g) w) : wpList Try.prog ops Q (o :: rest) a w := by
  refine wpList_plain hg fun K' hK' => ?_
  have hrun : (Instr.field 25 (.agg #[k, q, g, v]) 2).run Try.prog w = .ok g w := rfl
  unfold Oper.wp
  simp [execOp, hop, hx, hrun, Result.andThen]
  exact hK' _ _ hK
/-- A range over the map: the keys whose entries are not gone, met so far. -/
structure Rg (w0 w : World) (b r n : Nat) (D : DataW Value) (f : Ent.Bst) (left : Lit → Bool) (cnt : Nat) (met : List (List UInt8)) : Prop where
  rg : w.ranges Try.prog 9 RV b r n D left cnt
  bm : BM w0 w b n D f
  nd : met.Nodup
  len : ∀ k ∈ met, k.length ≤ maxLen
  in_ : ∀ k ∈ met, left (.string k) = false ∧ ∃ e, f k = some e ∧ e.gone = false
  all : ∀ k, k.length ≤ maxLen → left (.string k) = false → ∀ e, f k = some e → e.gone = false → k ∈ met
theorem range_in (hg : o.guard = none) (m : Operand) (hop : o.op = Op.range 49 m) {b n : Nat} {D : DataW Value} {f : Ent.Bst} {w0 : World} (hm : a.eval m = .map (some b)) (h : BM w0 w b n D f)
    (hK : ∀ left cnt w', cnt ≤ n → Rg w0 w' b w.heap.size n D f left cnt [] → w.grownBy w' none → wpList Try.prog ops Q rest (a.put o.dst (.pointer (some ⟨w.heap.size, 0, none⟩))) w') : wpList Try.prog ops Q (o :: rest) a w := by
  refine wpList_range_own _ hg m _ hop 9 25 keyS Try.underlying49 RV b n D hm h.own ?_
  intro w' h1 h2 h3
  refine hK _ _ _ h.own.size_le ⟨h1, ⟨h1.owns, h.no, h.yes⟩, List.nodup_nil, fun k hk => (by cases hk), fun k hk => (by cases hk), fun k hk hl e he hgn => ?_⟩ h2
  obtain ⟨a', c', g1, g2⟩ := h.yes k hk e he
  rw [Maps.has_true_of_atKey g1] at hl
  cases hl
theorem next_in (hg : o.guard = none) (it : Operand) (hop : o.op = Op.next it false) {b r n : Nat} {D : DataW Value} {f : Ent.Bst} {w0 : World} {left : Lit → Bool} {cnt : Nat} {met : List (List UInt8)} (hit : a.eval it = .pointer (some ⟨r, 0, none⟩)) (h : Rg w0 w b r n D f left cnt met)
    (hDone : (∀ k, k ∈ met ↔ k.length ≤ maxLen ∧ ∃ e, f k = some e ∧ e.gone = false) → wpList Try.prog ops Q rest (a.put o.dst (.tuple #[.bool false])) w)
    (hMore : ∀ (k : List UInt8) (e : Ent) (ae : Option Addr) (ce : Nat) (left' : Lit → Bool) (w' : World) (cnt' : Nat), k.length ≤ maxLen → f k = some e → (∀ z, D.atKey (.string k) z = .held (entV e ae ce)) → w'.ownsMap Try.prog 9 RV b n D → (e.gone = true → Rg w0 w' b r n D f left' cnt' met) → (e.gone = false → Rg w0 w' b r n D f left' cnt' (met ++ [k])) → w'.rangeLeft b r = cnt' → cnt' < cnt →
      w.grownBy w' (some r) → (Instr.entry (.pointer (some ⟨r, 0, none⟩))).run Try.prog w' = .ok (.tuple #[.string (bstr k), entV e ae ce]) w' → wpList Try.prog ops Q rest (a.put o.dst (.tuple #[.bool true, .string (bstr k), entV e ae ce])) w') :
    wpList Try.prog ops Q (o :: rest) a w := by
  refine wpList_next_ranges _ hg it hop 9 keyS RV (fun l : List UInt8 => .string (bstr l)) (fun v : Value => v) (fun key kl hk => ?_) (fun v y hv => ⟨v, rfl⟩) b r n D left cnt hit h.rg ?_ ?_
  · obtain ⟨x, hx, _⟩ := Maps.keyOf_str Try.underlying9 hk
    exact ⟨x, hx⟩
  · intro _ hl
    exact hDone fun k => ⟨fun hk => ⟨h.len k hk, (h.in_ k hk).2⟩, fun ⟨h1, e, h2, h3⟩ => h.all k h1 (hl _) e h2 h3⟩
  · intro k v kl y w' cnt' hkey hlk hv hat hrg hlt hgr hsz hen
    obtain ⟨k', hk', rfl, hkl⟩ := Maps.keyOf_str Try.underlying9 hkey
    obtain rfl : k = k' := by
      have : Value.string (bstr k) = Value.string (bstr k') := hk'
      injection this with this
      exact bstr_inj this
    have hnm : k ∉ met := fun hm => by rw [(h.in_ k hm).1] at hlk; cases hlk
    cases hf : f k with
    | none =>
      have h1 := h.bm.no k hkl hf (.held zE)
      have h2 := h.bm.no k hkl hf .nil
      rw [hat] at h1 h2
      rw [h1] at h2
      cases h2
    | some e =>
      obtain ⟨ae, ce, g1, g2⟩ := h.bm.yes k hkl e hf
      have hy : y.1 = .held (entV e ae ce) := by rw [← hat .nil]; exact g1 .nil
      have hve : v = entV e ae ce := by
        unfold RV at hv
        injection hv with hv
        rw [← hv] at hy
        injection hy
      subst hve
      have hsk : ∀ k2 : List UInt8, (Lit.string k2).sameKey (.string k) = true ↔ k2 = k := fun k2 =>
        ⟨fun h => by have := WideAt.sameKey_eq h; injection this, fun h => by rw [h]; exact WideAt.sameKey_self (isKey k hkl)⟩
      have hsf : ∀ k2 : List UInt8, k2 ≠ k → (Lit.string k2).sameKey (.string k) = false := fun k2 hne => by
        cases hc : (Lit.string k2).sameKey (.string k) with
        | false => rfl
        | true => exact absurd ((hsk k2).1 hc) hne
      have hbm : BM w0 w' b n D f := ⟨hrg.owns, h.bm.no, h.bm.yes⟩
      refine hMore k e ae ce _ w' cnt' hkl hf g1 hrg.owns (fun hgn => ⟨hrg, hbm, h.nd, h.len, fun k2 hk2 => ⟨by rw [(h.in_ k2 hk2).1]; rfl, (h.in_ k2 hk2).2⟩, fun k2 hk2 hl e2 he2 hg2 => ?_⟩)
        (fun hgn => ⟨hrg, hbm, List.nodup_append.2 ⟨h.nd, by simp, fun x hx y hy => by rw [List.mem_singleton.1 hy]; exact fun e => hnm (e ▸ hx)⟩, fun k2 hk2 => ?_, fun k2 hk2 => ?_, fun k2 hk2 hl e2 he2 hg2 => ?_⟩) hrg.left_eq hlt hgr hen
      · by_cases e1 : k2 = k
        · subst e1; rw [hf] at he2; cases he2; rw [hgn] at hg2; cases hg2
        · rw [hsf k2 e1] at hl
          exact h.all k2 hk2 (by simpa using hl) e2 he2 hg2
      · rcases List.mem_append.1 hk2 with h1 | h1
        · exact h.len k2 h1
        · rw [List.mem_singleton.1 h1]; exact hkl
      · rcases List.mem_append.1 hk2 with h1 | h1
        · exact ⟨by rw [(h.in_ k2 h1).1]; rfl, (h.in_ k2 h1).2⟩
        · rw [List.mem_singleton.1 h1]
          exact ⟨by rw [(hsk k).2 rfl]; simp, e, hf, hgn⟩
      · by_cases e1 : k2 = k
        · simp [e1]
        · rw [hsf k2 e1] at hl
          exact List.mem_append.2 (.inl (h.all k2 hk2 (by simpa using hl) e2 he2 hg2))
end
end Go.Proofs.Ytmmlgcfhcdpolaa
