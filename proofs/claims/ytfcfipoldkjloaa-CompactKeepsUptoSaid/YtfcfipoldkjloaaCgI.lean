/- The groups of a list of entries: the sequence's contract. -/
import Derived.Test.YtfcfipoldkjloaaCgH
set_option maxRecDepth 100000
set_option linter.unusedSimpArgs false
namespace Go.Proofs.Ytfcfipoldkjloaa
open Go.RowKit
set_option linter.unusedVariables false
attribute [local go_sem] Oper.semAt_some

/-- A stretch of a list of n. -/
abbrev Gp (n : Nat) := { p : Nat × Nat // p.1 < p.2 ∧ p.2 ≤ n }
def gpv {n : Nat} (a : Option Addr) (x : Gp n) : Array Value := #[.slice (subAn a x.1.2 x.1.1 4) (x.1.2 - x.1.1) (x.1.2 - x.1.1)]
/-- What a round keeps: all below n₀, and one box. -/
def Kb (n₀ Bl : Nat) (t : TypeId) (v : Value) (A B : World) : Prop := Below n₀ A B ∧ (Boxed A Bl t v → Boxed B Bl t v)
theorem Kb.refl {n₀ Bl : Nat} {t : TypeId} {v : Value} (A : World) : Kb n₀ Bl t v A A := ⟨Below.refl _ _, fun h => h⟩
theorem Kb.trans {n₀ Bl : Nat} {t : TypeId} {v : Value} {A B C : World} (h : Kb n₀ Bl t v A B) (k : Kb n₀ Bl t v B C) : Kb n₀ Bl t v A C := ⟨h.1.trans k.1, fun x => k.2 (h.2 x)⟩
theorem Kb.book {n₀ Bl : Nat} {t : TypeId} {v : Value} {w : World} (hn : n₀ ≤ w.heap.size) (W : World) (l : Nat) (o o' : Obj) (hl : w.heap.size ≤ l) (h : W.heap[l]? = some o) (hc : o.isCells = false) (hw : o.isWalk = false) : Kb n₀ Bl t v W (W.putObj l o') :=
  ⟨belowK_b hn W l o o' hl h hc hw, fun hb => Boxed.turned hb (grownBy_putObj' W l o') (fun r e => by cases e; exact ⟨o, h, hc⟩)⟩
theorem Kb.drewN {n₀ Bl : Nat} {t : TypeId} {v : Value} (A : World) (q : Nat) : Kb n₀ Bl t v A (A.drewN q) := ⟨below_drewN (Below.refl _ _) q, fun h => h⟩
theorem grown_drewN (W : World) (q : Nat) : W.grownBy (W.drewN q) none := ⟨rfl, rfl, rfl, Nat.le_refl _, fun _ _ _ => rfl⟩
theorem segs_len {l : List Ent} : ∀ {xs : List (Nat × Nat)} {a b : Nat}, Ent.Segs l a xs b → xs.length + a ≤ b
  | [], a, b, h => by have : a = b := h; simp; omega
  | p :: xs, a, b, h => by have := segs_len h.2.2.2.2.2; have := h.1; have := h.2.1; simp only [List.length_cons]; omega
set_option maxRecDepth 100000 in
set_option maxHeartbeats 4000000 in
theorem groups1_in (m : Nat) (l Bl : Nat) (a : Option Addr) (n c : Nat) (es : List Ent) (wS : World) (hE : Es wS a n c es) (J Jx : List (Gp n) → World → Prop) (W : World) (hSW : Below wS.heap.size wS W) (hJ : AbidesFrom W.heap.size J)
    (hY : ∀ pre x W1, J pre W1 → pre.length < n → YieldAt Fence.wide m Try.prog l (gpv a x) W1 fun e W' =>
      (e = .returned (.bool true) ∧ J (pre ++ [x]) W' ∧ Kb wS.heap.size Bl 26 (.slice a n c) W1 W') ∨ (e = .returned (.bool false) ∧ Jx (pre ++ [x]) W'))
    (hBl : Boxed W Bl 26 (.slice a n c)) (h0 : J [] W) :
    CallsIn Fence.wide (m + 1) Try.prog 79 #[.func (.yield l) #[] #[], .pointer (some ⟨Bl, 0, none⟩)] W fun e W' => (∃ v, e = .returned v) ∧
      ((∃ xs, Ent.Segs es 0 (xs.map Subtype.val) n ∧ J xs W') ∨ (∃ pre, True ∧ Jx pre W')) := by
  have hle := hE.le
  have HN := Lib.hid hE.1
  have HE := Lib.hid hE
  have HSW := Lib.hid hSW
  have HJ := Lib.hid hJ
  have HY := Lib.hid hY
  have HBl := Lib.hid hBl
  have h1 : 1 ≤ m + 1 := by omega
  obtain ⟨i0, hi0, _, hz1, _⟩ := info_parts infoE
  have HS : Hid (∀ (f t : Nat) (W : World), f < t → t ≤ n → (Instr.slice 26 (.slice a n c) (some (.int .i64 (f : Int))) (some (.int .i64 (t : Int))) (some (.int .i64 (t : Int)))).run Try.prog W = .ok (.slice (subAn a t f 4) (t - f) (t - f)) W) :=
    Lib.hid fun f t W h1 h2 => run_slice_lhm (P := Try.prog) Try.underlying26 hi0 hz1 a n c rfl rfl rfl (Nat.le_of_lt h1) (Nat.le_refl _) (by have := hE.2.1; omega) W
  clear hE hSW hJ hY hBl hi0 hz1
  refine callsIn_of_wp Try.func79 rfl trivial ?_ rfl
  simp only [Try.ntmps79, List.size_toArray, List.length_cons, List.length_nil, Nat.reduceAdd, Nat.reduceSub, Array.replicate_succ, Array.replicate_zero, List.push_toArray, List.append_toArray, List.nil_append, List.cons_append]
  gi_wp2
  gi_loopw [3] (fun i wr => ∃ (f : Nat) (pre : List (Gp n)), f ≤ n ∧ i = .int .i64 f ∧ Ent.Segs es 0 (pre.map Subtype.val) f ∧ J pre wr ∧ Kb wS.heap.size Bl 26 (.slice a n c) W wr)
    (fun i _ => n - (intOf i).toNat)
  case atStart => exact ⟨0, [], Nat.zero_le _, rfl, rfl, h0, Kb.refl _⟩
  case round =>
    obtain ⟨f, pre, hf, rfl, hsg, hJs, hkp⟩ := hrel
    have hb := (hkp.2 HBl.out).cell
    by_cases hlt : f < n
    · have HEr := Lib.hid (HE.out.below (HSW.out.trans hkp.1))
      obtain ⟨b1, o1, a1, d1, rfl, he1, hv1⟩ := HEr.out.vals hlt
      have p1 := he1.key
      gi_wp2
      refine wpIn_wide.2 ?_
      go_loopw [4] (fun i wi => ∃ (t q : Nat), f < t ∧ t ≤ n ∧ i = .int .i64 t ∧ wi = wr.drewN q ∧ Hid (∀ i, f ≤ i → i < t → (nth es i).key = (nth es f).key)) (fun i _ => n - (intOf i).toNat)
      case atStart => exact ⟨f + 1, 0, by omega, by omega, by go_num, rfl, Lib.hid (fun i h1 h2 => by rw [show i = f by omega])⟩
      case round =>
        obtain ⟨t, q, hft, htn, rfl, rfl, hall⟩ := hrel
        by_cases hlt2 : t < n
        · obtain ⟨b2, o2, a2, d2, ea2, he2, hv2⟩ := HEr.out.vals hlt2
          cases ea2
          have q1 := he2.key
          by_cases hk : (nth es t).key = (nth es f).key
          · have t1 : ((bstr (nth es t).key).toList == (bstr (nth es f).key).toList) = true := by rw [bstr_beq]; exact decide_eq_true hk
            have t1' : decide ((nth es t).key = (nth es f).key) = true := decide_eq_true hk
            have HK := Lib.hid hk
            have HJs := Lib.hid hJs
            have HKP := Lib.hid hkp
            clear hk hJs hkp he1 he2 hv1 hv2
            go_wp2_with fail
            go_quiet (fail)
            go_wp2
            go_roundw
            case rel => exact ⟨t + 1, q + nq, by omega, by omega, by go_num, rfl, Lib.hid (fun i h1 h2 => by
              by_cases e : i = t
              · rw [e]; exact HK.out
              · exact hall.out i h1 (by omega))⟩
            case measure => simp [intOf]; omega
          · have t1 : ((bstr (nth es t).key).toList == (bstr (nth es f).key).toList) = false := by rw [bstr_beq]; exact decide_eq_false hk
            have t1' : decide ((nth es t).key = (nth es f).key) = false := decide_eq_false hk
            have HK := Lib.hid hk
            have HJs := Lib.hid hJs
            have HKP := Lib.hid hkp
            clear hk hJs hkp he1 he2 hv1 hv2
            go_wp2_with fail
            go_quiet (fail)
            have HK2 : Hid (t < es.length → (nth es t).key ≠ (nth es f).key) := Lib.hid (fun _ => HK.out)
            have hlen : pre.length < n := by have := segs_len hsg; simp at this; omega
            obtain ⟨fn, tmps, assign, body, hy, hR⟩ := HY.out pre ⟨(f, t), hft, htn⟩ (wr.drewN (q + nq)) (HJ.out pre wr _ none HJs.out (grown_drewN wr _) (fun r e => by cases e)) hlen
            have hs := fun W => HS.out f t W hft htn
            dsimp only [gpv] at hy
            have HSG := Lib.hid (hsg.snoc hft (by rw [HN.out]; exact htn) hall.out HK2.out)
            clear hsg
            go_wp2
            gi_wp2
            refine hR.mono ?_
            rintro e W3 (⟨rfl, hJ3, hk3⟩ | ⟨rfl, hJx3⟩)
            · have HK3 := Lib.hid (HKP.out.trans ((Kb.drewN wr (q + nq)).trans hk3))
              have HJ3 := Lib.hid hJ3
              clear hk3 hJ3
              gi_wp2
              go_roundw
              case rel => exact ⟨t, pre ++ [⟨(f, t), hft, htn⟩], htn, rfl, by rw [List.map_append]; exact HSG.out, HJ3.out, HK3.out⟩
              case measure => simp [intOf]; omega
            · gi_wp2
              refine bodyPost_ret (results_none rfl _ _ _) rfl ?_
              exact ⟨⟨_, rfl⟩, .inr ⟨_, trivial, hJx3⟩⟩
        · have t1 : decide (t < n) = false := decide_eq_false hlt2
          have HK2 : Hid (t < es.length → (nth es t).key ≠ (nth es f).key) := Lib.hid (fun h => by rw [HN.out] at h; exact absurd h hlt2)
          have HJs := Lib.hid hJs
          have HKP := Lib.hid hkp
          clear hJs hkp he1 hv1
          go_wp2_with fail
          go_quiet (fail)
          have hlen : pre.length < n := by have := segs_len hsg; simp at this; omega
          obtain ⟨fn, tmps, assign, body, hy, hR⟩ := HY.out pre ⟨(f, t), hft, htn⟩ (wr.drewN (q + nq)) (HJ.out pre wr _ none HJs.out (grown_drewN wr _) (fun r e => by cases e)) hlen
          have hs := fun W => HS.out f t W hft htn
          dsimp only [gpv] at hy
          have HSG := Lib.hid (hsg.snoc hft (by rw [HN.out]; exact htn) hall.out HK2.out)
          clear hsg
          go_wp2
          gi_wp2
          refine hR.mono ?_
          rintro e W3 (⟨rfl, hJ3, hk3⟩ | ⟨rfl, hJx3⟩)
          · have HK3 := Lib.hid (HKP.out.trans ((Kb.drewN wr (q + nq)).trans hk3))
            have HJ3 := Lib.hid hJ3
            clear hk3 hJ3
            gi_wp2
            go_roundw
            case rel => exact ⟨t, pre ++ [⟨(f, t), hft, htn⟩], htn, rfl, by rw [List.map_append]; exact HSG.out, HJ3.out, HK3.out⟩
            case measure => simp [intOf]; omega
          · gi_wp2
            refine bodyPost_ret (results_none rfl _ _ _) rfl ?_
            exact ⟨⟨_, rfl⟩, .inr ⟨_, trivial, hJx3⟩⟩
    · obtain rfl : f = n := by omega
      have HJs := Lib.hid hJs
      clear hJs
      gi_wp2
      go_end0
      exact ⟨⟨_, rfl⟩, .inl ⟨pre, hsg, HJs.out⟩⟩
end Go.Proofs.Ytfcfipoldkjloaa
