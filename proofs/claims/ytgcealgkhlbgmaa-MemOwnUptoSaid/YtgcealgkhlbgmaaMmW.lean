/- The sequence over a skip list. -/
import Derived.Test.YtgcealgkhlbgmaaMmV
import Derived.Sort.LoopGhostIn
namespace Go.Proofs.Ytgcealgkhlbgmaa
open Go.RowKit
set_option linter.unusedVariables false
attribute [local go_sem] Oper.semAt_some

/-- A place of a list. -/
abbrev Ix (ns : List Nd) := { i : Nat // i < ns.length }
def ixv {ns : List Nd} (x : Ix ns) : Array Value := #[ev (nth ns x.1).e (nth ns x.1).va (nth ns x.1).vc]
theorem grown_of_below {W W' : World} (h : Below W.heap.size W W') : W.grownBy W' none := ⟨h.os, h.tape, h.output, h.size, fun k hk _ => h.block k hk⟩
def hop (ns : List Nd) (i : Nat) : Option Nat := if i < ns.length then some (nth ns i).b else none
theorem hop_eq {w : World} {tb t0 : Nat} {ns : List Nd} (h : SL w tb t0 ns) (i : Nat) (hi : i ≤ ns.length) : nxt 0 (ns.drop i) = hop ns i := by
  unfold hop
  rcases nxt_from 0 ns i with ⟨h1, h2⟩ | ⟨j, h1, h2, h3, h4, h5⟩
  · by_cases hlt : i < ns.length
    · have h3 := h2 i (Nat.le_refl _) hlt
      have h4 := (h.nd i hlt).1.h1
      omega
    · rw [if_neg hlt]; exact h1
  · by_cases e : i = j
    · subst e; rw [if_pos h2]; exact h3
    · have h6 := h5 i (Nat.le_refl _) (by omega)
      have h7 := (h.nd i (by omega)).1.h1
      omega
theorem run_index_arr {P : Program} {w : World} {t e : TypeId} {n : Nat} {cs : Array Value} {k : IntKind} {i : Int} {v : Value} {ti : TypeInfo} (h : P.underlying t = some (.array n e)) (hi : P.info? e = some ti) (hsz : P.cellsOf e = 1) (hp : ∀ w, (isAgg e).run P w = .ok false w) (h0 : 0 ≤ i ∧ i < (n : Int)) (hx : cs[i.toNat]? = some v) :
    (Instr.index t (.agg cs) (.int k i)).run P w = .ok v w := by
  have h1 := fun w => run_sizeOf (w := w) hi
  simp [Instr.index, run_underlying h, asIntOf, h0, h1, hsz, go_sem, part, hp, hx]
theorem infoPtr : ∃ ti, Try.prog.info? 74 = some ti := by
  cases h : Try.prog.info? 74 with
  | none => have := infoP; rw [h] at this; cases this
  | some ti => exact ⟨ti, rfl⟩
set_option maxRecDepth 100000 in
set_option maxHeartbeats 4000000 in
theorem from1_in (m l B1 B2 tb t0 : Nat) (ns : List Nd) (v : Ent) (va : Option Addr) (vc : Nat) (wS : World) (hT : SL wS tb t0 ns) (hV : Bs wS va v.val.length vc v.val) (J Jx : List (Ix ns) → World → Prop) (W : World) (hSW : Below wS.heap.size wS W) (hJ : AbidesFrom W.heap.size J)
    (hY : ∀ pre x W1, J pre W1 → pre.length < ns.length → YieldAt Fence.wide m Try.prog l (ixv x) W1 fun e W' =>
      (e = .returned (.bool true) ∧ J (pre ++ [x]) W' ∧ Below wS.heap.size W1 W') ∨ (e = .returned (.bool false) ∧ Jx (pre ++ [x]) W'))
    (hB1 : W.cell? ⟨B1, 0, none⟩ = some (.pointer (some ⟨tb, 0, none⟩))) (hB2 : EntAt W B2 0 v va vc) (h0 : J [] W) :
    CallsIn Fence.wide (m + 1) Try.prog 44 #[.func (.yield l) #[] #[], .pointer (some ⟨B1, 0, none⟩), .pointer (some ⟨B2, 0, none⟩)] W fun e W' => (∃ v, e = .returned v) ∧
      ((∃ xs : List (Ix ns), xs.map Subtype.val = List.range' (below ns v) (ns.length - below ns v) ∧ J xs W') ∨ (∃ pre : List (Ix ns), pre.map Subtype.val = List.range' (below ns v) pre.length ∧ Jx pre W')) := by
  have HT := Lib.hid hT
  have HV := Lib.hid hV
  have HSW := Lib.hid hSW
  have HJ := Lib.hid hJ
  have HY := Lib.hid hY
  have h1 : 1 ≤ m + 1 := by omega
  have v1 := hB2.key
  have v2 := hB2.seq
  have v3 := hB2.gone
  have v4 := hB2.val
  simp only [Nat.zero_add] at v1 v2 v3 v4
  clear hT hV hSW hJ hY hB2
  refine callsIn_of_wp Try.func44 rfl trivial ?_ rfl
  simp only [Try.ntmps44, List.size_toArray, List.length_cons, List.length_nil, Nat.reduceAdd, Nat.reduceSub, Array.replicate_succ, Array.replicate_zero, List.push_toArray, List.append_toArray, List.nil_append, List.cons_append]
  have hpl := below_le ns v
  gi_wp2_with fail
  refine ⟨trivial, ?_⟩
  have hah := ahead_any tb t0 ns v va vc W (HT.out.below HSW.out) (HV.out.below HSW.out)
  unfold ev at hah
  refine (callsIn_wide.2 hah).mono ?_
  clear hah
  rintro e w1 ⟨P, hP, rfl, hb1⟩
  have hP0 := hP 0 (by omega)
  obtain ⟨i1, ih12, itw⟩ := ((HT.out.below HSW.out).below hb1).place (i := P 0) (by have := hP0.1; omega)
  have i2 := itw 0 hP0.2.1
  rw [nxt_last hpl hP0, hop_eq HT.out _ hpl] at i2
  have hpos0 := hP0.2.1
  have hJ1 : J [] w1 := HJ.out [] W w1 none h0 (grown_of_below hb1) (fun r e => by cases e)
  have HB1 := Lib.hid (HSW.out.trans (hb1.mono HSW.out.size))
  have HJ1 := Lib.hid hJ1
  have e12 : ((List.range 12).map fun k => ptr (some (bk tb ns (P k)))).toArray = #[.pointer (some ⟨bk tb ns (P 0), 0, none⟩), .pointer (some ⟨bk tb ns (P 1), 0, none⟩), .pointer (some ⟨bk tb ns (P 2), 0, none⟩), .pointer (some ⟨bk tb ns (P 3), 0, none⟩), .pointer (some ⟨bk tb ns (P 4), 0, none⟩), .pointer (some ⟨bk tb ns (P 5), 0, none⟩), .pointer (some ⟨bk tb ns (P 6), 0, none⟩), .pointer (some ⟨bk tb ns (P 7), 0, none⟩), .pointer (some ⟨bk tb ns (P 8), 0, none⟩), .pointer (some ⟨bk tb ns (P 9), 0, none⟩), .pointer (some ⟨bk tb ns (P 10), 0, none⟩), .pointer (some ⟨bk tb ns (P 11), 0, none⟩)] := rfl
  rw [e12]
  clear e12 hP hP0 itw ih12 hJ1 h0 v1 v2 v3 v4 hB1
  have hix : ∀ w, (Instr.index 75 (.agg #[.pointer (some ⟨bk tb ns (P 0), 0, none⟩), .pointer (some ⟨bk tb ns (P 1), 0, none⟩), .pointer (some ⟨bk tb ns (P 2), 0, none⟩), .pointer (some ⟨bk tb ns (P 3), 0, none⟩), .pointer (some ⟨bk tb ns (P 4), 0, none⟩), .pointer (some ⟨bk tb ns (P 5), 0, none⟩), .pointer (some ⟨bk tb ns (P 6), 0, none⟩), .pointer (some ⟨bk tb ns (P 7), 0, none⟩), .pointer (some ⟨bk tb ns (P 8), 0, none⟩), .pointer (some ⟨bk tb ns (P 9), 0, none⟩), .pointer (some ⟨bk tb ns (P 10), 0, none⟩), .pointer (some ⟨bk tb ns (P 11), 0, none⟩)]) (.int .i64 0)).run Try.prog w = .ok (.pointer (some ⟨bk tb ns (P 0), 0, none⟩)) w := fun w => by
    obtain ⟨ti, hti⟩ := infoPtr
    exact run_index_arr Try.underlying75 hti (by kernel_rfl) (fun w => by simp [isAgg, run_underlying Try.underlying74, go_sem]) (by decide) rfl
  obtain ⟨p, hp⟩ : ∃ p, p = below ns v := ⟨_, rfl⟩
  rw [← hp] at i2 hpl
  have HPE := Lib.hid hp
  clear hp
  generalize P 0 = P0 at *
  gi_wp2_with fail
  clear i1 i2 hpos0
  clear hix
  gi_loopg [4] (ns.length - p) (fun g at_ wr => ∃ (i : Nat) (pre : List (Ix ns)), g = ns.length - i ∧ p ≤ i ∧ i ≤ ns.length ∧ at_ = ptr (hop ns i) ∧ Hid (pre.map Subtype.val = List.range' p (i - p)) ∧ Hid (J pre wr) ∧ Hid (Below wS.heap.size wS wr))
  case atStart => exact ⟨p, [], rfl, Nat.le_refl _, hpl, rfl, Lib.hid (by simp), HJ1, HB1⟩
  case round =>
    obtain ⟨i, pre, rfl, hpi, hil, rfl, hpre, hJp, hbw⟩ := hrel
    by_cases hlt : i < ns.length
    · have hho : ptr (hop ns i) = .pointer (some ⟨(nth ns i).b, 0, none⟩) := by unfold hop; rw [if_pos hlt]; rfl
      rw [hho]
      clear hho
      have hnd := ((HT.out.below hbw.out).nd i hlt).1.ent
      have n1 := hnd.key
      have n2 := hnd.seq
      have n3 := hnd.gone
      have n4 := hnd.val
      simp only [Nat.zero_add] at n1 n2 n3 n4
      have hlen : pre.length < ns.length := by
        have := congrArg List.length hpre.out
        simp at this
        omega
      clear hnd
      obtain ⟨fn, tmps, assign, body, hy, hR⟩ := HY.out pre ⟨i, hlt⟩ wr hJp.out hlen
      dsimp only [ixv, ev] at hy
      have HPR : Hid ((pre ++ [(⟨i, hlt⟩ : Ix ns)]).map Subtype.val = List.range' p (i + 1 - p)) := Lib.hid (by
        rw [List.map_append, hpre.out, show i + 1 - p = (i - p) + 1 by omega, List.range'_concat]
        simp
        omega)
      gi_wp2
      refine hR.mono ?_
      rintro e W3 (⟨rfl, hJ3, hk3⟩ | ⟨rfl, hJx3⟩)
      · have hb3 := hbw.out.trans hk3
        have HB3 := Lib.hid hb3
        have HJ3 := Lib.hid hJ3
        obtain ⟨j1, j2, j3⟩ := (HT.out.below hb3).place (i := i + 1) (by omega)
        rw [← nth_bk, ← nth_tw, ← nth_ht] at j1
        rw [← nth_tw, ← nth_ht] at j3
        have k0 := (HT.out.nd i hlt).1.h1
        have j4 := j3 0 (by omega)
        rw [hop_eq HT.out _ (by omega)] at j4
        clear hb3 hk3 hJ3 j2 j3 n1 n2 n3 n4 hR hy
        gi_wp2
        gi_roundg (ns.length - (i + 1))
        case measure => omega
        case rel => exact ⟨i + 1, pre ++ [⟨i, hlt⟩], rfl, by omega, by omega, rfl, HPR, HJ3, HB3⟩
      · gi_wp2
        refine bodyPost_ret (results_none rfl _ _ _) rfl ?_
        exact ⟨⟨_, rfl⟩, .inr ⟨pre ++ [⟨i, hlt⟩], by rw [HPR.out, ← HPE.out, List.length_append]; have h9 := congrArg List.length hpre.out; simp at h9; rw [h9]; simp; omega, hJx3⟩⟩
    · have hho : ptr (hop ns i) = .pointer none := by unfold hop; rw [if_neg hlt]; rfl
      rw [hho]
      obtain rfl : i = ns.length := by omega
      clear hho
      gi_wp2
      go_end0
      exact ⟨⟨_, rfl⟩, .inl ⟨pre, by rw [← HPE.out]; exact hpre.out, hJp.out⟩⟩
end Go.Proofs.Ytgcealgkhlbgmaa
