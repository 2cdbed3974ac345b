/- Parts of extents, plain; the program's Part. -/
import Derived.Test.YtkbfefooaajhkaaDoorExCr
set_option maxRecDepth 100000
set_option linter.unusedVariables false
set_option linter.unusedSimpArgs false
namespace Go.Proofs.YtkbfefooaajhkaaDoor
open Go.RowKit

/-! Plain. -/
/-- Chunks k, k + 1, .., m of them, one behind the other. -/
def Ex.gat (L : List Wr) (id : Nat) (h : Hd) (k : Nat) : Nat → Option (List UInt8)
  | 0 => some []
  | m + 1 => match Ex.gat L id h k m, Ex.chunk L id h (k + m) with
    | some l, some x => some (l ++ x)
    | _, _ => none
def Ex.last (h : Hd) (t : Nat) : Nat := (t + h.chunk - 1) / h.chunk
def Ex.whole (L : List Wr) (id : Nat) (h : Hd) (f t : Nat) : List UInt8 × Nat := match Ex.gat L id h (f / h.chunk) (Ex.last h t - f / h.chunk) with
  | none => ([], 16)
  | some l => ((l.drop (f - f / h.chunk * h.chunk)).take (t - f), 0)
def Ex.partOf (x : Hd × Nat) (L : List Wr) (id : Nat) (f t : Int) : List UInt8 × Nat :=
  if x.2 ≠ 0 then ([], x.2)
  else if f < 0 ∨ t < f ∨ (x.1.size : Int) < t then ([], 1)
  else if f = t then ([], 0)
  else Ex.whole L id x.1 f.toNat t.toNat
def Ex.part (L : List Wr) (id : Nat) (f t : Int) : List UInt8 × Nat := Ex.partOf (Ex.look L id) L id f t
theorem chunk_len {L : List Wr} {id k : Nat} {h : Hd} {x : List UInt8} (hx : Ex.chunk L id h k = some x) : x.length = h.len k := by
  unfold Ex.chunk at hx
  cases hb : Kv.get L (Ex.ck id k) with
  | none => rw [hb] at hx; cases hx
  | some b =>
    rw [hb] at hx
    by_cases hg : Ex.good h k b
    · rw [pick_yes hg] at hx
      cases hx
      rw [List.length_drop, hg.1]; omega
    · rw [pick_no hg] at hx; cases hx
theorem gat_some {L : List Wr} {id k m : Nat} {h : Hd} {l x : List UInt8} (h1 : Ex.gat L id h k m = some l) (h2 : Ex.chunk L id h (k + m) = some x) : Ex.gat L id h k (m + 1) = some (l ++ x) := by
  simp only [Ex.gat, h1, h2]
theorem gat_none {L : List Wr} {id k m : Nat} {h : Hd} (h2 : Ex.chunk L id h (k + m) = none) : ∀ d, Ex.gat L id h k (m + 1 + d) = none
  | 0 => by
    show (match Ex.gat L id h k m, Ex.chunk L id h (k + m) with | some l, some x => some (l ++ x) | _, _ => none) = none
    rw [h2]; cases Ex.gat L id h k m <;> rfl
  | d + 1 => by
    show (match Ex.gat L id h k (m + 1 + d), Ex.chunk L id h (k + (m + 1 + d)) with | some l, some x => some (l ++ x) | _, _ => none) = none
    rw [gat_none h2 d]
theorem len_add (h : Hd) (k : Nat) (hk : k * h.chunk < h.size) : k * h.chunk + h.len k = min ((k + 1) * h.chunk) h.size := by
  unfold Hd.len
  rw [Nat.succ_mul]
  generalize k * h.chunk = q at *
  omega
theorem gat_len {L : List Wr} {id k : Nat} {h : Hd} : ∀ {m : Nat} {l : List UInt8}, Ex.gat L id h k m = some l → (∀ j, j < m → (k + j) * h.chunk < h.size) → k * h.chunk ≤ h.size → l.length + k * h.chunk = min ((k + m) * h.chunk) h.size
  | 0, l, hl, _, h0 => by
    cases hl
    simp only [List.length_nil, Nat.add_zero, Nat.zero_add]
    omega
  | m + 1, l, hl, hj, h0 => by
    cases h1 : Ex.gat L id h k m with
    | none => simp only [Ex.gat, h1] at hl; cases hl
    | some l0 =>
      cases h2 : Ex.chunk L id h (k + m) with
      | none => simp only [Ex.gat, h1, h2] at hl; cases hl
      | some x =>
        rw [gat_some h1 h2] at hl
        cases hl
        have e1 := gat_len h1 (fun j hjm => hj j (by omega)) h0
        have e2 := chunk_len h2
        have e3 := len_add h (k + m) (hj m (by omega))
        have e4 := hj m (by omega)
        rw [List.length_append, e2]
        rw [show k + (m + 1) = k + m + 1 by omega]
        generalize (k + m) * h.chunk = q at *
        omega
theorem lt_last {h : Hd} {t n : Nat} (hc : 1 ≤ h.chunk) : n < Ex.last h t ↔ n * h.chunk < t := by
  unfold Ex.last
  rw [Nat.lt_div_iff_mul_lt hc]
  generalize n * h.chunk = q
  omega
theorem last_le {h : Hd} {t : Nat} (hc : 1 ≤ h.chunk) : t ≤ Ex.last h t * h.chunk := by
  have := (lt_last (h := h) (t := t) (n := Ex.last h t) hc).2
  omega
theorem part_err {x : Hd × Nat} (L : List Wr) (id : Nat) (f t : Int) (h : x.2 ≠ 0) : Ex.partOf x L id f t = ([], x.2) := by unfold Ex.partOf; rw [if_pos h]
theorem part_arg {x : Hd × Nat} (L : List Wr) (id : Nat) (f t : Int) (h : x.2 = 0) (h1 : f < 0 ∨ t < f ∨ (x.1.size : Int) < t) : Ex.partOf x L id f t = ([], 1) := by unfold Ex.partOf; rw [if_neg (by omega), if_pos h1]
theorem part_nil {x : Hd × Nat} (L : List Wr) (id : Nat) (f t : Int) (h : x.2 = 0) (h1 : ¬ (f < 0 ∨ t < f ∨ (x.1.size : Int) < t)) (h2 : f = t) : Ex.partOf x L id f t = ([], 0) := by unfold Ex.partOf; rw [if_neg (by omega), if_neg h1, if_pos h2]
theorem part_whole {x : Hd × Nat} (L : List Wr) (id f t : Nat) (h : x.2 = 0) (h1 : f < t) (h2 : t ≤ x.1.size) : Ex.partOf x L id f t = Ex.whole L id x.1 f t := by unfold Ex.partOf; rw [if_neg (by omega), if_neg (by omega), if_neg (by omega)]; rfl
theorem whole_none {L : List Wr} {id : Nat} {h : Hd} {f t : Nat} (hg : Ex.gat L id h (f / h.chunk) (Ex.last h t - f / h.chunk) = none) : Ex.whole L id h f t = ([], 16) := by unfold Ex.whole; rw [hg]
theorem whole_some {L : List Wr} {id : Nat} {h : Hd} {f t : Nat} {l : List UInt8} (hg : Ex.gat L id h (f / h.chunk) (Ex.last h t - f / h.chunk) = some l) : Ex.whole L id h f t = ((l.drop (f - f / h.chunk * h.chunk)).take (t - f), 0) := by unfold Ex.whole; rw [hg]
/-- What a reader of bytes hands back. -/
def RetP (r : List UInt8 × Nat) (w : World) (e : Ending) (w' : World) : Prop := ∃ a n c, e = .returned (.tuple #[.slice a n c, .int .i64 r.2]) ∧ Own w' w.heap.size a n c r.1 ∧ Below w.heap.size w w'
theorem retp_nil {w w' : World} {k : Nat} (h : Below w.heap.size w w') : RetP ([], k) w (.returned (.tuple #[.slice none 0 0, .int .i64 k])) w' := ⟨none, 0, 0, rfl, Own.nil _ _, h⟩
theorem KeysAt.at {w W : World} {bk : Nat} {L : List Wr} (h : KeysAt w bk L) (hb : Below w.heap.size w W) : KeysAt W bk L := h.below hb
set_option maxHeartbeats 2000000 in
theorem part_any (bk id : Nat) (L : List Wr) (f t : Int) (w : World) (hu : U64 id) (h : KeysAt w bk L) (hL : Laid w) (hf : -9223372036854775808 ≤ f ∧ f ≤ 9223372036854775807) (ht : -9223372036854775808 ≤ t ∧ t ≤ 9223372036854775807) :
    Calls Tryd.prog 13 #[src bk, .int .u64 id, .int .i64 f, .int .i64 t] w (RetP (Ex.part L id f t) w) := by
  have HLK := Lib.hid (look_any bk id L w hu h hL)
  have HOK := Lib.hid (read_ok (b := Kv.get L (Ex.key id)))
  have hp : Ex.part L id f t = Ex.partOf (Ex.look L id) L id f t := rfl
  rw [hp]
  clear hp
  have HOK2 : Hid ((Ex.look L id).2 = 0 → (Ex.look L id).1.Ok) := Lib.hid (fun h => (HOK.out h).1)
  generalize Ex.look L id = x at *
  clear HOK
  obtain ⟨hd, er⟩ := x
  unfold LookV hval at HLK
  dsimp only at *
  have HKA := Lib.hid h
  have HLD := Lib.hid hL
  clear h hL
  unfold src at HLK ⊢
  by_cases h0 : er = 0
  case neg =>
    have HP := Lib.hid (part_err L id f t (x := (hd, er)) h0)
    have t1 : ((er : Int) != 0) = true := by simp; omega
    rw [HP.out]
    go_enter Tryd.func13, Tryd.ntmps13
    go_wp2_with fail
    refine HLK.out.mono ?_
    rintro e w1 ⟨rfl, hb1⟩
    have HB1 := Lib.hid hb1
    clear hb1
    go_wp2
    go_ret2
    exact retp_nil (HB1.out.alloc HB1.out.size _)
  subst h0
  have ok := HOK2.out rfl
  have HOK := Lib.hid ok
  obtain ⟨ok1, ok2, ok3, ok4⟩ := ok
  by_cases h1 : f < 0 ∨ t < f ∨ (hd.size : Int) < t
  case pos =>
    have HP := Lib.hid (part_arg L id f t (x := (hd, 0)) rfl h1)
    rw [HP.out]
    clear HP HOK2
    rcases h1 with h1 | h1
    · have t2 : decide (f < 0) = true := decide_eq_true h1
      go_enter Tryd.func13, Tryd.ntmps13
      go_wp2_with fail
      refine HLK.out.mono ?_
      rintro e w1 ⟨rfl, hb1⟩
      have HB1 := Lib.hid hb1
      clear hb1
      go_wp2
      go_ret2
      exact retp_nil (HB1.out.alloc HB1.out.size _)
    · by_cases h2 : f < 0
      · have t2 : decide (f < 0) = true := decide_eq_true h2
        go_enter Tryd.func13, Tryd.ntmps13
        go_wp2_with fail
        refine HLK.out.mono ?_
        rintro e w1 ⟨rfl, hb1⟩
        have HB1 := Lib.hid hb1
        clear hb1
        go_wp2
        go_ret2
        exact retp_nil (HB1.out.alloc HB1.out.size _)
      · have t2 : decide (f < 0) = false := decide_eq_false h2
        by_cases h3 : t < f
        · have t3 : decide (t < f) = true := decide_eq_true h3
          go_enter Tryd.func13, Tryd.ntmps13
          go_wp2_with fail
          refine HLK.out.mono ?_
          rintro e w1 ⟨rfl, hb1⟩
          have HB1 := Lib.hid hb1
          clear hb1
          go_wp2
          go_ret2
          exact retp_nil (HB1.out.alloc HB1.out.size _)
        · have t3 : decide (t < f) = false := decide_eq_false h3
          have t4 : decide ((hd.size : Int) < t) = true := decide_eq_true (by omega)
          clear h1
          go_enter Tryd.func13, Tryd.ntmps13
          go_wp2_with fail
          refine HLK.out.mono ?_
          rintro e w1 ⟨rfl, hb1⟩
          have HB1 := Lib.hid hb1
          clear hb1
          go_wp2
          go_ret2
          exact retp_nil (HB1.out.alloc HB1.out.size _)
  have t2 : decide (f < 0) = false := decide_eq_false (by omega)
  have t3 : decide (t < f) = false := decide_eq_false (by omega)
  have t4 : decide ((hd.size : Int) < t) = false := decide_eq_false (by omega)
  by_cases h2 : f = t
  · have HP := Lib.hid (part_nil L id f t (x := (hd, 0)) rfl h1 h2)
    rw [HP.out]
    subst h2
    clear h1 HP HOK2
    go_enter Tryd.func13, Tryd.ntmps13
    go_wp2_with fail
    refine HLK.out.mono ?_
    rintro e w1 ⟨rfl, hb1⟩
    have HB1 := Lib.hid hb1
    clear hb1
    go_wp2
    go_ret2
    exact retp_nil (HB1.out.alloc HB1.out.size _)
  obtain ⟨F, hF⟩ : ∃ F : Nat, f = (F : Int) := ⟨f.toNat, by omega⟩
  obtain ⟨T, hT⟩ : ∃ T : Nat, t = (T : Int) := ⟨t.toNat, by omega⟩
  subst hF hT
  have hFT : F < T := by omega
  have hTS : T ≤ hd.size := by omega
  have HP := Lib.hid (part_whole L id F T (x := (hd, 0)) rfl hFT hTS)
  rw [HP.out]
  dsimp only
  clear HP h1 h2 hf ht HOK2
  replace t3 : decide (T < F) = false := decide_eq_false (by omega)
  replace t4 : decide (hd.size < T) = false := decide_eq_false (by omega)
  have t5 : ((F : Int) == (T : Int)) = false := by simp; omega
  have t6 : ((hd.chunk : Int) == 0) = false := by simp; omega
  have HCH := Lib.hid (fun (k : Nat) (W : World) (hb : Below w.heap.size w W) (hk : k * hd.chunk < hd.size) => chunk_any bk id k L hd W hu (HKA.out.below hb) (HLD.out.below hb) HOK.out hk)
  unfold hval src at HCH
  have HLT := Lib.hid (fun n => lt_last (h := hd) (t := T) (n := n) ok3)
  have HLL := Lib.hid (last_le (h := hd) (t := T) ok3)
  obtain ⟨K, hK⟩ : ∃ K, K = F / hd.chunk := ⟨_, rfl⟩
  have hq : (F : Int) / (hd.chunk : Int) = (K : Int) := by rw [hK, Int.natCast_ediv]
  have hKF : K * hd.chunk ≤ F := by rw [hK]; exact Nat.div_mul_le_self _ _
  have hKb : K ≤ 1073741824 := by rw [hK]; exact Nat.le_trans (Nat.div_le_self _ _) (by omega)
  have HWN := Lib.hid (whole_none (L := L) (id := id) (h := hd) (f := F) (t := T))
  have HWS := Lib.hid (fun l => whole_some (L := L) (id := id) (h := hd) (f := F) (t := T) (l := l))
  rw [← hK] at HWN HWS
  have HGL := Lib.hid (fun m l => gat_len (L := L) (id := id) (h := hd) (k := K) (m := m) (l := l))
  generalize Ex.whole L id hd F T = RW at *
  have hKL : K ≤ Ex.last hd T := by
    have := (HLT.out K).2 (by omega)
    omega
  generalize Ex.last hd T = E at *
  obtain ⟨D, hD⟩ : ∃ D, D = E - K := ⟨_, rfl⟩
  rw [← hD] at HWN HWS
  clear hK
  go_enter Tryd.func13, Tryd.ntmps13
  go_wp2_with fail
  refine HLK.out.mono ?_
  rintro e w1 ⟨rfl, hb1⟩
  have hcells := hd_cells w1 hd 52
  obtain ⟨w2, hw2⟩ : ∃ w2, w1.alloc (.cells #[.int .i64 hd.size, .int .i64 hd.chunk, .int .i64 hd.refs, .int .u32 (n32 hd.sum)] 52) = w2 := ⟨_, rfl⟩
  have HB2 : Hid (Below w.heap.size w w2) := Lib.hid (by rw [← hw2]; exact hb1.alloc hb1.size _)
  rw [hw2] at hcells
  have VS := Lib.hid (fun (W : World) (k : Below w2.heap.size w2 W) => And.intro (cell_later k hcells.1) (And.intro (cell_later k hcells.2.1) (And.intro (cell_later k hcells.2.2.1) (cell_later k hcells.2.2.2))))
  have HW2 := Lib.hid hw2
  clear hcells hw2 hb1
  go_upto_region 2 with fail
  rw [HW2.out]
  obtain ⟨c0, c1, c2, c3⟩ := VS.out w2 (Below.refl _ _)
  go_wp2_with fail
  clear c0 c1 c2 c3
  go_loopw [12, 14] (fun ov nv wr => ∃ (n m no co : Nat) (ao : Option Addr) (l : List UInt8), m ≤ D ∧ Hid (n = K + m) ∧ nv = .int .i64 (n : Int) ∧ ov = .slice ao no co ∧ Hid (Ex.gat L id hd K m = some l) ∧ Hid (Own wr w2.heap.size ao no co l) ∧ Hid (Below w2.heap.size w2 wr)) (fun _ nv _ => E - (intOf nv).toNat)
  case atStart => exact ⟨K, 0, 0, 0, none, [], Nat.zero_le _, Lib.hid rfl, rfl, rfl, Lib.hid rfl, Lib.hid (Own.nil _ _), Lib.hid (Below.refl _ _)⟩
  case round =>
    obtain ⟨n, m, no, co, ao, l, hm, HNE, rfl, rfl, hg, ho, hbl⟩ := hrel
    have hn := HNE.out
    obtain ⟨c0, c1, c2, c3⟩ := VS.out wr hbl.out
    have HBW := Lib.hid (HB2.out.trans (hbl.out.mono HB2.out.size))
    have hno := ho.out.bs.1
    have hgl := HGL.out m l hg.out (fun j hj => by
      have h1 := (HLT.out (K + j)).1 (by omega)
      omega) (by omega)
    rw [← hn] at hgl
    obtain ⟨q, hqn⟩ : ∃ q, q = n * hd.chunk := ⟨_, rfl⟩
    have e1 : (n : Int) * (hd.chunk : Int) = (q : Int) := by rw [hqn, Int.natCast_mul]
    have hlt := HLT.out n
    rw [← hqn] at hgl hlt
    have hnb : n ≤ 1073741825 := by
      rcases Nat.eq_zero_or_pos m with h | h
      · omega
      · have h1 := (HLT.out (K + (m - 1))).1 (by omega)
        have h2 := Nat.mul_le_mul_left (K + (m - 1)) ok3
        omega
    have hqb : q ≤ 1073741824 + 16777216 := by
      rcases Nat.eq_zero_or_pos m with h | h
      · subst h
        rw [hqn, hn, Nat.add_zero]
        omega
      · have h1 := (HLT.out (K + (m - 1))).1 (by omega)
        have h2 : q = (K + (m - 1)) * hd.chunk + hd.chunk := by rw [hqn, hn, ← Nat.succ_mul]; congr 1; omega
        omega
    have HNO := Lib.hid hno
    clear hno
    have hmE : m < D ↔ n < E := by omega
    have HME := Lib.hid hmE
    clear hmE
    by_cases hmD : m < D
    · have hqT : q < T := hlt.1 (HME.out.1 hmD)
      have t7 : decide (q < T) = true := decide_eq_true hqT
      have HC := Lib.hid (HCH.out n wr HBW.out (by rw [← hqn]; omega))
      have HGS := Lib.hid (fun y => gat_some (x := y) hg.out)
      have HGN := Lib.hid (gat_none (L := L) (id := id) (k := K) (m := m) (h := hd))
      rw [← hn] at HGS HGN
      have hxl : ∀ y, Ex.chunk L id hd n = some y → y.length ≤ 16777216 := fun y hy => by
        rw [chunk_len hy]; exact len_le hd n HOK.out
      have HXL := Lib.hid hxl
      have HNN := Lib.hid (show n < E ∧ n + 1 = K + (m + 1) by have := HME.out.1 hmD; omega)
      clear hxl hlt hqn hn
      generalize Ex.chunk L id hd n = oc at *
      cases oc with
      | none =>
        have HPN := Lib.hid (HWN.out (by have := HGN.out rfl (D - (m + 1)); rwa [show m + 1 + (D - (m + 1)) = D by omega] at this))
        rw [HPN.out]
        go_wp2_with fail
        refine HC.out.mono ?_
        rintro e w3 ⟨⟨_, rfl⟩ | ⟨_, _, _, h3, _⟩, hb3⟩
        · have HB3 := Lib.hid (HBW.out.trans (hb3.mono HBW.out.size))
          clear hb3
          go_wp2
          go_ret2
          exact retp_nil HB3.out
        · cases h3
      | some y =>
        have hyl := HXL.out y rfl
        have HGY := Lib.hid (HGS.out y rfl)
        go_wp2_with fail
        refine HC.out.mono ?_
        rintro e w3 ⟨⟨h3, _⟩ | ⟨a3, c3', y', h3, rfl, hbs3⟩, hb3⟩
        · cases h3
        · cases h3
          have HB3 := Lib.hid (hbl.out.trans (hb3.mono hbl.out.size))
          have HBW3 := Lib.hid (HBW.out.trans (hb3.mono HBW.out.size))
          have HO3 := Lib.hid (ho.out.below hb3)
          have HBS3 := Lib.hid hbs3
          clear hb3 hbs3 c0 c1 c2 c3
          go_wp2_with (at_builtin; refine app_own rfl _ _ rfl w2.heap.size rfl HO3.out rfl HBS3.out (by have := HNO.out; omega) HB3.out.size ?_; intro a4 c4 w4 h4 hb4 hev4; have H4 := Lib.hid h4; have HB4 := Lib.hid (HB3.out.trans hb4); clear h4 hb4 hev4)
          go_roundw
          case rel => exact ⟨n + 1, m + 1, _, c4, a4, _, by omega, Lib.hid HNN.out.2, by go_num, rfl, HGY, H4, HB4⟩
          case measure => have := HNN.out.1; simp [intOf]; omega
    · obtain rfl : m = D := by omega
      have hqT : ¬ q < T := fun h => hmD (HME.out.2 (hlt.2 h))
      have t7 : decide (q < T) = false := decide_eq_false hqT
      clear hn
      obtain ⟨kq, hkq⟩ : ∃ kq, kq = K * hd.chunk := ⟨_, rfl⟩
      have e2 : (K : Int) * (hd.chunk : Int) = (kq : Int) := by rw [hkq, Int.natCast_mul]
      have HW : Hid (RW = ((l.drop (F - kq)).take (T - F), 0)) := Lib.hid (by have := HWS.out l hg.out; rwa [← hkq] at this)
      rw [← hkq] at hKF hgl
      have hoc := ho.out.bs.2.1
      have hll := ho.out.bs.le.1
      have e3 : (F : Int) - (kq : Int) = ((F - kq : Nat) : Int) := by omega
      have e4 : (T : Int) - (kq : Int) = ((T - kq : Nat) : Int) := by omega
      have hno := HNO.out
      have hsl : ∀ W, (Instr.slice 22 (.slice ao no co) (some (.int .i64 ((F - kq : Nat) : Int))) (some (.int .i64 ((T - kq : Nat) : Int))) none).run Tryd.prog W = .ok (.slice (subA ao co (F - kq)) (T - F) (co - (F - kq))) W := fun W => by
        have := slice_lh ao no co (lo := ((F - kq : Nat) : Int)) (hi := ((T - kq : Nat) : Int)) (lo' := F - kq) (hi' := T - kq) rfl rfl (by omega) (by omega) W
        rw [this, show T - kq - (F - kq) = T - F by omega]
      have HSB : Hid (Bs wr (subA ao co (F - kq)) (T - F) (co - (F - kq)) ((l.drop (F - kq)).take (T - F))) := Lib.hid (by
        have := ho.out.bs.sub (lo := F - kq) (hi := T - kq) (by omega) (by omega)
        rwa [show T - kq - (F - kq) = T - F by omega] at this)
      have hzb : T - F ≤ 1073741824 := by omega
      generalize subA ao co (F - kq) = as_ at *
      generalize co - (F - kq) = cs_ at *
      generalize (l.drop (F - kq)).take (T - F) = ls_ at *
      generalize F - kq = lo_ at *
      generalize T - kq = hi_ at *
      generalize T - F = ln_ at *
      clear hgl hlt hqn hkq hKF hno
      go_wp2_with (at_builtin; refine app_own rfl _ _ rfl w.heap.size rfl (Own.nil _ _) rfl HSB.out (by omega) HBW.out.size ?_; intro a4 c4 w4 h4 hb4 hev4; have H4 := Lib.hid h4; have HB4 := Lib.hid (HBW.out.trans hb4); clear h4 hb4 hev4)
      go_ret2
      rw [HW.out]
      exact ⟨a4, ln_, c4, rfl, by simpa using H4.out, HB4.out⟩
end Go.Proofs.YtkbfefooaajhkaaDoor
