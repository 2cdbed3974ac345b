/- rs: Encode. -/
import Derived.Test.YtppgbapfmijboaaRsG
set_option maxRecDepth 100000
set_option linter.unusedVariables false
namespace Go.Proofs.Ytppgbapfmijboaa
open Go.RowKit Go.Deep

section
variable {w : World} {ops : Array Oper} {rest : List Oper} {o : Oper} {a : Act} {Q : Exit → Act → World → Prop}
theorem app_matr (hgd : Region.wanted o (yielded ops a.tmps) = true) (s x : Operand) (ho : o.op = .call { callee := .builtin .append, args := #[s, x], argTypes := #[28, 28] })
    (B : Nat) {aq : Option Addr} {n c : Nat} {cs : List Value} (hs : a.eval s = .slice aq n c) (hown : OwnV w B aq n c cs)
    {ax : Option Addr} {m cx : Nat} {cs2 : List Value} (hx : a.eval x = .slice ax m cx) (hr : Row w ax cs2) (hl : cs2.length = m) (h1' : ∀ u ∈ cs2, u.oneCell' = true) (hb : n + m ≤ 1000000) (hB : B ≤ w.heap.size)
    (h : ∀ a' c' w', OwnV w' B a' (n + m) c' (cs ++ cs2) → Below B w w' → Evol w aq w' a' → wpList Try.prog ops Q rest (a.put o.dst (.slice a' (n + m) c')) w') : wpList Try.prog ops Q (o :: rest) a w := by
  obtain ⟨i, hi, h0, h1, h2⟩ := info_parts infoSs
  refine wpList_app_own hgd s x 28 ho B 22 i (.slice none 0 0) 1 24 Try.underlying28 hi h0 h1 h2 rfl (by decide) aq n c cs hs hown ax m cx cs2 hx hr (by rw [hl]; simp) h1' (by omega) (by simp only [maxLen]; omega) hB ?_
  intro a' c' w' g1 g2
  exact h a' c' w' g1 (g2.below hB (fun x hx => by subst hx; exact (World.ownsRow.lt hown x.block rfl).1)) g2
end
theorem rowTo_row {w : World} {g n : Nat} {t : TypeId} {f : Nat → Value} (h : rowTo w g t n f) : Row w (some ⟨g, 0, none⟩) ((List.range n).map f) := by
  intro j v hv
  have hj : j < n := by
    rcases Nat.lt_or_ge j n with h' | h'
    · exact h'
    · rw [List.getElem?_eq_none (by simp; omega)] at hv; cases hv
  refine ⟨g, 0, rfl, ?_⟩
  rw [Nat.zero_add, h.cell hj]
  simpa [hj] using hv
theorem map_join {α : Type} (n m : Nat) (f g h : Nat → α) (h1 : ∀ i, i < n → h i = f i) (h2 : ∀ i, i < m → h (n + i) = g i) : (List.range (n + m)).map h = (List.range n).map f ++ (List.range m).map g := by
  rw [List.range_add, List.map_append]
  congr 1
  · exact List.map_congr_left fun i hi => h1 i (List.mem_range.1 hi)
  · rw [List.map_map]
    exact List.map_congr_left fun i hi => h2 i (List.mem_range.1 hi)
/-- Rows of the call's own, without the row that holds them. -/
structure Rw (w : World) (B m C : Nat) (bl cp : Nat → Nat) (Z : Nat → Nat → UInt8) : Prop where
  row : ∀ i, i < m → B ≤ bl i ∧ rowTo w (bl i) 5 C (fun j => .int .u8 (n8 (Z i j)))
  cap : ∀ i, i < m → C ≤ cp i ∧ cp i ≤ maxLen
  apart : ∀ i j, i < m → j < m → bl i = bl j → i = j
theorem My.rw' {w : World} {B g m C : Nat} {bl cp : Nat → Nat} {Z : Nat → Nat → UInt8} (h : My w B g m C bl cp Z) : Rw w B m C bl cp Z := ⟨fun i hi => ⟨(h.row i hi).1, (h.row i hi).2.2⟩, h.cap, h.apart⟩
/-- Rows of the call's own behind rows of the call's own. -/
theorem Mo.join {w w' : World} {B B2 n c c' C m : Nat} {a a' : Option Addr} {bl cp bl2 cp2 : Nat → Nat} {Z Z2 Y : Nat → Nat → UInt8} (h : Mo w B a n c C bl cp Z) (k : Rw w B2 m C bl2 cp2 Z2) (hB : B ≤ B2)
    (ha : ∀ x, a = some x → x.block < B2) (hbl : ∀ i, i < n → bl i < B2) (hY1 : ∀ i j, i < n → j < C → Y i j = Z i j) (hY2 : ∀ i j, i < m → j < C → Y (n + i) j = Z2 i j)
    (ho : OwnV w' B a' (n + m) c' (((List.range n).map fun i => .slice (some ⟨bl i, 0, none⟩) C (cp i)) ++ ((List.range m).map fun i => .slice (some ⟨bl2 i, 0, none⟩) C (cp2 i)))) (hev : Evol w a w' a') :
    Mo w' B a' (n + m) c' C (fun i => if i < n then bl i else bl2 (i - n)) (fun i => if i < n then cp i else cp2 (i - n)) Y := by
  have step : ∀ {b' : Nat} {f : Nat → Value}, rowTo w b' 5 C f → (∀ x, a = some x → b' ≠ x.block) → rowTo w' b' 5 C f ∧ (∀ x, a' = some x → b' ≠ x.block) := by
    intro b' f h1 h2
    refine ⟨h1.of_block (hev.1.block b' h1.lt (by
      cases a with
      | none => simp
      | some x => simpa using h2 x rfl)), fun x hx e => ?_⟩
    rcases hev.2 x hx with h3 | h3
    · cases a with
      | none => cases h3
      | some y => exact h2 y rfl (by rw [e]; simpa using h3.symm)
    · have := h1.lt; omega
  refine ⟨?_, fun i hi => ?_, fun i hi => ?_, fun i j hi hj e => ?_⟩
  · rw [map_join n m (fun i => .slice (some ⟨bl i, 0, none⟩) C (cp i)) (fun i => .slice (some ⟨bl2 i, 0, none⟩) C (cp2 i)) _ (fun i hi => by simp [hi]) (fun i hi => by simp [show ¬ n + i < n by omega])]
    exact ho
  · by_cases e : i < n
    · simp only [if_pos e]
      have := h.row i e
      have s := step (this.2.2.congr (g := fun j => .int .u8 (n8 (Y i j))) (fun j hj => by rw [hY1 i j e hj])) this.2.1
      exact ⟨this.1, s.2, s.1⟩
    · simp only [if_neg e]
      have := k.row (i - n) (by omega)
      have s := step (this.2.congr (g := fun j => .int .u8 (n8 (Y i j))) (fun j hj => by have h9 := hY2 (i - n) j (by omega) hj; rw [show n + (i - n) = i by omega] at h9; rw [h9])) (fun x hx => by have := ha x hx; omega)
      exact ⟨Nat.le_trans hB this.1, s.2, s.1⟩
  · by_cases e : i < n
    · simp only [if_pos e]; exact h.cap i e
    · simp only [if_neg e]; exact k.cap (i - n) (by omega)
  · by_cases e1 : i < n <;> by_cases e2 : j < n <;> simp only [e1, e2, if_true, if_false] at e
    · exact h.apart i j e1 e2 e
    · have := (k.row (j - n) (by omega)).1; have := hbl i e1; omega
    · have := (k.row (i - n) (by omega)).1; have := hbl j e2; omega
    · have := k.apart (i - n) (j - n) (by omega) (by omega) e; omega

/-- All shards of some bytes: row i, byte j. -/
def Rs.enc (K M : Nat) (d : List UInt8) (i j : Nat) : UInt8 :=
  if i < K then Rs.spl (Rs.wd K d.length) d i j else Rs.tm (mat M K (Gf.cau K)) (Rs.split K d) K (i - K) j
def Rs.all (K M : Nat) (d : List UInt8) : List (List UInt8) := mat (K + M) (Rs.wd K d.length) (Rs.enc K M d)
theorem sc_even : ∀ (ls : List (List UInt8)) (C : Nat), (∀ l ∈ ls, l.length = C) → 0 < C → ∀ x, x = 0 ∨ x = C → ∃ y, ls.foldl Rs.sc1 (some x) = some y
  | [], C, _, _, x, _ => ⟨x, rfl⟩
  | l :: ls, C, h, hC, x, hx => by
    have hl := h l (by simp)
    have : Rs.sc1 (some x) l = some C := by
      simp only [Rs.sc1]
      rw [if_neg (by omega)]
      congr 1; omega
    rw [List.foldl_cons, this]
    exact sc_even ls C (fun l hl => h l (by simp [hl])) hC C (.inr rfl)
theorem even_ok {K C : Nat} {Z : Nat → Nat → UInt8} (hC : 0 < C) : Rs.parOk K (mat K C Z) = true := by
  have hlen : ∀ l ∈ mat K C Z, l.length = C := by
    intro l hl
    unfold mat at hl
    obtain ⟨i, _, rfl⟩ := List.mem_map.1 hl
    simp
  obtain ⟨y, hy⟩ := sc_even (mat K C Z) C hlen hC 0 (.inl rfl)
  unfold Rs.parOk Rs.alk
  rw [if_pos (mat_len _ _ _)]
  have : Rs.sc (mat K C Z) = some y := hy
  rw [this]
  simp only [Option.isSome_some, Bool.true_and]
  exact full_true fun k hk => by rw [mat_len] at hk; rw [mat_row hk]; simp; omega
theorem mat_head {K C : Nat} {Z : Nat → Nat → UInt8} (hK : 0 < K) : (nth (mat K C Z) 0).length = C := by rw [mat_row hK]; simp
theorem mat_shape {n m C D : Nat} {Z Y : Nat → Nat → UInt8} (h : mat n C Z = mat m D Y) : n = m ∧ (0 < n → C = D) ∧ ∀ i j, i < n → j < C → Z i j = Y i j := by
  have h1 : n = m := by have := congrArg List.length h; rwa [mat_len, mat_len] at this
  subst h1
  have h2 : 0 < n → C = D := fun hn => by have := congrArg (fun l => (nth l 0).length) h; simpa [mat_row hn] using this
  refine ⟨rfl, h2, fun i j hi hj => ?_⟩
  have hCD := h2 (by omega)
  subst hCD
  have := congrArg (fun l => nth (nth l i) j) h
  simp only [mat_row hi] at this
  rwa [nth_map_range _ hj, nth_map_range _ hj] at this

set_option maxHeartbeats 2000000 in
theorem encode_any (b K M : Nat) (ad : Option Addr) (nd cd : Nat) (d : List UInt8) (w : World) (hc : Cod w b K M) (hd : Bs w ad nd cd d) (h1 : 1 ≤ K) (h2 : K + M ≤ 255) (h3 : nd ≤ 50000000) :
    Calls Try.prog 9 #[.pointer (some ⟨b, 0, none⟩), .slice ad nd cd] w (MoP (K + M) (Rs.wd K nd) (Rs.enc K M d) w) := by
  have HC : Hid (∀ W, Below w.heap.size w W → Cod W b K M) := Lib.hid fun W h => hc.below h
  have HD : Hid (∀ W, Below w.heap.size w W → Bs W ad nd cd d) := Lib.hid fun W h => hd.below h
  have HN := Lib.hid hd.1
  have HW1 := Lib.hid (wd_pos K nd)
  have HW3 : Hid (Rs.wd K nd ≤ 100000000) := Lib.hid (by
    have := wd_few (n := nd) h1
    have h5 : 1 * Rs.wd K nd ≤ K * Rs.wd K nd := Nat.mul_le_mul_right _ h1
    omega)
  clear hc hd
  go_enter Try.func9, Try.ntmps9
  go_wp2_with fail
  refine (split_any b K M ad nd cd d w (HC.out w (Below.refl _ _)) (HD.out w (Below.refl _ _)) h1 (by omega) (by omega)).mono ?_
  rintro e w1 ⟨⟨a, c, bl, cp, rfl, hm⟩, hb1⟩
  obtain ⟨g1, rfl, hmy⟩ := hm.my (by omega)
  have hS : Hid (Bss w1 (some ⟨g1, 0, none⟩) K c (Rs.split K d)) := Lib.hid (by
    unfold Rs.split; rw [HN.out]; exact hmy.bss hm.own.len.2.1 hm.own.len.2.2)
  have HM := Lib.hid hm
  have HB1 := Lib.hid hb1
  have hlen : Hid (∀ i, i < K → (nth (Rs.split K d) i).length ≤ 100000000) := Lib.hid fun i hi => by unfold Rs.split; rw [HN.out, mat_row hi]; simp; exact HW3.out
  clear hm hmy hb1
  go_wp2_with fail
  refine (parity_any b K M _ _ _ _ w1 (HC.out w1 HB1.out) hS.out h1 h2 (by omega) hlen.out).mono ?_
  rintro e w2 ⟨⟨a2, n2, c2, rfl, hB2, hown⟩, hb2⟩
  have hpar : Rs.parL K M (Rs.split K d) = mat M (Rs.wd K nd) (Rs.tm (mat M K (Gf.cau K)) (Rs.split K d) K) := by
    unfold Rs.parL
    rw [show Rs.parOk K (Rs.split K d) = true from even_ok (by rw [HN.out]; exact HW1.out)]
    unfold Rs.par
    rw [if_pos rfl]
    have : (nth (Rs.split K d) 0).length = Rs.wd K nd := by unfold Rs.split; rw [HN.out]; exact mat_head (by omega)
    rw [this]
  have hn2 : n2 = M := by have := hB2.1; rw [hpar, mat_len] at this; omega
  subst hn2
  obtain ⟨bl2, cp2, Z2, hrow2, hrw2, hZ2⟩ : ∃ bl2 cp2 Z2, Row w2 a2 ((List.range n2).map fun i => Value.slice (some ⟨bl2 i, 0, none⟩) (Rs.wd K nd) (cp2 i)) ∧ Rw w2 w1.heap.size n2 (Rs.wd K nd) bl2 cp2 Z2 ∧ (∀ i j, i < n2 → j < Rs.wd K nd → Rs.tm (mat n2 K (Gf.cau K)) (Rs.split K d) K i j = Z2 i j) := by
    rcases hown with ⟨rfl, rfl⟩ | ⟨g, C, bl', cp', Z', rfl, hmy, hz⟩
    · exact ⟨id, id, fun _ _ => 0, Row.nil _ _, ⟨fun i hi => by omega, fun i hi => by omega, fun i j hi => by omega⟩, fun i j hi => by omega⟩
    · obtain ⟨e1, e2, e3⟩ := mat_shape (hpar.symm.trans hz)
      by_cases h0 : 0 < n2
      · have e4 := e2 h0
        subst e4
        exact ⟨bl', cp', Z', rowTo_row hmy.top, hmy.rw', e3⟩
      · obtain rfl : n2 = 0 := by omega
        exact ⟨id, id, fun _ _ => 0, Row.nil _ _, ⟨fun i hi => by omega, fun i hi => by omega, fun i j hi => by omega⟩, fun i j hi => by omega⟩
  have HM2 := Lib.hid (HM.out.below hb2)
  have HA : Hid (g1 < w1.heap.size) := Lib.hid ((HM.out.own.new _ rfl).2)
  have HBL : Hid (∀ i, i < K → bl i < w1.heap.size) := Lib.hid fun i hi => (HM.out.row i hi).2.2.lt
  have HB3 := Lib.hid (HB1.out.trans (hb2.mono HB1.out.size))
  have HR2 := Lib.hid hrow2
  have HRW := Lib.hid hrw2
  have HZ := Lib.hid hZ2
  clear hB2 hown hpar hb2 hrow2 hrw2 hZ2 HM hS hlen
  go_wp2_with (at_builtin; refine app_matr rfl _ _ rfl w.heap.size rfl HM2.out.own rfl HR2.out (by simp) (by intro u hu; obtain ⟨i, _, rfl⟩ := List.mem_map.1 hu; rfl) (by omega) HB3.out.size ?_; intro a' c' w' ho hb' hev)
  have hfin := HM2.out.join HRW.out HB1.out.size (fun x hx => by cases hx; exact HA.out) HBL.out (Y := Rs.enc K n2 d) (fun i j hi hj => by unfold Rs.enc; rw [if_pos hi, HN.out]) (fun i j hi hj => by unfold Rs.enc; rw [if_neg (by omega), Nat.add_sub_cancel_left]; exact HZ.out i j hi hj) ho hev
  have HF := Lib.hid hfin
  have HBF := Lib.hid (HB3.out.trans hb')
  clear hfin ho hev hb'
  go_wp2
  go_ret
  exact ⟨⟨_, _, _, _, rfl, HF.out⟩, HBF.out⟩
end Go.Proofs.Ytppgbapfmijboaa
