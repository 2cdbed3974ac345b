/- rs: Encode. -/
import Derived.Test.YtppgbapfmijboaaRsc
import Derived.Lib.SlBytesConst
set_option linter.unusedVariables false
set_option linter.unusedSimpArgs false
set_option maxRecDepth 100000
set_option linter.unusedVariables false
namespace Go.Proofs.Ytppgbapfmijboaa
open Go.RowKit Go.Deep

section
variable {w : World} {ops : Array Oper} {rest : List Oper} {o : Oper} {a : Act} {Q : Exit → Act → World → Prop}
theorem app_matr (hgd : Region.wanted o (yielded ops a.tmps) = true) (s x : Operand) (ho : o.op = .call { callee := .builtin .append, args := #[s, x], argTypes := #[28, 28] })
    (B : Nat) {aq : Option Addr} {n c : Nat} {cs : List Value} (hs : a.eval s = .slice aq n c) (hown : OwnV w B aq n c cs)
    {ax : Option Addr} {m cx : Nat} {cs2 : List Value} (hx : a.eval x = .slice ax m cx) (hr : Row w ax cs2) (hl : cs2.length = m) (h1' : ∀ u ∈ cs2, u.oneCell' = true) (hb : n + m ≤ 1000000) (hB : B ≤ w.heap.size)
    (h : ∀ a' c' w', OwnV w' B a' (n + m) c' (cs ++ cs2) → Below B w w' → Evol w aq w' a' → wpList Try.prog ops Q rest (a.put o.dst (.slice a' (n + m) c')) w') : wpList Try.prog ops Q (o :: rest) a w := by
  obtain ⟨i, hi, h0, h1, h2⟩ := info_parts infoSs
  refine wpList_app_own hgd s x 28 ho B 22 i (.slice none 0 0) 1 24 Try.underlying28 hi h0 h1 h2 rfl (by decide) aq n c cs hs hown ax m cx cs2 hx hr (by rw [hl]; simp) h1' (by omega) (by simp only [maxLen]; omega) hB ?_
  intro a' c' w' g1 g2
  exact h a' c' w' g1 (g2.below hB (fun x hx => by subst hx; exact (World.ownsRow.lt hown x.block rfl).1)) g2
end
theorem rowTo_row {w : World} {g n : Nat} {t : TypeId} {f : Nat → Value} (h : rowTo w g t n f) : Row w (some ⟨g, 0, none⟩) ((List.range n).map f) := by
  intro j v hv
  have hj : j < n := by
    rcases Nat.lt_or_ge j n with h' | h'
    · exact h'
    · rw [List.getElem?_eq_none (by simp; omega)] at hv; cases hv
  refine ⟨g, 0, rfl, ?_⟩
  rw [Nat.zero_add, h.cell hj]
  simpa [hj] using hv
theorem map_join {α : Type} (n m : Nat) (f g h : Nat → α) (h1 : ∀ i, i < n → h i = f i) (h2 : ∀ i, i < m → h (n + i) = g i) : (List.range (n + m)).map h = (List.range n).map f ++ (List.range m).map g := by
  rw [List.range_add, List.map_append]
  congr 1
  · exact List.map_congr_left fun i hi => h1 i (List.mem_range.1 hi)
  · rw [List.map_map]
    exact List.map_congr_left fun i hi => h2 i (List.mem_range.1 hi)
/-- Rows of the call's own, without the row that holds them. -/
structure Rw (w : World) (B m C : Nat) (bl cp : Nat → Nat) (Z : Nat → Nat → UInt8) : Prop where
  row : ∀ i, i < m → B ≤ bl i ∧ rowTo w (bl i) 5 C (fun j => .int .u8 (n8 (Z i j)))
  cap : ∀ i, i < m → C ≤ cp i ∧ cp i ≤ maxLen
  apart : ∀ i j, i < m → j < m → bl i = bl j → i = j
theorem My.rw' {w : World} {B g m C : Nat} {bl cp : Nat → Nat} {Z : Nat → Nat → UInt8} (h : My w B g m C bl cp Z) : Rw w B m C bl cp Z := ⟨fun i hi => ⟨(h.row i hi).1, (h.row i hi).2.2⟩, h.cap, h.apart⟩
/-- Rows of the call's own behind rows of the call's own. -/
theorem Mo.join {w w' : World} {B B2 n c c' C m : Nat} {a a' : Option Addr} {bl cp bl2 cp2 : Nat → Nat} {Z Z2 Y : Nat → Nat → UInt8} (h : Mo w B a n c C bl cp Z) (k : Rw w B2 m C bl2 cp2 Z2) (hB : B ≤ B2)
    (ha : ∀ x, a = some x → x.block < B2) (hbl : ∀ i, i < n → bl i < B2) (hY1 : ∀ i j, i < n → j < C → Y i j = Z i j) (hY2 : ∀ i j, i < m → j < C → Y (n + i) j = Z2 i j)
    (ho : OwnV w' B a' (n + m) c' (((List.range n).map fun i => .slice (some ⟨bl i, 0, none⟩) C (cp i)) ++ ((List.range m).map fun i => .slice (some ⟨bl2 i, 0, none⟩) C (cp2 i)))) (hev : Evol w a w' a') :
    Mo w' B a' (n + m) c' C (fun i => if i < n then bl i else bl2 (i - n)) (fun i => if i < n then cp i else cp2 (i - n)) Y := by
  have step : ∀ {b' : Nat} {f : Nat → Value}, rowTo w b' 5 C f → (∀ x, a = some x → b' ≠ x.block) → rowTo w' b' 5 C f ∧ (∀ x, a' = some x → b' ≠ x.block) := by
    intro b' f h1 h2
    refine ⟨h1.of_block (hev.1.block b' h1.lt (by
      cases a with
      | none => simp
      | some x => simpa using h2 x rfl)), fun x hx e => ?_⟩
    rcases hev.2 x hx with h3 | h3
    · cases a with
      | none => cases h3
      | some y => exact h2 y rfl (by rw [e]; simpa using h3.symm)
    · have := h1.lt; omega
  refine ⟨?_, fun i hi => ?_, fun i hi => ?_, fun i j hi hj e => ?_⟩
  · rw [map_join n m (fun i => .slice (some ⟨bl i, 0, none⟩) C (cp i)) (fun i => .slice (some ⟨bl2 i, 0, none⟩) C (cp2 i)) _ (fun i hi => by simp [hi]) (fun i hi => by simp [show ¬ n + i < n by omega])]
    exact ho
  · by_cases e : i < n
    · simp only [if_pos e]
      have := h.row i e
      have s := step (this.2.2.congr (g := fun j => .int .u8 (n8 (Y i j))) (fun j hj => by rw [hY1 i j e hj])) this.2.1
      exact ⟨this.1, s.2, s.1⟩
    · simp only [if_neg e]
      have := k.row (i - n) (by omega)
      have s := step (this.2.congr (g := fun j => .int .u8 (n8 (Y i j))) (fun j hj => by have h9 := hY2 (i - n) j (by omega) hj; rw [show n + (i - n) = i by omega] at h9; rw [h9])) (fun x hx => by have := ha x hx; omega)
      exact ⟨Nat.le_trans hB this.1, s.2, s.1⟩
  · by_cases e : i < n
    · simp only [if_pos e]; exact h.cap i e
    · simp only [if_neg e]; exact k.cap (i - n) (by omega)
  · by_cases e1 : i < n <;> by_cases e2 : j < n <;> simp only [e1, e2, if_true, if_false] at e
    · exact h.apart i j e1 e2 e
    · have := (k.row (j - n) (by omega)).1; have := hbl i e1; omega
    · have := (k.row (i - n) (by omega)).1; have := hbl j e2; omega
    · have := k.apart (i - n) (j - n) (by omega) (by omega) e; omega

/-- All shards of some bytes: row i, byte j. -/
def Rs.enc (K M : Nat) (d : List UInt8) (i j : Nat) : UInt8 :=
  if i < K then Rs.spl (Rs.wd K d.length) d i j else Rs.tm (mat M K (Gf.cau K)) (Rs.split K d) K (i - K) j
def Rs.all (K M : Nat) (d : List UInt8) : List (List UInt8) := mat (K + M) (Rs.wd K d.length) (Rs.enc K M d)
theorem sc_even : ∀ (ls : List (List UInt8)) (C : Nat), (∀ l ∈ ls, l.length = C) → 0 < C → ∀ x, x = 0 ∨ x = C → ∃ y, ls.foldl Rs.sc1 (some x) = some y
  | [], C, _, _, x, _ => ⟨x, rfl⟩
  | l :: ls, C, h, hC, x, hx => by
    have hl := h l (by simp)
    have : Rs.sc1 (some x) l = some C := by
      simp only [Rs.sc1]
      rw [if_neg (by omega)]
      congr 1; omega
    rw [List.foldl_cons, this]
    exact sc_even ls C (fun l hl => h l (by simp [hl])) hC C (.inr rfl)
theorem even_ok {K C : Nat} {Z : Nat → Nat → UInt8} (hC : 0 < C) : Rs.parOk K (mat K C Z) = true := by
  have hlen : ∀ l ∈ mat K C Z, l.length = C := by
    intro l hl
    unfold mat at hl
    obtain ⟨i, _, rfl⟩ := List.mem_map.1 hl
    simp
  obtain ⟨y, hy⟩ := sc_even (mat K C Z) C hlen hC 0 (.inl rfl)
  unfold Rs.parOk Rs.alk
  rw [if_pos (mat_len _ _ _)]
  have : Rs.sc (mat K C Z) = some y := hy
  rw [this]
  simp only [Option.isSome_some, Bool.true_and]
  exact full_true fun k hk => by rw [mat_len] at hk; rw [mat_row hk]; simp; omega
theorem mat_head {K C : Nat} {Z : Nat → Nat → UInt8} (hK : 0 < K) : (nth (mat K C Z) 0).length = C := by rw [mat_row hK]; simp
theorem mat_shape {n m C D : Nat} {Z Y : Nat → Nat → UInt8} (h : mat n C Z = mat m D Y) : n = m ∧ (0 < n → C = D) ∧ ∀ i j, i < n → j < C → Z i j = Y i j := by
  have h1 : n = m := by have := congrArg List.length h; rwa [mat_len, mat_len] at this
  subst h1
  have h2 : 0 < n → C = D := fun hn => by have := congrArg (fun l => (nth l 0).length) h; simpa [mat_row hn] using this
  refine ⟨rfl, h2, fun i j hi hj => ?_⟩
  have hCD := h2 (by omega)
  subst hCD
  have := congrArg (fun l => nth (nth l i) j) h
  simp only [mat_row hi] at this
  rwa [nth_map_range _ hj, nth_map_range _ hj] at this

set_option maxHeartbeats 2000000 in
theorem encode_any (b K M : Nat) (ad : Option Addr) (nd cd : Nat) (d : List UInt8) (w : World) (hc : Cod w b K M) (hd : Bs w ad nd cd d) (h1 : 1 ≤ K) (h2 : K + M ≤ 255) (h3 : nd ≤ 50000000) :
    Calls Try.prog 9 #[.pointer (some ⟨b, 0, none⟩), .slice ad nd cd] w (MoP (K + M) (Rs.wd K nd) (Rs.enc K M d) w) := by
  have HC : Hid (∀ W, Below w.heap.size w W → Cod W b K M) := Lib.hid fun W h => hc.below h
  have HD : Hid (∀ W, Below w.heap.size w W → Bs W ad nd cd d) := Lib.hid fun W h => hd.below h
  have HN := Lib.hid hd.1
  have HW1 := Lib.hid (wd_pos K nd)
  have HW3 : Hid (Rs.wd K nd ≤ 100000000) := Lib.hid (by
    have := wd_few (n := nd) h1
    have h5 : 1 * Rs.wd K nd ≤ K * Rs.wd K nd := Nat.mul_le_mul_right _ h1
    omega)
  clear hc hd
  go_enter Try.func9, Try.ntmps9
  go_wp2_with fail
  refine (split_any b K M ad nd cd d w (HC.out w (Below.refl _ _)) (HD.out w (Below.refl _ _)) h1 (by omega) (by omega)).mono ?_
  rintro e w1 ⟨⟨a, c, bl, cp, rfl, hm⟩, hb1⟩
  obtain ⟨g1, rfl, hmy⟩ := hm.my (by omega)
  have hS : Hid (Bss w1 (some ⟨g1, 0, none⟩) K c (Rs.split K d)) := Lib.hid (by
    unfold Rs.split; rw [HN.out]; exact hmy.bss hm.own.len.2.1 hm.own.len.2.2)
  have HM := Lib.hid hm
  have HB1 := Lib.hid hb1
  have hlen : Hid (∀ i, i < K → (nth (Rs.split K d) i).length ≤ 100000000) := Lib.hid fun i hi => by unfold Rs.split; rw [HN.out, mat_row hi]; simp; exact HW3.out
  clear hm hmy hb1
  go_wp2_with fail
  refine (parity_any b K M _ _ _ _ w1 (HC.out w1 HB1.out) hS.out h1 h2 (by omega) hlen.out).mono ?_
  rintro e w2 ⟨⟨a2, n2, c2, rfl, hB2, hown⟩, hb2⟩
  have hpar : Rs.parL K M (Rs.split K d) = mat M (Rs.wd K nd) (Rs.tm (mat M K (Gf.cau K)) (Rs.split K d) K) := by
    unfold Rs.parL
    rw [show Rs.parOk K (Rs.split K d) = true from even_ok (by rw [HN.out]; exact HW1.out)]
    unfold Rs.par
    rw [if_pos rfl]
    have : (nth (Rs.split K d) 0).length = Rs.wd K nd := by unfold Rs.split; rw [HN.out]; exact mat_head (by omega)
    rw [this]
  have hn2 : n2 = M := by have := hB2.1; rw [hpar, mat_len] at this; omega
  subst hn2
  obtain ⟨bl2, cp2, Z2, hrow2, hrw2, hZ2⟩ : ∃ bl2 cp2 Z2, Row w2 a2 ((List.range n2).map fun i => Value.slice (some ⟨bl2 i, 0, none⟩) (Rs.wd K nd) (cp2 i)) ∧ Rw w2 w1.heap.size n2 (Rs.wd K nd) bl2 cp2 Z2 ∧ (∀ i j, i < n2 → j < Rs.wd K nd → Rs.tm (mat n2 K (Gf.cau K)) (Rs.split K d) K i j = Z2 i j) := by
    rcases hown with ⟨rfl, rfl⟩ | ⟨g, C, bl', cp', Z', rfl, hmy, hz⟩
    · exact ⟨id, id, fun _ _ => 0, Row.nil _ _, ⟨fun i hi => by omega, fun i hi => by omega, fun i j hi => by omega⟩, fun i j hi => by omega⟩
    · obtain ⟨e1, e2, e3⟩ := mat_shape (hpar.symm.trans hz)
      by_cases h0 : 0 < n2
      · have e4 := e2 h0
        subst e4
        exact ⟨bl', cp', Z', rowTo_row hmy.top, hmy.rw', e3⟩
      · obtain rfl : n2 = 0 := by omega
        exact ⟨id, id, fun _ _ => 0, Row.nil _ _, ⟨fun i hi => by omega, fun i hi => by omega, fun i j hi => by omega⟩, fun i j hi => by omega⟩
  have HM2 := Lib.hid (HM.out.below hb2)
  have HA : Hid (g1 < w1.heap.size) := Lib.hid ((HM.out.own.new _ rfl).2)
  have HBL : Hid (∀ i, i < K → bl i < w1.heap.size) := Lib.hid fun i hi => (HM.out.row i hi).2.2.lt
  have HB3 := Lib.hid (HB1.out.trans (hb2.mono HB1.out.size))
  have HR2 := Lib.hid hrow2
  have HRW := Lib.hid hrw2
  have HZ := Lib.hid hZ2
  clear hB2 hown hpar hb2 hrow2 hrw2 hZ2 HM hS hlen
  go_wp2_with (at_builtin; refine app_matr rfl _ _ rfl w.heap.size rfl HM2.out.own rfl HR2.out (by simp) (by intro u hu; obtain ⟨i, _, rfl⟩ := List.mem_map.1 hu; rfl) (by omega) HB3.out.size ?_; intro a' c' w' ho hb' hev)
  have hfin := HM2.out.join HRW.out HB1.out.size (fun x hx => by cases hx; exact HA.out) HBL.out (Y := Rs.enc K n2 d) (fun i j hi hj => by unfold Rs.enc; rw [if_pos hi, HN.out]) (fun i j hi hj => by unfold Rs.enc; rw [if_neg (by omega), Nat.add_sub_cancel_left]; exact HZ.out i j hi hj) ho hev
  have HF := Lib.hid hfin
  have HBF := Lib.hid (HB3.out.trans hb')
  clear hfin ho hev hb'
  go_wp2
  go_ret
  exact ⟨⟨_, _, _, _, rfl, HF.out⟩, HBF.out⟩
end Go.Proofs.Ytppgbapfmijboaa

/- rs: Check. -/
set_option maxRecDepth 100000
set_option linter.unusedVariables false
namespace Go.Proofs.Ytppgbapfmijboaa
open Go.RowKit Go.Deep

theorem list_ext_n {α : Type} [Inhabited α] {l m : List α} (hl : l.length = m.length) (h : ∀ k, k < l.length → nth l k = nth m k) : l = m := by
  apply List.ext_getElem hl
  intro i h1 h2
  have := h i h1
  rwa [nth_eq _ h1, nth_eq _ h2] at this

set_option maxHeartbeats 1000000 in
theorem equal_any (a a' : Option Addr) (n c n' c' : Nat) (l l' : List UInt8) (w : World) (h : Bs w a n c l) (h' : Bs w a' n' c' l') :
    Calls Try.prog 33 #[.slice a n c, .slice a' n' c'] w fun e w' => e = .returned (.bool (decide (l = l'))) ∧ Below w.heap.size w w' := by
  have hle := h.le.1
  have HB : Hid (∀ W, Below w.heap.size w W → Bs W a n c l) := Lib.hid fun W k => h.below k
  have HB' : Hid (∀ W, Below w.heap.size w W → Bs W a' n' c' l') := Lib.hid fun W k => h'.below k
  have hl := h.1
  have hl' := h'.1
  clear h h'
  by_cases hn : n = n'
  case neg =>
    have t1 : ((n : Int) != (n' : Int)) = true := by simp; omega
    have e1 := Lib.hid (decide_eq_false (show ¬ l = l' from fun e => by subst e; omega))
    clear hn hl hl'
    go_enter Try.func33, Try.ntmps33
    go_wp2
    go_ret
    exact ⟨by rw [e1.out]; rfl, Below.refl _ _⟩
  subst hn
  have t1 : ((n : Int) != (n : Int)) = false := by simp
  have HL := Lib.hid hl
  have HL' := Lib.hid hl'
  clear hl hl'
  go_enter Try.func33, Try.ntmps33
  go_wp2_with fail
  clear t1
  go_loopw [13] (fun i wr => ∃ k : Nat, k ≤ n ∧ i = .int .i64 k ∧ Below w.heap.size w wr ∧ Hid (∀ j, j < k → nth l j = nth l' j)) (fun i _ => n - (intOf i).toNat)
  case atStart => exact ⟨0, Nat.zero_le _, rfl, Below.refl _ _, Lib.hid fun j hj => by omega⟩
  case round =>
    obtain ⟨k, hk, rfl, hb, hall⟩ := hrel
    by_cases hlt : k < n
    · obtain ⟨b1, o1, rfl, d1⟩ := (HB.out wr hb).byte hlt
      obtain ⟨b2, o2, rfl, d2⟩ := (HB'.out wr hb).byte hlt
      have hx : Hid (nth l k = nth l k) := Lib.hid rfl
      generalize hxx : nth l k = x at *
      generalize hyy : nth l' k = y at *
      have HX := Lib.hid hxx
      have HY := Lib.hid hyy
      have HBB := Lib.hid hb
      clear hxx hyy hx hb
      by_cases hxy : x = y
      · subst hxy
        have t2 : (n8 x != n8 x) = false := by simp
        go_wp2_with fail
        refine wp_region_class (w0 := wr) (by kernel_rfl) (by kernel_rfl) (Below.refl _ _) ?_
        have l1 := BW.cell d1
        have l2 := BW.cell d2
        repeat (first | go_big_quiet_step (fail))
        refine wpQuiet_nil ?_
        intro w1 hb1; replace hb1 := BW.of hb1
        clear l1 l2
        have HB2 := Lib.hid (HBB.out.trans (hb1.mono HBB.out.size))
        clear hb1
        go_wp2
        go_roundw
        case rel => exact ⟨k + 1, by omega, by go_num, HB2.out, Lib.hid fun j hj => by
            by_cases e : j = k
            · rw [e, HX.out, HY.out]
            · exact hall.out j (by omega)⟩
        case measure => simp [intOf]; omega
      · have t2 : (n8 x != n8 y) = true := by simpa using fun e => hxy (n8_inj e)
        have e1 := Lib.hid (decide_eq_false (show ¬ l = l' from fun e => hxy (by rw [← HX.out, ← HY.out, e])))
        clear hxy
        go_wp2_with fail
        refine wp_region_class (w0 := wr) (by kernel_rfl) (by kernel_rfl) (Below.refl _ _) ?_
        have l1 := BW.cell d1
        have l2 := BW.cell d2
        repeat (first | go_big_quiet_step (fail))
        refine wpQuiet_nil ?_
        intro w1 hb1; replace hb1 := BW.of hb1
        clear l1 l2
        have HB2 := Lib.hid (HBB.out.trans (hb1.mono HBB.out.size))
        clear hb1
        go_wp2
        go_ret
        exact ⟨by rw [e1.out]; rfl, HB2.out⟩
    · obtain rfl : k = n := by omega
      have e1 := Lib.hid (decide_eq_true (show l = l' from list_ext_n (by rw [HL.out, HL'.out]) (fun j hj => hall.out j (by rw [HL.out] at hj; exact hj))))
      have HB2 := Lib.hid hb
      clear hb
      go_wp2
      go_ret
      exact ⟨by rw [e1.out]; rfl, HB2.out⟩

set_option maxHeartbeats 1000000 in
theorem equalf_any (a a' : Option Addr) (n c n' c' : Nat) (l l' : List (List UInt8)) (w : World) (h : Bss w a n c l) (h' : Bss w a' n' c' l') :
    Calls Try.prog 32 #[.slice a n c, .slice a' n' c', .func (.func 33) #[] #[]] w fun e w' => e = .returned (.bool (decide (l = l'))) ∧ Below w.heap.size w w' := by
  have hle := h.le.1
  have HB : Hid (∀ W, Below w.heap.size w W → Bss W a n c l) := Lib.hid fun W k => h.below k
  have HB' : Hid (∀ W, Below w.heap.size w W → Bss W a' n' c' l') := Lib.hid fun W k => h'.below k
  have hl := h.1
  have hl' := h'.1
  clear h h'
  by_cases hn : n = n'
  case neg =>
    have t1 : ((n : Int) != (n' : Int)) = true := by simp; omega
    have e1 := Lib.hid (decide_eq_false (show ¬ l = l' from fun e => by subst e; omega))
    clear hn hl hl'
    go_enter Try.func32, Try.ntmps32
    go_wp2
    go_ret
    exact ⟨by rw [e1.out]; rfl, Below.refl _ _⟩
  subst hn
  have t1 : ((n : Int) != (n : Int)) = false := by simp
  have HL := Lib.hid hl
  have HL' := Lib.hid hl'
  clear hl hl'
  go_enter Try.func32, Try.ntmps32
  go_wp2_with fail
  clear t1
  go_loopw [17] (fun i wr => ∃ k : Nat, k ≤ n ∧ i = .int .i64 k ∧ Below w.heap.size w wr ∧ Hid (∀ j, j < k → nth l j = nth l' j)) (fun i _ => n - (intOf i).toNat)
  case atStart => exact ⟨0, Nat.zero_le _, rfl, Below.refl _ _, Lib.hid fun j hj => by omega⟩
  case round =>
    obtain ⟨k, hk, rfl, hb, hall⟩ := hrel
    by_cases hlt : k < n
    · obtain ⟨b1, o1, a1, n1, c1, rfl, d1, r1⟩ := (HB.out wr hb).get hlt
      obtain ⟨b2, o2, a2, n2, c2, rfl, d2, r2⟩ := (HB'.out wr hb).get hlt
      have R1 := Lib.hid r1
      have R2 := Lib.hid r2
      have HBB := Lib.hid hb
      have hno : ∀ (x : Bool) (w : World), (Op.unary .not (.bool x)).run Try.prog w = .ok (.bool (!x)) w := fun _ _ => rfl
      clear r1 r2 hb
      by_cases hxy : nth l k = nth l' k
      · have t2 : decide (nth l k = nth l' k) = true := decide_eq_true hxy
        have HXY := Lib.hid hxy
        clear hxy
        go_wp2_with fail
        refine (equal_any _ _ _ _ _ _ _ _ wr R1.out R2.out).mono ?_
        rintro e w1 ⟨rfl, hb1⟩
        rw [t2]
        have HB2 := Lib.hid (HBB.out.trans (hb1.mono HBB.out.size))
        clear hb1 t2
        go_wp2
        go_roundw
        case rel => exact ⟨k + 1, by omega, by go_num, HB2.out, Lib.hid fun j hj => by
            by_cases e : j = k
            · rw [e, HXY.out]
            · exact hall.out j (by omega)⟩
        case measure => simp [intOf]; omega
      · have t2 : decide (nth l k = nth l' k) = false := decide_eq_false hxy
        have e1 := Lib.hid (decide_eq_false (show ¬ l = l' from fun e => hxy (by rw [e])))
        clear hxy
        go_wp2_with fail
        refine (equal_any _ _ _ _ _ _ _ _ wr R1.out R2.out).mono ?_
        rintro e w1 ⟨rfl, hb1⟩
        rw [t2]
        have HB2 := Lib.hid (HBB.out.trans (hb1.mono HBB.out.size))
        clear hb1 t2
        go_wp2
        go_ret
        exact ⟨by rw [e1.out]; rfl, HB2.out⟩
    · obtain rfl : k = n := by omega
      have e1 := Lib.hid (decide_eq_true (show l = l' from list_ext_n (by rw [HL.out, HL'.out]) (fun j hj => hall.out j (by rw [HL.out] at hj; exact hj))))
      have HB2 := Lib.hid hb
      clear hb
      go_wp2
      go_ret
      exact ⟨by rw [e1.out]; rfl, HB2.out⟩
end Go.Proofs.Ytppgbapfmijboaa

/- rs: Check. -/
set_option maxRecDepth 100000
set_option linter.unusedVariables false
namespace Go.Proofs.Ytppgbapfmijboaa
open Go.RowKit Go.Deep

def Rs.chkOk (K M : Nat) (ls : List (List UInt8)) : Bool := (Rs.alk (K + M) ls).isSome && Rs.full ls
def Rs.chkB (K M : Nat) (ls : List (List UInt8)) : Bool := if Rs.chkOk K M ls = true then decide (Rs.parL K M (ls.take K) = ls.drop K) else false
def Rs.chkE (K M : Nat) (ls : List (List UInt8)) : Int := if Rs.chkOk K M ls = true then 0 else 1
def BRes (v : Bool) (er : Int) (w : World) (e : Ending) (w' : World) : Prop := e = .returned (.tuple #[.bool v, .int .i64 er]) ∧ Below w.heap.size w w'
theorem chk_bad {K M : Nat} {ls : List (List UInt8)} (h : Rs.chkOk K M ls = false) : Rs.chkB K M ls = false ∧ Rs.chkE K M ls = 1 := by
  unfold Rs.chkB Rs.chkE; rw [h]; exact ⟨rfl, rfl⟩
theorem chk_good {K M : Nat} {ls : List (List UInt8)} (h : Rs.chkOk K M ls = true) : Rs.chkB K M ls = decide (Rs.parL K M (ls.take K) = ls.drop K) ∧ Rs.chkE K M ls = 0 := by
  unfold Rs.chkB Rs.chkE; rw [if_pos h, if_pos h]; exact ⟨rfl, rfl⟩
theorem zero_chk : ZeroF 28 (.bool false) := by
  intro po x w h1 h2
  go_enter Try.func28, Try.ntmps28
  go_wp2
  go_end0
  exact ⟨rfl, rfl⟩
theorem alike_sum (K M : Nat) (aq : Option Addr) (ns cs : Nat) (ls : List (List UInt8)) (w : World) (h : Bss w aq ns cs ls) (hn : K + M ≤ 1000) :
    Calls Try.prog 29 #[.int .i64 ((K : Int) + (M : Int)), .slice aq ns cs] w fun e w' => e = alkE (Rs.alk (K + M) ls) ∧ w = w' := by
  have := alike_any aq (K + M) ns cs ls w h (by omega)
  rwa [Int.natCast_add] at this

theorem slicer_h (a : Option Addr) (n c : Nat) {hi : Int} {hi' : Nat} (hhi : hi = hi') (h2 : hi' ≤ c) (w : World) :
    (Instr.slice 28 (.slice a n c) none (some (.int .i64 hi)) none).run Try.prog w = .ok (.slice a hi' c) w := by
  obtain ⟨i, hi0, _, g1, _⟩ := info_parts infoSs
  exact run_slice_h Try.underlying28 hi0 g1 a n c hhi h2 w
theorem slicer_l (a : Option Addr) (n c : Nat) {lo : Int} {lo' : Nat} (hlo : lo = lo') (h1 : lo' ≤ n) (w : World) :
    (Instr.slice 28 (.slice a n c) (some (.int .i64 lo)) none none).run Try.prog w = .ok (.slice (subA a c lo') (n - lo') (c - lo')) w := by
  obtain ⟨i, hi0, _, g1, _⟩ := info_parts infoSs
  rw [run_slice_l Try.underlying28 hi0 g1 a n c hlo h1, subAn_one]
theorem full_take {ls : List (List UInt8)} (h : Rs.full ls = true) (k : Nat) : Rs.full (ls.take k) = true :=
  full_true fun j hj => by
    rw [List.length_take] at hj
    rw [nth_take ls (show j < k by omega) (by omega)]
    exact full_at h (by omega)
theorem sc_take {ls : List (List UInt8)} {s : Nat} (h : Rs.sc ls = some s) (k : Nat) : ∃ t, Rs.sc (ls.take k) = some t := by
  cases hk : Rs.sc (ls.take k) with
  | none => rw [sc_bad hk] at h; cases h
  | some t => exact ⟨t, rfl⟩

set_option maxHeartbeats 4000000 in
theorem check_any (b K M : Nat) (aq : Option Addr) (ns cs : Nat) (ls : List (List UInt8)) (w : World) (hc : Cod w b K M) (hs : Bss w aq ns cs ls) (h1 : 1 ≤ K) (h2 : K + M ≤ 255) (h3 : ns ≤ 1000000000) (h4 : ∀ i, i < ns → (nth ls i).length ≤ 100000000) :
    Calls Try.prog 10 #[.pointer (some ⟨b, 0, none⟩), .slice aq ns cs] w (BRes (Rs.chkB K M ls) (Rs.chkE K M ls) w) := by
  have hmf := makeFunc_run
  obtain ⟨w2, hw2⟩ : ∃ w2, (w.alloc (.cells #[.bool false] 4)).alloc (.cells #[.int .i64 0] 25) = w2 := ⟨_, rfl⟩
  have hT := Two.start w (.bool false) (.int .i64 0) 4 25
  rw [hw2] at hT
  have HC : Hid (∀ W, Below w.heap.size w W → Cod W b K M) := Lib.hid fun W h => hc.below h
  have HS : Hid (∀ W, Below w.heap.size w W → Bss W aq ns cs ls) := Lib.hid fun W h => hs.below h
  have HT := Lib.hid hT
  have HW := Lib.hid hw2
  have k1 := (HC.out w2 hT.out).k
  have k2 := (HC.out w2 hT.out).m
  clear hc hs hT hw2
  go_enter_defers Try.func10, Try.ntmps10
  go_wp2_with fail
  rw [HW.out]
  clear HW
  go_still_tail 10, (by kernel_rfl)
  go_wp2_with fail
  have hT2 := Lib.hid (HT.out.later (Below.refl _ _).drew)
  generalize w2.drew = w3 at *
  clear HT k1 k2
  refine (alike_sum K M aq ns cs ls w3 (HS.out _ hT2.out.out) (by omega)).mono ?_
  rintro e w4 ⟨rfl, rfl⟩
  have hreads : ∀ tmps : Array Value, tmps.getD 4 undef = .pointer (some ⟨w.heap.size, 0, none⟩) → tmps.getD 5 undef = .pointer (some ⟨w.heap.size + 1, 0, none⟩) → Reads2 Try.f10 tmps w.heap.size := fun tmps t4 t5 W v1 v2 g1 g2 => by
    simp [results, Try.results10, go_sem, g1, g2] at t4 t5 ⊢
    simp [t4, t5, asAddr, g1, g2, go_sem]
  have HRD := Lib.hid hreads
  clear hreads
  cases hA : Rs.alk (K + M) ls with
  | none =>
    obtain ⟨e1, e2⟩ := chk_bad (K := K) (M := M) (ls := ls) (by unfold Rs.chkOk; rw [hA]; rfl)
    simp only [alkE]
    refine door_err (F := 28) (HRD.out _ rfl rfl) hT2.out (enters_of Try.func28 (by kernel_rfl) rfl) zero_chk (fun W hb => ?_)
    rw [e1, e2]
    exact ⟨rfl, hb⟩
  | some s =>
    simp only [alkE]
    go_wp2_with fail
    refine (missing_any _ _ _ ls w3 (HS.out _ hT2.out.out) h3).mono ?_
    rintro e w5 ⟨r, q, rfl, hr, hq⟩
    have HT3 := Lib.hid (hT2.out.later (hq ▸ below_drewN (Below.refl _ _) q))
    have HR := Lib.hid hr
    have HA := Lib.hid hA
    clear hT2 hq hr hA
    by_cases hf : Rs.full ls = true
    case neg =>
      have hf : Rs.full ls = false := by simpa using hf
      have hr0 : 0 ≤ r := by have := HR.out; rw [hf] at this; simpa using this
      have t1 : decide (0 ≤ r) = true := decide_eq_true hr0
      have e1 := Lib.hid (chk_bad (K := K) (M := M) (ls := ls) (by unfold Rs.chkOk; rw [hf]; simp))
      clear hr0 hf
      go_wp2_with (go_at_call 31; refine (give_any _ _).mono ?_; rintro e w' ⟨rfl, rfl⟩)
      refine door_err (F := 28) (HRD.out _ rfl rfl) HT3.out (enters_of Try.func28 (by kernel_rfl) rfl) zero_chk (fun W hb => ?_)
      rw [e1.out.1, e1.out.2]
      exact ⟨rfl, hb⟩
    have hr0 : r < 0 := by have := HR.out; rw [hf] at this; simpa using this
    have t1 : decide (0 ≤ r) = false := decide_eq_false (by omega)
    have e1 := Lib.hid (chk_good (K := K) (M := M) (ls := ls) (by unfold Rs.chkOk; rw [hf, HA.out]; rfl))
    obtain ⟨hlen, hsc⟩ := alk_some HA.out
    have hbs := HS.out _ HT3.out.out
    have hns := hbs.1
    have hnc := hbs.2.1
    obtain rfl : ns = K + M := by omega
    have hpE : Hid (Rs.parE K (ls.take K) = 0) := Lib.hid (by
      obtain ⟨t, ht⟩ := sc_take hsc K
      have hal : Rs.alk K (ls.take K) = some t := by unfold Rs.alk; rw [if_pos (by rw [List.length_take]; omega)]; exact ht
      unfold Rs.parE Rs.parOk
      rw [full_take hf K, hal]; rfl)
    have hs1 := slicer_h aq (K + M) cs (hi := (K : Int)) (hi' := K) rfl (by omega)
    have hs2 := slicer_l aq (K + M) cs (lo := (K : Int)) (lo' := K) rfl (by omega)
    rw [Nat.add_sub_cancel_left] at hs2
    have HTK : Hid (∀ W, Below w.heap.size w W → Bss W aq K cs (ls.take K)) := Lib.hid fun W h => (HS.out W h).take (by omega)
    have HDR : Hid (∀ W, Below w.heap.size w W → Bss W (subA aq cs K) M (cs - K) (ls.drop K)) := Lib.hid fun W h => by have := (HS.out W h).drop (k := K) (by omega); rwa [Nat.add_sub_cancel_left] at this
    have HL4 : Hid (∀ i, i < K → (nth (ls.take K) i).length ≤ 100000000) := Lib.hid fun i hi => by rw [nth_take ls hi (by omega)]; exact h4 i (by omega)
    have k1 := (HC.out w5 HT3.out.out).k
    clear hr0 hf hbs hlen hsc HR HA h4
    go_wp2_with fail
    refine (parity_any b K M _ _ _ _ w5 (HC.out _ HT3.out.out) (HTK.out _ HT3.out.out) h1 h2 (by omega) HL4.out).mono ?_
    rintro e w6 ⟨⟨a6, n6, c6, rfl, hB6, _⟩, hb6⟩
    rw [hpE.out]
    have HT4 := Lib.hid (HT3.out.later hb6)
    have HB6 := Lib.hid hB6
    have k1' := (HC.out w6 HT4.out.out).k
    clear hb6 hB6 k1
    go_wp2_with fail
    refine (equalf_any _ _ _ _ _ _ _ _ w6 HB6.out (HDR.out _ HT4.out.out)).mono ?_
    rintro e w7 ⟨rfl, hb7⟩
    have HT5 := Lib.hid (HT4.out.later hb7)
    have c1 := HT5.out.c1
    have c2 := HT5.out.c2
    have f1 := HT5.out.f1
    have f2 := HT5.out.f2
    clear hb7 k1' hs1 hs2
    go_wp2
    refine door_ok (F := 28) (HRD.out _ rfl rfl) (HT5.out.set' (.int .i64 0) (.bool (decide (Rs.parL K M (ls.take K) = ls.drop K)))) ?_
    rw [e1.out.1, e1.out.2]
    exact ⟨rfl, (HT5.out.set' (.int .i64 0) (.bool (decide (Rs.parL K M (ls.take K) = ls.drop K)))).out⟩
end Go.Proofs.Ytppgbapfmijboaa

/- rs: the chapter's example. -/
set_option maxRecDepth 100000
set_option linter.unusedVariables false
namespace Go.Proofs.Ytppgbapfmijboaa
open Go.RowKit Go.Deep

theorem Mo.bss {w : World} {B n c C : Nat} {a : Option Addr} {bl cp : Nat → Nat} {Z : Nat → Nat → UInt8} (h : Mo w B a n c C bl cp Z) (hn : 0 < n) : Bss w a n c (mat n C Z) := by
  obtain ⟨g, rfl, hmy⟩ := h.my hn
  exact hmy.bss h.own.len.2.1 h.own.len.2.2
theorem MoP.bss {n C : Nat} {Z : Nat → Nat → UInt8} {w w' : World} {e : Ending} (h : MoP n C Z w e w') (hn : 0 < n) : (∃ a c, e = .returned (.slice a n c) ∧ Bss w' a n c (mat n C Z)) ∧ Below w.heap.size w w' := by
  obtain ⟨⟨a, c, bl, cp, h1, h2⟩, h3⟩ := h
  exact ⟨⟨a, c, h1, h2.bss hn⟩, h3⟩
theorem known_wd : Rs.wd 2 2 = 1 ∧ Rs.wd 2 0 = 1 := by decide
theorem known_enc : ∃ p, mat (2 + 1) (Rs.wd 2 2) (Rs.enc 2 1 [97, 98]) = [[97], [98], [p]] := ⟨Rs.enc 2 1 [97, 98] 2 0, by
  rw [known_wd.1]
  show [[Rs.enc 2 1 [97, 98] 0 0], [Rs.enc 2 1 [97, 98] 1 0], [Rs.enc 2 1 [97, 98] 2 0]] = _
  have e0 : Rs.enc 2 1 [97, 98] 0 0 = 97 := by decide
  have e1 : Rs.enc 2 1 [97, 98] 1 0 = 98 := by decide
  rw [e0, e1]⟩
theorem known_spl : mat 2 (Rs.wd 2 0) (Rs.spl (Rs.wd 2 0) []) = [[0], [0]] := by decide
set_option maxHeartbeats 4000000 in
theorem known_any (w : World) : Calls Try.prog 7 #[] w fun e w' => e = .returned (.bool true) ∧ Below w.heap.size w w' := by
  have kc := fun (w : World) (C : Array Value) (n c : Nat) => Lib.run_convert_bytes_const (P := Try.prog) w 22 5 C n c Try.underlying22 Try.underlying5
  go_enter Try.func7, Try.ntmps7
  go_wp2_with fail
  refine (new_any 2 1 w (by omega) (by omega)).mono ?_
  rintro e w1 ⟨⟨b, rfl, hc⟩, hb1⟩
  have HC := Lib.hid hc
  have HB1 := Lib.hid hb1
  clear hc hb1
  go_wp2_with fail
  obtain ⟨w2, hw2⟩ : ∃ w2, w1.alloc (.cells #[.int .u8 97, .int .u8 98] 5 (2, 3)) = w2 := ⟨_, rfl⟩
  have hlit : Bs w2 (some ⟨w1.heap.size, 0, none⟩) 2 2 [97, 98] := hw2 ▸ Bs.litAt [97, 98] (2, 3) rfl (by simp [maxLen])
  have hb2 : Below w1.heap.size w1 w2 := hw2 ▸ below_alloc w1 _
  have HC2 := Lib.hid (HC.out.below hb2)
  have HB2 := Lib.hid (HB1.out.trans (hb2.mono HB1.out.size))
  rw [hw2]
  clear hw2 hb2 HC HB1
  refine (encode_any b 2 1 _ _ _ [97, 98] w2 HC2.out hlit (by omega) (by omega) (by omega)).mono ?_
  rintro e w3 h
  obtain ⟨⟨a3, c3, rfl, h3⟩, hb3⟩ := h.bss (by omega)
  obtain ⟨p, hp⟩ := known_enc
  rw [hp] at h3
  have HC3 := Lib.hid (HC2.out.below hb3)
  have HB3 := Lib.hid (HB2.out.trans (hb3.mono HB2.out.size))
  have H3 := Lib.hid h3
  clear h h3 hp hb3 HC2 HB2 hlit
  go_wp2_with fail
  refine (split_any b 2 1 none 0 0 [] w3 HC3.out (Bs.nil w3) (by omega) (by omega) (by omega)).mono ?_
  rintro e w4 h
  obtain ⟨⟨a4, c4, rfl, h4⟩, hb4⟩ := h.bss (by omega)
  rw [known_spl] at h4
  have h34 := H3.out.below hb4
  have HB4 := Lib.hid (HB3.out.trans (hb4.mono HB3.out.size))
  obtain ⟨b0, o0, a0, n0, c0, rfl, d0, r0⟩ := h34.get (i := 0) (by omega)
  obtain ⟨b0', o0', a1, n1, c1, e1, d1, r1⟩ := h34.get (i := 1) (by omega)
  cases e1
  obtain ⟨b0', o0', a2, n2, c2, e1, d2, r2⟩ := h34.get (i := 2) (by omega)
  cases e1
  obtain ⟨b4, o4, a5, n5, c5, rfl, d5, r5⟩ := h4.get (i := 0) (by omega)
  have q0 := conv_bytes r0
  have q1 := conv_bytes r1
  obtain rfl : n0 = 1 := r0.1.symm
  obtain rfl : n1 = 1 := r1.1.symm
  obtain rfl : n2 = 1 := r2.1.symm
  obtain rfl : n5 = 1 := r5.1.symm
  rw [Nat.add_zero] at d0 d5
  rw [show nth [[97], [98], [p]] 0 = [97] from rfl] at q0
  rw [show nth [[97], [98], [p]] 1 = [98] from rfl] at q1
  have s0 : ((bstr [97]).toList == [97]) = true := by rw [bstr_toList]; rfl
  have s1 : ((bstr [98]).toList == [98]) = true := by rw [bstr_toList]; rfl
  clear h h4 h34 hb4 H3 r0 r1 r2 r5 HC3 HB3
  go_wp2
  go_ret
  exact ⟨rfl, HB4.out⟩
end Go.Proofs.Ytppgbapfmijboaa
