/- rs, the reference: Encode, Parity, there. -/
import Derived.Test.YtfgifndpglgjkaaGreatDoorZQRsY
set_option linter.unusedVariables false
set_option linter.unusedSimpArgs false
set_option maxRecDepth 100000
set_option linter.unusedVariables false
set_option linter.unusedSimpArgs false
namespace Go.Proofs.YtfgifndpglgjkaaGreatDoor
open Go.RowKit Go.Deep

theorem Mo.bss' {w : World} {B n c C : Nat} {a : Option Addr} {bl cp : Nat → Nat} {Z : Nat → Nat → UInt8} (h : Mo w B a n c C bl cp Z) : Bss w a n c (mat n C Z) := by
  rcases Nat.eq_zero_or_pos n with e | hn
  · subst e
    exact ⟨rfl, h.own.len.2.1, h.own.len.2.2, fun i hi => by omega⟩
  · exact h.bss hn
theorem Mo.rw' {w : World} {B n c C : Nat} {a : Option Addr} {bl cp : Nat → Nat} {Z : Nat → Nat → UInt8} (h : Mo w B a n c C bl cp Z) : Rw w B n C bl cp Z := ⟨fun i hi => ⟨(h.row i hi).1, (h.row i hi).2.2⟩, h.cap, h.apart⟩

set_option maxHeartbeats 2000000 in
theorem refencode_any (b K M : Nat) (ad : Option Addr) (nd cd : Nat) (d : List UInt8) (w : World) (hc : RCod w b K M) (hd : Bs w ad nd cd d) (h1 : 1 ≤ K) (h2 : K + M ≤ 255) (h3 : nd ≤ 50000000) :
    Calls Tryz.prog 45 #[.pointer (some ⟨b, 0, none⟩), .slice ad nd cd] w (MoP (K + M) (Rs.wd K nd) (Rs.enc K M d) w) := by
  have HC : Hid (∀ W, Below w.heap.size w W → RCod W b K M) := Lib.hid fun W h => hc.below h
  have HD : Hid (∀ W, Below w.heap.size w W → Bs W ad nd cd d) := Lib.hid fun W h => hd.below h
  have HN := Lib.hid hd.1
  have HW1 := Lib.hid (wd_pos K nd)
  have HW3 : Hid (Rs.wd K nd ≤ 100000000) := Lib.hid (by
    have := wd_few (n := nd) h1
    have h5 : 1 * Rs.wd K nd ≤ K * Rs.wd K nd := Nat.mul_le_mul_right _ h1
    omega)
  clear hc hd
  go_enter Tryz.func45, Tryz.ntmps45
  go_wp2_with fail
  refine (refsplit_any b K M ad nd cd d w (HC.out w (Below.refl _ _)) (HD.out w (Below.refl _ _)) h1 (by omega) (by omega)).mono ?_
  rintro e w1 ⟨⟨a, c, bl, cp, rfl, hm⟩, hb1⟩
  obtain ⟨g1, rfl, hmy⟩ := hm.my (by omega)
  have hS : Hid (Bss w1 (some ⟨g1, 0, none⟩) K c (Rs.split K d)) := Lib.hid (by
    unfold Rs.split; rw [HN.out]; exact hmy.bss hm.own.len.2.1 hm.own.len.2.2)
  have HM := Lib.hid hm
  have HB1 := Lib.hid hb1
  have hlen : Hid (∀ i, i < K → (nth (Rs.split K d) i).length = Rs.wd K nd) := Lib.hid fun i hi => by unfold Rs.split; rw [HN.out, mat_row hi]; simp
  clear hm hmy hb1
  go_wp2_with fail
  refine (refpar_any b K M _ _ _ _ w1 (HC.out w1 HB1.out) hS.out hlen.out h1 h2 HW1.out HW3.out).mono ?_
  rintro e w2 ⟨⟨a2, c2, bl2, cp2, rfl, hm2⟩, hb2⟩
  have HM2 := Lib.hid (HM.out.below hb2)
  have HA : Hid (g1 < w1.heap.size) := Lib.hid ((HM.out.own.new _ rfl).2)
  have HBL : Hid (∀ i, i < K → bl i < w1.heap.size) := Lib.hid fun i hi => (HM.out.row i hi).2.2.lt
  have HB3 := Lib.hid (HB1.out.trans (hb2.mono HB1.out.size))
  have HR2 := Lib.hid (Row.of_own hm2.own)
  have HRW := Lib.hid hm2.rw'
  clear hb2 hm2 HM hS hlen
  go_wp2_with (at_builtin; refine app_matr rfl _ _ rfl w.heap.size rfl HM2.out.own rfl HR2.out (by simp) (by intro u hu; obtain ⟨i, _, rfl⟩ := List.mem_map.1 hu; rfl) (by omega) HB3.out.size ?_; intro a' c' w' ho hb' hev)
  have hfin := HM2.out.join HRW.out HB1.out.size (fun x hx => by cases hx; exact HA.out) HBL.out (Y := Rs.enc K M d) (fun i j hi hj => by unfold Rs.enc; rw [if_pos hi, HN.out]) (fun i j hi hj => by unfold Rs.enc; rw [if_neg (by omega), Nat.add_sub_cancel_left]) ho hev
  have HF := Lib.hid hfin
  have HBF := Lib.hid (HB3.out.trans hb')
  clear hfin ho hev hb'
  go_wp2
  go_ret
  exact ⟨⟨_, _, _, _, rfl, HF.out⟩, HBF.out⟩

theorem parOk_iff {K : Nat} {ls : List (List UInt8)} (hl : ls.length = K) (hK : 1 ≤ K) : Rs.parOk K ls = true ↔ (nth ls 0).length ≠ 0 ∧ ∀ i, i < K → (nth ls i).length = (nth ls 0).length := by
  unfold Rs.parOk Rs.alk
  rw [if_pos hl, Bool.and_eq_true]
  constructor
  · rintro ⟨h1, h2⟩
    obtain ⟨s, hs⟩ := Option.isSome_iff_exists.1 h1
    have h0 : ∀ i, i < K → (nth ls i).length = s := fun i hi => by
      rcases sc_len hs (i := i) (by omega) with h | h
      · exact absurd h (full_at h2 (by omega))
      · exact h
    exact ⟨full_at h2 (by omega), fun i hi => by rw [h0 i hi, h0 0 (by omega)]⟩
  · rintro ⟨h1, h2⟩
    obtain ⟨y, hy⟩ := sc_even ls (nth ls 0).length (fun l hm => by
      obtain ⟨i, hi, rfl⟩ := List.getElem_of_mem hm
      rw [← nth_eq]
      exact h2 i (by omega)) (by omega) 0 (.inl rfl)
    refine ⟨by unfold Rs.sc; rw [hy]; rfl, full_true fun k hk => by rw [h2 k (by omega)]; exact h1⟩
theorem parOk_len {K : Nat} {ls : List (List UInt8)} (hl : ¬ ls.length = K) : Rs.parOk K ls = false := by
  unfold Rs.parOk Rs.alk
  rw [if_neg hl]; rfl

/-- What there tells. -/
def ThrP (K M : Nat) (ls : List (List UInt8)) (w : World) (e : Ending) (w' : World) : Prop :=
  (match Rs.alk (K + M) ls with
    | none => e = .returned (.tuple #[.slice none 0 0, .int .i64 0, .int .i64 1])
    | some m => ∃ a c, e = .returned (.tuple #[.slice a (Rs.thr ls ls.length).length c, .int .i64 m, .int .i64 0]) ∧ OwnI w' w.heap.size a (Rs.thr ls ls.length).length c (Rs.thr ls ls.length)) ∧ Below w.heap.size w w'
theorem thr_le (ls : List (List UInt8)) (i : Nat) : (Rs.thr ls i).length ≤ i := by
  unfold Rs.thr
  have := List.length_filter_le (fun j => decide (0 < (nth ls j).length)) (List.range i)
  rwa [List.length_range] at this

end Go.Proofs.YtfgifndpglgjkaaGreatDoor
