/- The reference's Apply, Rows. -/
import Derived.Test.YtkecjgdmjhljnaaGfW
namespace Go.Proofs.Ytkecjgdmjhljnaa
open Go.RowKit Go.Deep

theorem bs_row {w : World} {b n : Nat} {F : Nat → UInt8} (h : rowTo w b 5 n (fun j => .int .u8 (n8 (F j)))) (hn : n ≤ maxLen) : Bs w (some ⟨b, 0, none⟩) n n ((List.range n).map F) := by
  refine ⟨by simp, Nat.le_refl _, hn, fun j v hv => ?_⟩
  have hj : j < n := by
    rcases Nat.lt_or_ge j n with h' | h'
    · exact h'
    · rw [List.getElem?_eq_none (by simp [vs]; omega)] at hv; cases hv
  refine ⟨b, 0, rfl, ?_⟩
  rw [Nat.zero_add, h.cell hj]
  simp [vs, hj] at hv
  rw [hv]
/-- While a matrix is applied: the places before i, of place i the first k terms. -/
def Gf.partV (f : Nat → Nat → UInt8) (K i k : Nat) : Nat → UInt8 := fun r => if r < i then Gf.sm K (f r) else if r = i then Gf.sm k (f r) else 0
theorem partV_next (f : Nat → Nat → UInt8) (K i r : Nat) : Gf.partV f K i K r = Gf.partV f K (i + 1) 0 r := by
  unfold Gf.partV
  by_cases h1 : r < i
  · simp [h1, Nat.lt_succ_of_lt h1]
  · by_cases h2 : r = i
    · simp [h2]
    · rw [if_neg h1, if_neg h2, if_neg (by omega)]; split <;> rfl
theorem partV_term (f : Nat → Nat → UInt8) (K i k r : Nat) : (if r = i then Gf.partV f K i k i ^^^ f i k else Gf.partV f K i k r) = Gf.partV f K i (k + 1) r := by
  unfold Gf.partV
  by_cases h : r = i
  · subst h; simp [Gf.sm]
  · simp [h]
theorem partV_zero (f : Nat → Nat → UInt8) (K r : Nat) : Gf.partV f K 0 0 r = 0 := by unfold Gf.partV; simp [Gf.sm]
theorem partV_full (f : Nat → Nat → UInt8) (K R r : Nat) (hr : r < R) : Gf.partV f K R 0 r = Gf.sm K (f r) := by unfold Gf.partV; simp [hr]

set_option maxHeartbeats 4000000 in
theorem refapply_any (am av : Option Addr) (nm cm nv cv : Nat) (lm : List (List UInt8)) (lv : List UInt8) (w : World) (hm : Bss w am nm cm lm) (hv : Bs w av nv cv lv) :
    Calls Try.prog 36 #[.slice am nm cm, .slice av nv cv] w (VRes (Gf.applyL lm lv) (Gf.applyE lm lv) w) := by
  have hlm := hm.1
  have hlv := hv.1
  have hlem := hm.le.1
  have hlev := hv.le.1
  have HBm : Hid (∀ W, Below w.heap.size w W → Bss W am nm cm lm) := Lib.hid fun W h => hm.below h
  have HBv : Hid (∀ W, Below w.heap.size w W → Bs W av nv cv lv) := Lib.hid fun W h => hv.below h
  have HQ : ∀ q, Below w.heap.size w (w.drewN q) := fun q => below_drewN (Below.refl _ _) q
  clear hm hv
  by_cases h1 : Gf.right lm = true
  case neg =>
    have h1 : Gf.right lm = false := by simpa using h1
    obtain ⟨e1, e2⟩ := apply_bad (m := lm) (v := lv) (by unfold Gf.applyOk; rw [h1]; rfl)
    rw [e1, e2]
    clear e1 e2
    have H1 := Lib.hid h1
    clear h1
    go_enter Try.func36, Try.ntmps36
    go_wp2_with (go_at_call 28; refine (refright_no H1.out (HBm.out _ (Below.refl _ _))).mono ?_; rintro e w1 ⟨rfl, q, rfl⟩)
    go_ret2
    exact nil_vres (HQ q)
  have H1 := Lib.hid h1
  obtain ⟨r1, r2, r3, r4, r5⟩ := right_spec h1
  rw [hlm] at r1 r2 r5
  obtain ⟨bm, om, am0, nm0, cm0, rfl, dm, hm0⟩ := (HBm.out w (Below.refl _ _)).get (show 0 < nm by omega)
  have em := hm0.1
  rw [Nat.add_zero] at dm
  have hp1 : 0 < nm := by omega
  have hle3 : nm0 ≤ 9223372036854775807 := by omega
  by_cases h3 : nv = nm0
  case neg =>
    obtain ⟨e1, e2⟩ := apply_bad (m := lm) (v := lv) (by unfold Gf.applyOk; rw [h1, em, hlv, decide_eq_false h3]; rfl)
    rw [e1, e2]
    have t : ((nv : Int) != (nm0 : Int)) = true := by simp; omega
    clear e1 e2 h1 r1 r2 r3 r4 r5 em hlm hlv h3 hm0
    go_enter Try.func36, Try.ntmps36
    go_wp2_with (go_at_call 28; refine (refright_yes H1.out (HBm.out _ (Below.refl _ _))).mono ?_; rintro e w1 ⟨rfl, q, rfl⟩)
    go_ret2
    exact nil_vres (HQ q)
  obtain ⟨e1, e2⟩ := apply_good (m := lm) (v := lv) (by unfold Gf.applyOk; rw [h1, em, hlv, decide_eq_true h3]; rfl)
  rw [e1, e2, hlm, hlv]
  subst h3
  have t : ((nv : Int) != (nv : Int)) = false := by simp
  have HL := Lib.hid (fun i hi => (r5 i hi).trans em : ∀ i, i < nm → (nth lm i).length = nv)
  have hbd : nm ≤ 255 ∧ nv ≤ 255 := by omega
  have hmk := run_make_row' (P := Try.prog) 56 5 (.int .u8 0) 1 Try.underlying56 info8 rfl .i64 .i64 nm (by omega) (by omega)
  clear e1 e2 h1 r1 r2 r3 r4 r5 em hlm hlv hm0
  go_enter Try.func36, Try.ntmps36
  go_wp2_with fail
  refine (refright_yes H1.out (HBm.out _ (Below.refl _ _))).mono ?_
  rintro e w1 ⟨rfl, q, hq⟩
  have hb1 : Below w.heap.size w w1 := hq ▸ HQ q
  have dm1 := cell_later hb1 dm
  have HB1 := Lib.hid hb1
  have hsz : w1.heap.size = w.heap.size := by rw [hq]; simp
  clear hq hb1 dm HQ
  go_wp2_with fail
  have hrow := rowTo.of_is (World.rowIs_made w1 (.int .u8 0) nm 5)
  have hb2 := HB1.out.alloc (o := .cells (madeCells #[.int .u8 0] nm) 5) HB1.out.size
  have HRW := Lib.hid hrow
  have HB2 := Lib.hid hb2
  rw [hsz] at HRW
  generalize w1.alloc (.cells (madeCells #[.int .u8 0] nm) 5) = w2 at *
  clear hrow hb2 hmk dm1 t HB1 hsz
  clear w1
  go_loopw [7] (fun i wr => ∃ k : Nat, k ≤ nm ∧ i = .int .i64 k ∧ Below w.heap.size w wr ∧ rowTo wr w.heap.size 5 nm (fun r => .int .u8 (n8 (Gf.partV (fun i k => Gf.mul (at2 lm i k) (nth lv k)) nv k 0 r)))) (fun i _ => nm - (intOf i).toNat)
  case atStart => exact ⟨0, Nat.zero_le _, rfl, HB2.out, HRW.out.congr (fun j _ => by rw [partV_zero]; rfl)⟩
  case round =>
    clear HRW HB2
    obtain ⟨i, hi, rfl, hb, hr⟩ := hrel
    by_cases hlt : i < nm
    · have HB3 := Lib.hid hb
      have HR3 := Lib.hid hr
      clear hb hr
      go_wp2_with fail
      go_loopw [8] (fun p wi => ∃ k : Nat, k ≤ nv ∧ p = .int .i64 k ∧ Below w.heap.size w wi ∧ rowTo wi w.heap.size 5 nm (fun r => .int .u8 (n8 (Gf.partV (fun i k => Gf.mul (at2 lm i k) (nth lv k)) nv i k r)))) (fun p _ => nv - (intOf p).toNat)
      case atStart => exact ⟨0, Nat.zero_le _, rfl, HB3.out, HR3.out⟩
      case round =>
        clear HB3 HR3
        obtain ⟨k, hk, rfl, hb, hr⟩ := hrel
        by_cases hlk : k < nv
        · have c1 := hr.cell hlt
          have c2 := hr.frozen i
          obtain ⟨x1, o1, k1, y1, p1, q1, d1, d2⟩ := (HBm.out _ hb).at2 hlt (j := k) (by rw [HL.out i hlt]; exact hlk)
          cases q1
          rw [HL.out i hlt] at d1
          obtain ⟨b3, o3, rfl, d3⟩ := (HBv.out _ hb).byte hlk
          have hrS := (hr.set i (.int .u8 (n8 (Gf.partV (fun i k => Gf.mul (at2 lm i k) (nth lv k)) nv i k i ^^^ Gf.mul (at2 lm i k) (nth lv k))))).congr (g := fun r => .int .u8 (n8 (Gf.partV (fun i k => Gf.mul (at2 lm i k) (nth lv k)) nv i (k + 1) r))) (fun r _ => by
            rw [← partV_term]; split <;> rfl)
          generalize Gf.partV (fun i k => Gf.mul (at2 lm i k) (nth lv k)) nv i k i = sv at *
          have HS := Lib.hid hrS
          have HBS := Lib.hid (hb.setCell (Nat.le_refl _) _ : Below w.heap.size w (wr.setCell ⟨w.heap.size, i, none⟩ (.int .u8 (n8 (sv ^^^ Gf.mul (at2 lm i k) (nth lv k))))))
          clear hr hb hrS
          go_wp2_with fail
          refine wp_region_still_tail 20 (by kernel_rfl) (by kernel_rfl) ?_
          simp only [List.take_succ_cons, List.take_zero, List.drop_succ_cons, List.drop_zero]
          repeat still_step
          still_call (refmul_q _ _ _)
          repeat still_step
          refine wpStill_nil ?_
          go_wp2
          go_roundw
          case rel => exact ⟨k + 1, by omega, by go_num, HBS.out.drew, HS.out.below (Below.refl _ _).drew⟩
          case measure => simp [intOf]; omega
        · obtain rfl : k = nv := by omega
          have HR6 := Lib.hid (hr.congr (fun r _ => by rw [partV_next]))
          have HB6 := Lib.hid hb
          clear hr hb
          go_wp2
          go_roundw
          case rel => exact ⟨i + 1, by omega, by go_num, HB6.out, HR6.out⟩
          case measure => simp [intOf]; omega
    · obtain rfl : i = nm := by omega
      have hr2 := hr.congr (g := fun r => .int .u8 (n8 (Gf.sm nv (fun k => Gf.mul (at2 lm r k) (nth lv k))))) (fun r hr' => by rw [partV_full _ _ _ _ hr'])
      have HP : Hid (VRes ((List.range i).map fun i => Gf.sm nv fun k => Gf.mul (at2 lm i k) (nth lv k)) 0 w (.returned (.tuple #[.slice (some ⟨w.heap.size, 0, none⟩) i i, .int .i64 0])) wr) :=
        Lib.hid ⟨⟨_, _, _, rfl, bs_row hr2 (by simp only [maxLen]; omega)⟩, hb⟩
      clear hr hb hr2
      go_wp2
      go_ret2
      exact HP.out
end Go.Proofs.Ytkecjgdmjhljnaa
