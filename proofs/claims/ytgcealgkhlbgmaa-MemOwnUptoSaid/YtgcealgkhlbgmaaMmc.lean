/- The chapter's example. -/
import Derived.Test.YtgcealgkhlbgmaaMmb
import Derived.Lib.SlBytesConst
namespace Go.Proofs.Ytgcealgkhlbgmaa
open Go.RowKit
set_option linter.unusedVariables false

def kE1 : Ent := ⟨[97], 1, false, [120]⟩
def kE3 : Ent := ⟨[97], 3, true, []⟩
def kE2 : Ent := ⟨[98], 2, false, [121]⟩
theorem kl1 : Ent.lay [] kE1.laid = [kE1] := by decide +kernel
theorem kl2 : Ent.lay [kE1] kE3.laid = [kE3, kE1] := by decide +kernel
theorem kl3 : Ent.lay [kE3, kE1] kE2.laid = [kE3, kE1, kE2] := by decide +kernel
theorem kg1 : Ent.getAt [kE3, kE1, kE2] [97] 2 = some kE1 := by decide +kernel
theorem kg2 : Ent.getAt [kE3, kE1, kE2] [97] 9 = some kE3 := by decide +kernel
theorem kg3 : Ent.getAt [kE3, kE1, kE2] [99] 9 = none := by decide +kernel
theorem kc : Ent.costs [kE3, kE1, kE2] = 53 := by decide +kernel
theorem byte_lit (w : World) (z : Int) (b : UInt8) (h : z = n8 b) : Bs (w.alloc (.cells #[.int .u8 z] 5 (1, 2))) (some ⟨w.heap.size, 0, none⟩) 1 1 [b] := by subst h; exact Bs.litAt [b] (1, 2) rfl (by simp [maxLen])
theorem conv_lit (W : World) (z : Int) {k : Nat} (hk : k = W.heap.size) : (convert 28 28 (.slice (some ⟨k, 0, none⟩) 1 1)).run Try.prog (W.alloc (.cells #[.int .u8 z] 5)) = .ok (.slice (some ⟨k, 0, none⟩) 1 1) (W.alloc (.cells #[.int .u8 z] 5 (1, 2))) := by
  subst hk
  exact Lib.run_convert_bytes_const (P := Try.prog) W 28 5 #[.int .u8 z] 1 1 Try.underlying28 Try.underlying5
/-- Some table of the entries L. -/
def KT (B tb : Nat) (L : List Ent) (w : World) : Prop := ∃ bs hg hs, Tbl w B tb bs L hg hs [3, 1]
theorem KT.below {B tb : Nat} {L : List Ent} {w w' : World} (h : KT B tb L w) (hb : Below w.heap.size w w') : KT B tb L w' := by
  obtain ⟨bs, hg, hs, h⟩ := h
  exact ⟨bs, hg, hs, h.below hb⟩
def Smol (L : List Ent) : Prop := L.length ≤ 10 ∧ Ent.costs L ≤ 1000 ∧ ∀ e ∈ L, e.key.length ≤ 100 ∧ e.val.length ≤ 100
instance (L : List Ent) : Decidable (Smol L) := inferInstanceAs (Decidable (_ ∧ _))
theorem kput (B tb : Nat) (L L' : List Ent) (v : Ent) (va : Option Addr) (vc : Nat) (w : World) (h : KT B tb L w) (hv : Bs w va v.val.length vc v.val) (hs : Smol L) (hk : v.key.length ≤ 100) (hvl : v.val.length ≤ 100) (hl : Ent.lay L v.laid = L') (hB : B ≤ w.heap.size) :
    Calls Try.prog 11 #[.pointer (some ⟨tb, 0, none⟩), ev v va vc] w fun e w' => e = .returned (.tuple #[]) ∧ KT B tb L' w' ∧ Below B w w' := by
  obtain ⟨bs, hg, hh, h⟩ := h
  have hbs := h.bs
  refine (tlay_any B tb bs L hg hh [3, 1] v va vc w h hv (by have := hs.1; omega) (by omega) (by omega) (by have := hs.2.1; omega) (fun e he => by have := hs.2.2 e he; omega)).mono ?_
  rintro e w' ⟨bs', rfl, hkeep, _, hT⟩
  rw [hl] at hT
  exact ⟨rfl, ⟨_, _, _, hT⟩, hkeep.below (fun b hb => (hbs b hb).1) hB⟩
theorem kget (B tb : Nat) (L : List Ent) (key : List UInt8) (up : Nat) (o : Option Ent) (w : World) (h : KT B tb L w) (hs : Smol L) (ho : Ent.getAt L key up = o) :
    Calls Try.prog 20 #[.pointer (some ⟨tb, 0, none⟩), .string (bstr key), .int .u64 up] w (TGet w o) := by
  obtain ⟨bs, hg, hh, h⟩ := h
  rw [← ho]
  exact tget_any B tb bs L hg hh [3, 1] key up w h (fun e he => by have := hs.2.2 e he; omega)
set_option maxHeartbeats 4000000 in
theorem known_any (w : World) : Calls Try.prog 7 #[] w fun e w' => e = .returned (.bool true) ∧ Below w.heap.size w w' := by
  have hint : Is (w.alloc (.cells #[.int .i64 3, .int .i64 1] 3)) (some ⟨w.heap.size, 0, none⟩) 2 2 [3, 1] := by
    refine ⟨rfl, Nat.le_refl _, by simp [maxLen], fun j v hj => ⟨w.heap.size, 0, rfl, ?_⟩, fun z hz => ?_⟩
    · rw [Nat.zero_add, cell_of_row _ _ j _ _ _ (heap_alloc_new w _)]
      match j, hj with
      | 0, hj => exact hj
      | 1, hj => exact hj
      | j + 2, hj => simp [zv] at hj
    · simp at hz
      rcases hz with rfl | rfl <;> exact ⟨by decide, by decide⟩
  have HINT := Lib.hid hint
  clear hint
  go_enter Try.func7, Try.ntmps7
  go_wp2_with fail
  refine (tnew_any _ 2 2 [3, 1] _ HINT.out (by omega)).mono ?_
  rintro e w1 ⟨tb, bs, rfl, hT, hb1⟩
  have hb0 := below_alloc1 w (.cells #[.int .i64 3, .int .i64 1] 3)
  have HB1 := Lib.hid (hb0.trans (hb1.mono hb0.size))
  have HT1 : Hid (KT (w.heap.size + 1) tb [] w1) := Lib.hid ⟨bs, _, _, by have := hT; simpa using this⟩
  have hz1 : w.heap.size + 1 ≤ w1.heap.size := by have := hb1.size; simpa using this
  clear hT hb1 hb0
  have c1 := conv_lit w1 120 rfl
  go_wp2_with fail
  have hb := below_alloc1 w1 (.cells #[.int .u8 120] 5 (1, 2))
  have hp := kput _ tb [] [kE1] kE1 _ 1 _ (HT1.out.below hb) (byte_lit w1 120 120 rfl) (by decide) (by decide) (by decide) kl1 (Nat.le_trans hz1 hb.size)
  have HP := Lib.hid hp
  have HB1a := Lib.hid ((HB1.out.mono (Nat.le_refl _)).trans (hb.mono HB1.out.size))
  clear hp hb c1
  refine HP.out.mono ?_
  clear HP
  rintro e w2 ⟨rfl, hT2, hb2⟩
  have HT2 := Lib.hid hT2
  have HB2 := Lib.hid (HB1a.out.trans (hb2.mono (Nat.le_succ _)))
  have hz2 : w.heap.size + 1 ≤ w2.heap.size := by have := hb2.size; simp at this; omega
  clear hT2 hb2 HT1 HB1a HB1
  go_wp2_with fail
  have hp := kput _ tb [kE1] [kE3, kE1] kE3 none 0 _ HT2.out (Bs.nil _) (by decide +kernel) (by decide) (by decide) kl2 hz2
  have HP := Lib.hid hp
  clear hp
  refine HP.out.mono ?_
  clear HP
  rintro e w3 ⟨rfl, hT3, hb3⟩
  have HT3 := Lib.hid hT3
  have HB3 := Lib.hid (HB2.out.trans (hb3.mono (Nat.le_succ _)))
  have hz3 : w.heap.size + 1 ≤ w3.heap.size := Nat.le_trans hz2 hb3.size
  clear hT3 hb3 HT2 HB2
  have c1 := conv_lit w3 121 rfl
  go_wp2_with fail
  have hb := below_alloc1 w3 (.cells #[.int .u8 121] 5 (1, 2))
  have hp := kput _ tb [kE3, kE1] [kE3, kE1, kE2] kE2 _ 1 _ (HT3.out.below hb) (byte_lit w3 121 121 rfl) (by decide +kernel) (by decide) (by decide) kl3 (Nat.le_trans hz3 hb.size)
  have HP := Lib.hid hp
  have HB3a := Lib.hid (HB3.out.trans (hb.mono HB3.out.size))
  clear hp hb c1
  refine HP.out.mono ?_
  clear HP
  rintro e w4 ⟨rfl, hT4, hb4⟩
  have HT4 := Lib.hid hT4
  have HB4 := Lib.hid (HB3a.out.trans (hb4.mono (Nat.le_succ _)))
  have hz4 : w.heap.size + 1 ≤ w4.heap.size := by have := hb4.size; simp at this; omega
  clear hT4 hb4 HT3 HB3a HB3
  have hs : Hid (Smol [kE3, kE1, kE2]) := Lib.hid (by decide +kernel)
  go_wp2_with fail
  have HG := Lib.hid (kget _ tb _ [97] 2 _ w4 HT4.out hs.out kg1)
  refine HG.out.mono ?_
  clear HG
  rintro e w5 ⟨hb5, a5, c5, rfl, ho5⟩
  have hx5 := (load_box w5 kE1 a5 c5)
  have hbx := below_alloc1 w5 (.cells #[.string (bstr kE1.key), .int .u64 kE1.seq, .bool kE1.gone, .slice a5 kE1.val.length c5] 30)
  have HT5 := Lib.hid (HT4.out.below hb5)
  have HB5 := Lib.hid (HB4.out.trans (hb5.mono HB4.out.size))
  have HV5 := Lib.hid ho5.bs
  clear hb5 ho5 HT4 HB4
  simp only [ev]
  go_wp2_with fail
  have HG := Lib.hid (kget _ tb _ [97] 9 _ _ (HT5.out.below hbx) hs.out kg2)
  refine HG.out.mono ?_
  clear HG
  rintro e w6 ⟨hb6, a6, c6, rfl, ho6⟩
  have hbx6 := hbx.trans (hb6.mono hbx.size)
  have hx5' := hx5.below hb6
  have HT6 := Lib.hid (HT5.out.below hbx6)
  have HB6 := Lib.hid (HB5.out.trans (hbx6.mono HB5.out.size))
  have HV6 := Lib.hid (HV5.out.below hbx6)
  have hx6 := (load_box w6 kE3 a6 c6)
  have hby := below_alloc1 w6 (.cells #[.string (bstr kE3.key), .int .u64 kE3.seq, .bool kE3.gone, .slice a6 kE3.val.length c6] 30)
  clear hb6 ho6 hx5 hbx hbx6 HT5 HB5 HV5
  simp only [ev]
  go_wp2_with fail
  have HG := Lib.hid (kget _ tb _ [99] 9 _ _ (HT6.out.below hby) hs.out kg3)
  refine HG.out.mono ?_
  clear HG
  rintro e w7 ⟨hb7, rfl⟩
  have hby7 := hby.trans (hb7.mono hby.size)
  have hx7 := hx6.below hb7
  have hx8 := hx5'.below hby7
  have hbz := below_alloc1 w7 (.cells #[.string (bstr (default : Ent).key), .int .u64 (default : Ent).seq, .bool (default : Ent).gone, .slice none (default : Ent).val.length 0] 30)
  have HT7 := Lib.hid (HT6.out.below hby7)
  have HB7 := Lib.hid (HB6.out.trans (hby7.mono HB6.out.size))
  have HV7 := Lib.hid (HV6.out.below hby7)
  clear hb7 hx6 hx5' hby hby7 HT6 HB6 HV6
  simp only [ev]
  go_upto_region 10 with fail
  obtain ⟨W9, hW9⟩ : ∃ W9, w7.alloc (.cells #[.string (bstr (default : Ent).key), .int .u64 (default : Ent).seq, .bool (default : Ent).gone, .slice none (default : Ent).val.length 0] 30) = W9 := ⟨_, rfl⟩
  rw [hW9] at hbz
  have hx9 := hx7.below hbz
  have hx10 := hx8.below hbz
  have m1 : W9.cell? ⟨w5.heap.size, 1, none⟩ = some (.int .u64 1) := hx10.seq
  have m3 : W9.cell? ⟨w5.heap.size, 3, none⟩ = some (.slice a5 1 c5) := hx10.val
  have m2 : W9.cell? ⟨w6.heap.size, 2, none⟩ = some (.bool true) := hx9.gone
  have cv : (convert 28 9 (.slice a5 1 c5)).run Try.prog W9 = .ok (.string ⟨#[120]⟩) W9 := conv_bytes (HV7.out.below hbz)
  have HT9 := Lib.hid (HT7.out.below hbz)
  have HB9 := Lib.hid (HB7.out.trans (hbz.mono HB7.out.size))
  clear hx7 hx8 hx9 hx10 hbz HT7 HB7 HV7
  rw [hW9]
  clear hW9
  go_wp2_with fail
  obtain ⟨bs9, hg9, hs9, ht9⟩ := HT9.out
  refine (tlen_any _ _ _ _ _ _ _ _ ht9).mono ?_
  rintro e w10 ⟨rfl, hb10⟩
  have HT10 := Lib.hid (ht9.below hb10)
  have HB10 := Lib.hid (HB9.out.trans (hb10.mono HB9.out.size))
  clear ht9 hb10 HT9 HB9
  go_wp2_with fail
  refine (tsize_any _ _ _ _ _ _ _ _ HT10.out).mono ?_
  rintro e w11 ⟨rfl, hb11⟩
  have HB11 := Lib.hid (HB10.out.trans (hb11.mono HB10.out.size))
  rw [kc]
  clear hb11 HT10 HB10
  go_wp2
  go_ret
  exact ⟨rfl, HB11.out⟩
end Go.Proofs.Ytgcealgkhlbgmaa
