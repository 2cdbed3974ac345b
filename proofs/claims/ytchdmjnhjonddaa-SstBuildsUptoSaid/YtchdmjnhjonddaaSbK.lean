/- Sorted tables: the reference's Build. -/
import Derived.Test.YtchdmjnhjonddaaSbJ
set_option maxRecDepth 100000
set_option linter.unusedVariables false
set_option linter.unusedSimpArgs false
namespace Go.Proofs.Ytchdmjnhjonddaa
open Go.RowKit

theorem br_box {w : World} {k : Nat} (hk : k = w.heap.size) (b : Bk) : ∀ j v, (celR.f b)[j]? = some v → (w.alloc (.cells #[.int .i64 b.pos, .int .i64 b.len, .string (bstr b.first)] 97)).cell? ⟨k, j, none⟩ = some v := by
  subst hk
  intro j v hj
  have hh := heap_alloc_new w (.cells #[.int .i64 b.pos, .int .i64 b.len, .string (bstr b.first)] 97)
  exact (cell_of_row _ _ j _ _ _ hh).trans (by rw [← hj]; simp [celR])
def Sst.foot' (no n4 n : Nat) : List UInt8 := Codec.low 8 no ++ Codec.low 8 n4 ++ Codec.low 8 n
theorem foot'_len (a b c : Nat) : (Sst.foot' a b c).length = 24 := by unfold Sst.foot'; simp only [List.length_append, Codec.low_len]
set_option maxHeartbeats 8000000 in
theorem rending_any (B : Nat) (ao : Option Addr) (no co : Nat) (out : List UInt8) (ab : Option Addr) (nb cb : Nat) (bl : List Bk) (a : Option Addr) (n c : Nat) (l : List Ent) (w : World) (hB : B ≤ w.heap.size) (ho : Own w B ao no co out) (hbl : Rd celR w ab nb cb bl) (hok : BkOk bl) (hnb : nb ≤ 400) (hlen : l.length = n) (hl : ∀ W, Below B w W → Es W a n c l) (hkl : ∀ e ∈ l, e.key.length ≤ 1000000) (hn : n ≤ 400) (hno : no ≤ 150000) :
    Calls Try.prog 43 #[.slice ao no co, .slice ab nb cb, .slice a n c] w (RetB w B (out ++ Codec.frame (Sst.index bl) ++ Codec.frame (Sst.filter l) ++ (Sst.foot' no (out ++ Codec.frame (Sst.index bl)).length n ++ Codec.four (Codec.sum (Sst.foot' no (out ++ Codec.frame (Sst.index bl)).length n))))) := by
  have HL := Lib.hid hl
  have HIXL : Hid ((Sst.index bl).length ≤ 41000000) := Lib.hid (by
    have h1 := index_len hok bl.length (Nat.le_refl _)
    rw [List.take_length, hbl.1] at h1
    omega)
  have HFLN := Lib.hid (filter_len l (by rw [hlen]; omega))
  have HFRL := Lib.hid (frame_le (p := Sst.index bl) (by have := HIXL.out; omega))
  have HFRF := Lib.hid (frame_le (p := Sst.filter l) (by have := HFLN.out; omega))
  have HSX := Lib.hid (rindex_any B ab nb cb bl w hB hbl hok (by omega))
  have HSF := Lib.hid (fun W (he : Es W a n c l) => rfilter_any a n c l W he hkl (by omega))
  have HO := Lib.hid ho
  have HOL := Lib.hid (fun x (hx : ao = some x) => (ho.new x hx).2)
  have HON := Lib.hid ho.bs.1
  have HBZ := Lib.hid hB
  have HPST : Hid (∀ x, RetB w B (out ++ Codec.frame (Sst.index bl) ++ Codec.frame (Sst.filter l) ++ x) = RetB w B (out ++ Codec.frame (Sst.index bl) ++ Codec.frame (Sst.filter l) ++ x)) := Lib.hid (fun _ => rfl)
  have hle := (hl w (Below.refl _ _)).le.1
  clear ho hbl hok hl hkl HPST
  generalize Sst.index bl = IX at *
  generalize Sst.filter l = FI at *
  go_enter Try.func43, Try.ntmps43
  go_wp2_with fail
  refine HSX.out.mono ?_
  rintro en w3 ⟨a3, n3, c3, rfl, ho3, hb3⟩
  have HB3 := Lib.hid (hb3.mono hB)
  have HO3 := Lib.hid (HO.out.below hb3)
  have HI3 := Lib.hid ho3.bs
  have HNE3 := Lib.hid (fun y z (hy : a3 = some y) (hz : ao = some z) => (show y.block ≠ z.block by have h1 := (ho3.new y hy).1; have h2 := HOL.out z hz; omega))
  have hn3 : n3 ≤ 41000000 := by rw [← ho3.bs.1]; exact HIXL.out
  have hz3 : B ≤ w3.heap.size := Nat.le_trans hB hb3.size
  clear ho3 hb3 HSX
  go_wp2_with fail
  refine (refframe_e B ao a3 no co n3 c3 out IX w3 hz3 HO3.out.app HI3.out (fun _ => HNE3.out) ⟨by omega⟩).mono ?_
  rintro en w4 ⟨a4, n4, c4, rfl, ho4, hb4, _⟩
  have HB4 := Lib.hid (HB3.out.trans hb4)
  have HO4 := Lib.hid ho4
  have HN4 : Hid ((out ++ Codec.frame IX).length = n4) := Lib.hid ho4.bs.1
  have hn4 : n4 ≤ 42000000 := by
    have h1 := HN4.out
    have h2 := HFRL.out
    have h3 := HIXL.out
    have h4 := HON.out
    rw [List.length_append] at h1
    omega
  have hz4 : B ≤ w4.heap.size := Nat.le_trans hz3 hb4.size
  have HOL4 := Lib.hid (fun x (hx : a4 = some x) => (ho4.new x hx).2)
  clear ho4 hb4
  go_wp2_with fail
  refine (HSF.out w4 (HL.out w4 HB4.out)).mono ?_
  rintro en w5 ⟨a5, n5, c5, rfl, ho5, hb5⟩
  have HB5 := Lib.hid (HB4.out.trans (hb5.mono hz4))
  have HO5 := Lib.hid (HO4.out.below hb5)
  have HI5 := Lib.hid ho5.bs
  have HNE5 := Lib.hid (fun y z (hy : a5 = some y) (hz : a4 = some z) => (show y.block ≠ z.block by have h1 := (ho5.new y hy).1; have h2 := HOL4.out z hz; omega))
  have hn5 : n5 ≤ 1300 := by rw [← ho5.bs.1]; exact HFLN.out
  have hz5 : B ≤ w5.heap.size := Nat.le_trans hz4 hb5.size
  clear ho5 hb5 HSF
  go_wp2_with fail
  refine (refframe_e B a4 a5 n4 c4 n5 c5 _ FI w5 hz5 HO5.out.app HI5.out (fun _ => HNE5.out) ⟨by omega⟩).mono ?_
  rintro en w6 ⟨a6, n6, c6, rfl, ho6, hb6, _⟩
  have HB6 := Lib.hid (HB5.out.trans hb6)
  have HO6 := Lib.hid ho6
  have hn6 : n6 ≤ 43000000 := by
    have h1 := ho6.bs.1
    have h2 := HFRF.out
    have h3 := HFLN.out
    have h4 := HN4.out
    rw [List.length_append] at h1
    omega
  have hz6 : B ≤ w6.heap.size := Nat.le_trans hz5 hb6.size
  clear ho6 hb6
  go_wp2_with fail
  refine (reight_any w6.heap.size none 0 0 [] no w6 (Nat.le_refl _) (Own.nil _ _) (by omega) (by omega)).mono ?_
  rintro en w7 ⟨a7, n7, c7, rfl, ho7, hb7, _⟩
  rw [List.nil_append] at ho7
  have HE7 := Lib.hid ho7
  have HB7 := Lib.hid hb7
  have hn7 : n7 = 8 := by rw [← ho7.bs.1, Codec.low_len]
  clear ho7 hb7
  subst hn7
  go_wp2_with fail
  refine (reight_any w6.heap.size a7 8 c7 _ n4 w7 HB7.out.size HE7.out (by omega) (by omega)).mono ?_
  rintro en w8 ⟨a8, n8', c8, rfl, ho8, hb8, _⟩
  have HE8 := Lib.hid ho8
  have HB8 := Lib.hid (HB7.out.trans hb8)
  have hn8 : n8' = 16 := by rw [← ho8.bs.1, List.length_append, Codec.low_len, Codec.low_len]
  clear ho8 hb8
  subst hn8
  go_wp2_with fail
  refine (reight_any w6.heap.size a8 16 c8 _ n w8 HB8.out.size HE8.out (by omega) (by omega)).mono ?_
  rintro en w9 ⟨a9, n9, c9, rfl, ho9, hb9, _⟩
  have HE9 : Hid (Own w9 w6.heap.size a9 n9 c9 (Sst.foot' no n4 n)) := Lib.hid ho9
  have HB9 := Lib.hid (HB8.out.trans hb9)
  have hn9 : n9 = 24 := by rw [← HE9.out.bs.1]; exact foot'_len _ _ _
  clear ho9 hb9
  subst hn9
  go_wp2_with fail
  refine (refsum_any _ _ _ _ w9 HE9.out.bs).mono ?_
  rintro en w10 ⟨rfl, rfl⟩
  go_wp2_with fail
  refine (four_any w6.heap.size a9 24 c9 _ (Codec.sum (Sst.foot' no n4 n)) w9 HB9.out.size HE9.out (by omega)).mono ?_
  rintro en w11 ⟨a11, n11, c11, rfl, ho11, hb11, _⟩
  have HE11 := Lib.hid ho11.bs
  have HB11 := Lib.hid (HB9.out.trans hb11)
  have hn11 : n11 = 28 := by rw [← ho11.bs.1, List.length_append, foot'_len]; rfl
  have HO11 := Lib.hid (HO6.out.below HB11.out)
  have HB11W := Lib.hid (HB6.out.trans (HB11.out.mono hz6))
  have hz11 : B ≤ w11.heap.size := Nat.le_trans hz6 HB11.out.size
  clear ho11 hb11
  subst hn11
  go_wp2_with (at_builtin; refine app_own rfl _ _ rfl B rfl HO11.out rfl HE11.out (by omega) hz11 ?_; intro a12 c12 w12 h12 hb12 _; have HO12 := Lib.hid h12; have HB12 := Lib.hid (HB11W.out.trans hb12); clear h12 hb12)
  go_ret
  exact ⟨_, _, _, rfl, by rw [HN4.out]; exact HO12.out, HB12.out⟩
end Go.Proofs.Ytchdmjnhjonddaa
