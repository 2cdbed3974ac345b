/- The chapter's example; rows that are held beside each other; few, small. -/
import Derived.Test.YtkbfefooaajhkaaDoorExT
import Derived.Lib.SlBytesConst
import Derived.BigQuiet
set_option maxRecDepth 100000
set_option linter.unusedVariables false
set_option linter.unusedSimpArgs false
namespace Go.Proofs.YtkbfefooaajhkaaDoor
open Go.RowKit

theorem keys_new (w : World) : KeysAt (w.alloc (.cells #[.slice none 0 0] 27)) w.heap.size [] := ⟨none, 0, 0, heap_alloc_new _ _, Ws.nil _⟩
theorem kn_key : bstr (Ex.key 7) = ⟨#[120, 48, 48, 48, 48, 48, 48, 48, 48, 48, 48, 48, 48, 48, 48, 48, 55]⟩ := by decide +kernel
theorem kn_ck : bstr (Ex.ck 7 1) = ⟨#[120, 48, 48, 48, 48, 48, 48, 48, 48, 48, 48, 48, 48, 48, 48, 48, 55, 45, 48, 48, 48, 48, 48, 48, 48, 49]⟩ := by decide +kernel
theorem kn_len : (Ex.make 7 [97, 98, 99] 2).length = 3 := by
  unfold Ex.make
  rw [List.length_cons, List.length_map, List.length_range]
  rfl
theorem kn_rd : Ex.rd (Kv.does [] (Ex.make 7 [97, 98, 99] 2)) 7 = ([97, 98, 99], 0) := by
  obtain ⟨h1, h2⟩ := make_holds [] 7 [97, 98, 99] 2 (by decide) (by decide) (by decide)
  exact whole_is h1 h2
theorem kn_part : Ex.part (Kv.does [] (Ex.make 7 [97, 98, 99] 2)) 7 1 3 = ([98, 99], 0) := by
  obtain ⟨h1, h2⟩ := make_holds [] 7 [97, 98, 99] 2 (by decide) (by decide) (by decide)
  exact part_is h1 1 3 (by decide) (by decide) (fun k _ hk => h2 k hk)
set_option maxHeartbeats 2000000 in
theorem known_any (w : World) (hL : Laid w) : Calls Tryd.prog 9 #[] w fun e w' => e = .returned (.bool true) ∧ Below w.heap.size w w' := by
  have kc := fun (w : World) (C : Array Value) (n c : Nat) => Lib.run_convert_bytes_const (P := Tryd.prog) w 22 5 C n c Tryd.underlying22 Tryd.underlying5
  have HLD := Lib.hid hL
  have HKN := Lib.hid kn_len
  have HRD := Lib.hid kn_rd
  have HPT := Lib.hid kn_part
  clear hL
  go_enter Tryd.func9, Tryd.ntmps9
  go_wp2_with fail
  refine (make_any 7 _ _ _ [97, 98, 99] 2 _ ⟨by decide⟩ (Bs.litAt [97, 98, 99] (3, 4) rfl (by simp [maxLen])) (by decide) (by decide) (by decide) (HLD.out.below (below_alloc1 _ _))).mono ?_
  rintro e w1 ⟨a1, n1, c1, rfl, hm1, hb1⟩
  have HB1 := Lib.hid ((below_alloc1 w _).trans (hb1.mono (le_alloc (Nat.le_refl _))))
  have hn1 : n1 = 3 := by rw [← hm1.len]; exact HKN.out
  subst hn1
  have HM1 := Lib.hid hm1
  generalize Ex.make 7 [97, 98, 99] 2 = ws at *
  clear hm1 hb1
  go_wp2_with fail
  have HB2 : Hid (Below w.heap.size w (w1.alloc (.cells #[.slice none 0 0] 27))) := Lib.hid (HB1.out.alloc HB1.out.size _)
  have HGE : Hid (w.heap.size ≤ w1.heap.size) := Lib.hid HB1.out.size
  refine (do_any w1.heap.size a1 3 c1 [] ws _ (keys_new w1) (HM1.out.acc.ws.below (below_alloc1 _ _)) (by decide)).mono ?_
  rintro e w3 ⟨rfl, hk3, ho3⟩
  have HB3 := Lib.hid (HB2.out.trans (ho3.below HB2.out.size (fun x hx => by cases hx; exact HGE.out)))
  have HK3 := Lib.hid hk3
  clear hk3 ho3
  go_wp2_with fail
  have HR := Lib.hid (read_any w1.heap.size 7 _ w3 ⟨by decide⟩ HK3.out (HLD.out.below HB3.out))
  unfold src at HR
  refine HR.out.mono ?_
  rw [HRD.out]
  rintro e w4 ⟨a4, n4, c4, rfl, ho4, hb4⟩
  dsimp only at ho4
  have hcv4 := conv_bytes ho4.bs
  have HO4 := Lib.hid ho4
  have HB4 := Lib.hid (HB3.out.trans (hb4.mono HB3.out.size))
  have HK4 := Lib.hid (HK3.out.below hb4)
  clear ho4 hb4 hcv4 HR
  go_wp2_with fail
  have HR := Lib.hid (part_any w1.heap.size 7 _ 1 3 w4 ⟨by decide⟩ HK4.out (HLD.out.below HB4.out) (by decide) (by decide))
  unfold src at HR
  refine HR.out.mono ?_
  rw [HPT.out]
  rintro e w5 ⟨a5, n5, c5, rfl, ho5, hb5⟩
  dsimp only at ho5
  have HB5 := Lib.hid (HB4.out.trans (hb5.mono HB4.out.size))
  have hcv5 := conv_bytes ho5.bs
  have hcv4 := conv_bytes (HO4.out.below hb5).bs
  have e1 : ((bstr [97, 98, 99]).toList == [97, 98, 99]) = true := by rw [bstr_toList]; rfl
  have e2 : ((bstr [98, 99]).toList == [98, 99]) = true := by rw [bstr_toList]; rfl
  clear ho5 hb5 HR
  go_wp2_with fail
  refine (key_any 7 ⟨by decide⟩ _ (HLD.out.below HB5.out)).mono ?_
  rintro e w6 ⟨rfl, hb6⟩
  rw [kn_key]
  have HB6 := Lib.hid (HB5.out.trans (hb6.mono HB5.out.size))
  clear hb6
  go_wp2_with fail
  refine (ck_any 7 1 ⟨by decide⟩ _ (HLD.out.below HB6.out)).mono ?_
  rintro e w7 ⟨rfl, hb7⟩
  rw [show Ex.low 1 = 1 from rfl, kn_ck]
  have HB7 := Lib.hid (HB6.out.trans (hb7.mono HB6.out.size))
  clear hb7
  go_wp2
  go_ret
  exact ⟨rfl, HB7.out⟩
end Go.Proofs.YtkbfefooaajhkaaDoor
