/- rs: the chapter's example. -/
import Derived.Test.YtppgbapfmijboaaRsJ
import Derived.Lib.SlBytesConst
set_option maxRecDepth 100000
set_option linter.unusedVariables false
namespace Go.Proofs.Ytppgbapfmijboaa
open Go.RowKit Go.Deep

theorem Mo.bss {w : World} {B n c C : Nat} {a : Option Addr} {bl cp : Nat → Nat} {Z : Nat → Nat → UInt8} (h : Mo w B a n c C bl cp Z) (hn : 0 < n) : Bss w a n c (mat n C Z) := by
  obtain ⟨g, rfl, hmy⟩ := h.my hn
  exact hmy.bss h.own.len.2.1 h.own.len.2.2
theorem MoP.bss {n C : Nat} {Z : Nat → Nat → UInt8} {w w' : World} {e : Ending} (h : MoP n C Z w e w') (hn : 0 < n) : (∃ a c, e = .returned (.slice a n c) ∧ Bss w' a n c (mat n C Z)) ∧ Below w.heap.size w w' := by
  obtain ⟨⟨a, c, bl, cp, h1, h2⟩, h3⟩ := h
  exact ⟨⟨a, c, h1, h2.bss hn⟩, h3⟩
theorem known_wd : Rs.wd 2 2 = 1 ∧ Rs.wd 2 0 = 1 := by decide
theorem known_enc : ∃ p, mat (2 + 1) (Rs.wd 2 2) (Rs.enc 2 1 [97, 98]) = [[97], [98], [p]] := ⟨Rs.enc 2 1 [97, 98] 2 0, by
  rw [known_wd.1]
  show [[Rs.enc 2 1 [97, 98] 0 0], [Rs.enc 2 1 [97, 98] 1 0], [Rs.enc 2 1 [97, 98] 2 0]] = _
  have e0 : Rs.enc 2 1 [97, 98] 0 0 = 97 := by decide
  have e1 : Rs.enc 2 1 [97, 98] 1 0 = 98 := by decide
  rw [e0, e1]⟩
theorem known_spl : mat 2 (Rs.wd 2 0) (Rs.spl (Rs.wd 2 0) []) = [[0], [0]] := by decide
set_option maxHeartbeats 4000000 in
theorem known_any (w : World) : Calls Try.prog 7 #[] w fun e w' => e = .returned (.bool true) ∧ Below w.heap.size w w' := by
  have kc := fun (w : World) (C : Array Value) (n c : Nat) => Lib.run_convert_bytes_const (P := Try.prog) w 22 5 C n c Try.underlying22 Try.underlying5
  go_enter Try.func7, Try.ntmps7
  go_wp2_with fail
  refine (new_any 2 1 w (by omega) (by omega)).mono ?_
  rintro e w1 ⟨⟨b, rfl, hc⟩, hb1⟩
  have HC := Lib.hid hc
  have HB1 := Lib.hid hb1
  clear hc hb1
  go_wp2_with fail
  obtain ⟨w2, hw2⟩ : ∃ w2, w1.alloc (.cells #[.int .u8 97, .int .u8 98] 5 (2, 3)) = w2 := ⟨_, rfl⟩
  have hlit : Bs w2 (some ⟨w1.heap.size, 0, none⟩) 2 2 [97, 98] := hw2 ▸ Bs.litAt [97, 98] (2, 3) rfl (by simp [maxLen])
  have hb2 : Below w1.heap.size w1 w2 := hw2 ▸ below_alloc w1 _
  have HC2 := Lib.hid (HC.out.below hb2)
  have HB2 := Lib.hid (HB1.out.trans (hb2.mono HB1.out.size))
  rw [hw2]
  clear hw2 hb2 HC HB1
  refine (encode_any b 2 1 _ _ _ [97, 98] w2 HC2.out hlit (by omega) (by omega) (by omega)).mono ?_
  rintro e w3 h
  obtain ⟨⟨a3, c3, rfl, h3⟩, hb3⟩ := h.bss (by omega)
  obtain ⟨p, hp⟩ := known_enc
  rw [hp] at h3
  have HC3 := Lib.hid (HC2.out.below hb3)
  have HB3 := Lib.hid (HB2.out.trans (hb3.mono HB2.out.size))
  have H3 := Lib.hid h3
  clear h h3 hp hb3 HC2 HB2 hlit
  go_wp2_with fail
  refine (split_any b 2 1 none 0 0 [] w3 HC3.out (Bs.nil w3) (by omega) (by omega) (by omega)).mono ?_
  rintro e w4 h
  obtain ⟨⟨a4, c4, rfl, h4⟩, hb4⟩ := h.bss (by omega)
  rw [known_spl] at h4
  have h34 := H3.out.below hb4
  have HB4 := Lib.hid (HB3.out.trans (hb4.mono HB3.out.size))
  obtain ⟨b0, o0, a0, n0, c0, rfl, d0, r0⟩ := h34.get (i := 0) (by omega)
  obtain ⟨b0', o0', a1, n1, c1, e1, d1, r1⟩ := h34.get (i := 1) (by omega)
  cases e1
  obtain ⟨b0', o0', a2, n2, c2, e1, d2, r2⟩ := h34.get (i := 2) (by omega)
  cases e1
  obtain ⟨b4, o4, a5, n5, c5, rfl, d5, r5⟩ := h4.get (i := 0) (by omega)
  have q0 := conv_bytes r0
  have q1 := conv_bytes r1
  obtain rfl : n0 = 1 := r0.1.symm
  obtain rfl : n1 = 1 := r1.1.symm
  obtain rfl : n2 = 1 := r2.1.symm
  obtain rfl : n5 = 1 := r5.1.symm
  rw [Nat.add_zero] at d0 d5
  rw [show nth [[97], [98], [p]] 0 = [97] from rfl] at q0
  rw [show nth [[97], [98], [p]] 1 = [98] from rfl] at q1
  have s0 : ((bstr [97]).toList == [97]) = true := by rw [bstr_toList]; rfl
  have s1 : ((bstr [98]).toList == [98]) = true := by rw [bstr_toList]; rfl
  clear h h4 h34 hb4 H3 r0 r1 r2 r5 HC3 HB3
  go_wp2
  go_ret
  exact ⟨rfl, HB4.out⟩
end Go.Proofs.Ytppgbapfmijboaa
