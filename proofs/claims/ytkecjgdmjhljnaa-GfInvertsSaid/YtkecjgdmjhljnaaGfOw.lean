/- The walk of GfOwn. -/
import Derived.Test.YtkecjgdmjhljnaaGfMw
namespace Go.Proofs.Ytkecjgdmjhljnaa
open Go.RowKit Go.Deep

theorem inc8 (a : UInt8) : IntKind.u8.wrap (n8 a + 1) = n8 (a + 1) := by
  unfold n8; rw [IntKind.wrap_u8, UInt8.toNat_add]; rfl
@[go_sem] theorem inc8' (a : UInt8) : (n8 a + 1) % 256 = n8 (a + 1) := by rw [← inc8, IntKind.wrap_u8]
/-- What may be written over: rows of the call's own, or none. -/
def Mine (w : World) (B B' : Nat) (a : Option Addr) (n : Nat) : Prop := (a = none ∧ n = 0) ∨ ∃ g C bl cp Z, a = some ⟨g, 0, none⟩ ∧ My w B g n C bl cp Z ∧ g < B' ∧ ∀ i, i < n → bl i < B'
theorem Mine.onl {w w' : World} {B B' : Nat} {a : Option Addr} {n : Nat} {S : Nat → Prop} (h : Mine w B B' a n) (k : Onl w w' S) (hS : ∀ b, S b → b < B ∨ B' ≤ b) : Mine w' B B' a n := by
  rcases h with h | ⟨g, C, bl, cp, Z, h1, h2, h3, h4⟩
  · exact .inl h
  · exact .inr ⟨g, C, bl, cp, Z, h1, h2.onl k (fun e => by have := hS _ e; have := h2.base; omega) (fun i hi e => by have := hS _ e; have := (h2.row i hi).1; have := h4 i hi; omega), h3, h4⟩
theorem MOwn.mine {ls : List (List UInt8)} {er : Int} {w w' : World} {e : Ending} (h : MOwn ls er w e w') :
    ∃ a n c, e = .returned (.tuple #[.slice a n c, .int .i64 er]) ∧ Bss w' a n c ls ∧ Mine w' w.heap.size w'.heap.size a n ∧ Below w.heap.size w w' := by
  obtain ⟨⟨a, n, c, h1, h2, h3⟩, hb⟩ := h
  refine ⟨a, n, c, h1, h2, ?_, hb⟩
  rcases h3 with h3 | ⟨g, C, bl, cp, Z, h4, h5, _⟩
  · exact .inl h3
  · exact .inr ⟨g, C, bl, cp, Z, h4, h5, h5.top.lt, fun i hi => (h5.row i hi).2.2.lt⟩
set_option maxHeartbeats 2000000 in
theorem spoil_any (a : Option Addr) (n c B B' : Nat) (w : World) (hle : n ≤ 9223372036854775807) (h : Mine w B B' a n) :
    Calls Try.prog 32 #[.slice a n c] w fun e w' => e = .returned (.tuple #[]) ∧ Onl w w' (fun b => B ≤ b ∧ b < B') := by
  rcases h with ⟨rfl, rfl⟩ | ⟨g, C, bl, cp, Z, rfl, hm, _, hB'⟩
  · go_enter Try.func32, Try.ntmps32
    go_wp2_with fail
    go_loop [2] (fun i => i = .int .i64 0) (fun _ => 0)
    case atStart => rfl
    case round =>
      obtain rfl := hrel
      go_wp2
      go_end0
      exact ⟨rfl, Onl.refl _ _⟩
  · have HM := Lib.hid hm
    have HB := Lib.hid hB'
    clear hm hB'
    go_enter Try.func32, Try.ntmps32
    go_wp2_with fail
    go_loopw [2] (fun i wr => ∃ (k : Nat) (Y : Nat → Nat → UInt8), k ≤ n ∧ i = .int .i64 k ∧ Onl w wr (fun b => B ≤ b ∧ b < B') ∧ My wr B g n C bl cp Y) (fun i _ => n - (intOf i).toNat)
    case atStart => exact ⟨0, Z, Nat.zero_le _, rfl, Onl.refl _ _, HM.out⟩
    case round =>
      clear HM
      obtain ⟨k, Y, hk, rfl, hb, hm⟩ := hrel
      by_cases hlt : k < n
      · have HB1 := Lib.hid hb
        have HM1 := Lib.hid hm
        clear hb hm
        go_wp2_with fail
        go_loopw [3] (fun i wi => ∃ (j : Nat) (Y : Nat → Nat → UInt8), j ≤ C ∧ i = .int .i64 j ∧ Onl w wi (fun b => B ≤ b ∧ b < B') ∧ My wi B g n C bl cp Y) (fun i _ => C - (intOf i).toNat)
        case atStart => exact ⟨0, Y, Nat.zero_le _, rfl, HB1.out, HM1.out⟩
        case round =>
          clear HB1 HM1
          obtain ⟨j, X, hj, rfl, hb, hm⟩ := hrel
          have c1 := hm.top.cell hlt
          have hCb : C ≤ 9223372036854775807 := by have := hm.cap k hlt; simp only [maxLen] at this; omega
          by_cases hlj : j < C
          · have c2 := (hm.row k hlt).2.2.cell hlj
            have c3 := (hm.row k hlt).2.2.frozen j
            generalize hx : X k j = x at *
            have HS := Lib.hid (hm.set hlt j (x + 1))
            have HBS := Lib.hid (hb.set (a := ⟨bl k, j, none⟩) ⟨(hm.row k hlt).1, HB.out k hlt⟩ (.int .u8 (n8 (x + 1))))
            have e1 := inc8 x
            clear hm hb hx
            go_wp2_with fail
            go_still_tail 14, (by kernel_rfl)
            go_wp2
            go_roundw
            case rel => exact ⟨j + 1, _, by omega, by go_num, HBS.out.drew, HS.out.drew⟩
            case measure => simp [intOf]; omega
          · obtain rfl : j = C := by omega
            have HB2 := Lib.hid hb
            have HM2 := Lib.hid hm
            clear hb hm
            go_wp2
            go_roundw
            case rel => exact ⟨k + 1, X, by omega, by go_num, HB2.out, HM2.out⟩
            case measure => simp [intOf]; omega
      · obtain rfl : k = n := by omega
        have HP := Lib.hid hb
        clear hm hb
        go_wp2
        go_end0
        exact ⟨rfl, HP.out⟩
set_option maxHeartbeats 8000000 in
theorem gfOwn_walk (am an : Option Addr) (nm cm nn cn : Nat) (lm : List (List UInt8)) (ln : List Int) (w : World) (hm : Bss w am nm cm lm) (hn : Is w an nn cn ln) (hfm : tot lm + nm ≤ 1000000000) :
    Calls Try.prog 8 #[.slice am nm cm, .slice an nn cn] w fun e w' => e = .returned (.bool true) ∧ Below w.heap.size w w' := by
  have hlm := hm.le.1
  have hln := hn.le.1
  have HL := Lib.hid hm.1
  have HBm : Hid (∀ W, Below w.heap.size w W → Bss W am nm cm lm) := Lib.hid fun W h => hm.below h
  have HBn : Hid (∀ W, Below w.heap.size w W → Is W an nn cn ln) := Lib.hid fun W h => hn.below h
  have HE : Hid ((∀ k : Int, (k != k) = false) ∧ ∀ k : Int, (k == k) = true) := Lib.hid ⟨fun k => by simp, fun k => by simp⟩
  clear hm hn
  go_enter Try.func8, Try.ntmps8
  go_wp2_with fail
  refine (known_any _).mono ?_
  rintro e w1 ⟨rfl, hb1⟩
  have HB := Lib.hid hb1
  clear hb1
  by_cases f1 : tot lm + nm ≤ 2000
  case neg =>
    go_wp2_with (go_at_call 21; refine (few_no _ _ _ lm _ (HBm.out _ HB.out) hfm f1).mono ?_; rintro e w2 ⟨rfl, rfl⟩)
    go_ret
    exact ⟨rfl, HB.out⟩
  have H1 := Lib.hid (And.intro hfm f1)
  have hnm : nm ≤ 2000 := by omega
  by_cases f3 : 300 < nn
  · have t1 : decide ((300 : Int) < (nn : Int)) = true := decide_eq_true (by omega)
    clear f3 f1 hfm
    go_wp2_with (go_at_call 21; refine (few_yes _ _ _ lm _ (HBm.out _ HB.out) H1.out.1 H1.out.2).mono ?_; rintro e w2 ⟨rfl, rfl⟩)
    go_ret
    exact ⟨rfl, HB.out⟩
  have t1 : decide ((300 : Int) < (nn : Int)) = false := decide_eq_false (by omega)
  have hnn : nn ≤ 300 := by omega
  clear f3 f1 hfm
  go_wp2_with (go_at_call 21; refine (few_yes _ _ _ lm _ (HBm.out _ HB.out) H1.out.1 H1.out.2).mono ?_; rintro e w2 ⟨rfl, rfl⟩)
  clear t1
  have HB1 := HB
  go_loopw [5, 6] (fun v i wr => ∃ (k c : Nat) (a : Option Addr), k ≤ nm ∧ i = .int .i64 k ∧ v = .slice a k c ∧ Below w.heap.size w wr ∧ Acc wr w.heap.size a k c (lm.take k)) (fun _ i _ => nm - (intOf i).toNat)
  case atStart => exact ⟨0, 0, none, Nat.zero_le _, rfl, rfl, HB1.out, Acc.nil _ _⟩
  case round =>
    clear HB1 HB
    obtain ⟨k, c', a, hk, rfl, rfl, hb, hac⟩ := hrel
    by_cases hlt : k < nm
    · obtain ⟨b2, o2, ai, ni, ci, rfl, d2, hr⟩ := (HBm.out _ hb).get hlt
      have hfit : ni ≤ 2000 := by
        have h1 := tot_snoc lm (i := k) (by rw [HL.out]; exact hlt)
        have h2 := tot_le lm (k + 1)
        rw [hr.1] at h1
        have := H1.out.2
        omega
      have hts : lm.take (k + 1) = lm.take k ++ [nth lm k] := take_snoc lm (by rw [HL.out]; exact hlt)
      have HTS := Lib.hid hts
      have HA := Lib.hid hac
      have HB2 := Lib.hid hb
      have HR := Lib.hid (hr.below (below_alloc wr (.cells #[] 5)))
      have hwz := hb.size
      have d2' := cell_later (below_alloc wr (.cells #[] 5)) d2
      clear hac hb hr hts
      go_wp2_with (first | (at_builtin; refine app_own (l := []) rfl _ _ rfl wr.heap.size rfl (Own.lit wr wr.heap.size [] (Nat.le_refl _) (by simp [maxLen])) rfl HR.out (by simp; omega) (le_alloc (Nat.le_refl _)) ?_; intro a3 c3 w3 h3 hb3 _; simp only [List.length_nil, Nat.zero_add, List.nil_append] at h3; have hb4 := (below_alloc wr (.cells #[] 5)).trans hb3; have HN3 := Lib.hid h3; have HB4 := Lib.hid hb4; clear h3 hb3 hb4) | (at_builtin; refine app_acc rfl _ _ rfl w.heap.size rfl ((HA.out.below HB4.out).below (below_alloc w3 _)) rfl (box_new w3 _ _) (HN3.out.bs.below (below_alloc w3 _)) (fun _ x y hx hy e => by have h5 := (HN3.out.new x hx).1; have h6 := (HA.out.new y hy).2; omega) (by omega) (Nat.le_trans (Nat.le_trans hwz HB4.out.size) (by simp)) ?_; intro a' c' w' hm' hb'))
      have hb9 : Below w.heap.size w w' := (HB2.out.trans (HB4.out.mono HB2.out.size)).trans (((below_alloc w3 _).mono (Nat.le_trans hwz HB4.out.size)).trans hb')
      clear HA HB2 HB4 HN3
      go_wp2
      go_roundw
      case rel => exact ⟨k + 1, c', a', by omega, by go_num, rfl, hb9, by rw [HTS.out]; exact hm'⟩
      case measure => simp [intOf]; omega
    · obtain rfl : k = nm := by omega
      have e1 : lm.take k = lm := by rw [← HL.out, List.take_length]
      rw [e1] at hac
      have HA := Lib.hid hac.bss
      have HB := Lib.hid hb
      clear hac hb e1
      go_wp2_with fail
      refine (minv_any _ _ _ lm wr HA.out).mono ?_
      rintro e w2 hr
      obtain ⟨a2, n2, c2, rfl, h2, m2, hb2⟩ := hr.mine
      have hle2 := h2.le.1
      have HM2 := Lib.hid m2
      have HB2 := Lib.hid hb2
      clear hr h2 m2 hb2
      go_wp2_with fail
      refine (rows_any _ _ _ _ _ _ lm ln w2 (HA.out.below HB2.out) (HBn.out _ (HB.out.trans (HB2.out.mono HB.out.size))) (by omega)).mono ?_
      rintro e w3 hr
      obtain ⟨a3, n3, c3, rfl, h3, m3, hb3⟩ := hr.mine
      have hle3 := h3.le.1
      have HM3 := Lib.hid m3
      have HB3 := Lib.hid hb3
      clear hr h3 m3 hb3
      have HB23 := Lib.hid (HB2.out.trans (HB3.out.mono HB2.out.size))
      go_wp2_with fail
      refine (times_any _ _ _ _ _ _ lm lm w3 (HA.out.below HB23.out) (HA.out.below HB23.out)).mono ?_
      rintro e w4 hr
      obtain ⟨a4, n4, c4, rfl, h4, m4, hb4⟩ := hr.mine
      have hle4 := h4.le.1
      have HM4 := Lib.hid m4
      have HB4 := Lib.hid hb4
      clear hr h4 m4 hb4
      have HB24 := Lib.hid (HB23.out.trans (HB4.out.mono HB23.out.size))
      have hs2 := HB2.out.size
      have hs3 := HB3.out.size
      have hs4 := HB4.out.size
      go_wp2_with fail
      refine (spoil_any a2 n2 c2 wr.heap.size w2.heap.size w4 hle2 (HM2.out.onl (Onl.of_below (S := fun _ => False) (HB3.out.trans (HB4.out.mono hs3))) (fun b h => h.elim))).mono ?_
      rintro e w5 ⟨rfl, ho5⟩
      have HM3' := Lib.hid ((HM3.out.onl (Onl.of_below (S := fun _ => False) HB4.out) (fun b h => h.elim)).onl ho5 (fun b h => by omega))
      have HM4' := Lib.hid (HM4.out.onl ho5 (fun b h => by omega))
      have HO5 := Lib.hid ho5
      clear ho5 HM2 HM3 HM4
      go_wp2_with fail
      refine (spoil_any a3 n3 c3 w2.heap.size w3.heap.size w5 hle3 HM3'.out).mono ?_
      rintro e w6 ⟨rfl, ho6⟩
      have HM4'' := Lib.hid (HM4'.out.onl ho6 (fun b h => by omega))
      have HO6 := Lib.hid (HO5.out.mono (T := fun b => wr.heap.size ≤ b) (fun b h => h.1) |>.trans (ho6.mono (T := fun b => wr.heap.size ≤ b) (fun b h => by omega)))
      clear ho6 HM3' HM4'
      go_wp2_with fail
      refine (spoil_any a4 n4 c4 w3.heap.size w4.heap.size w6 hle4 HM4''.out).mono ?_
      rintro e w7 ⟨rfl, ho7⟩
      have HO7 := Lib.hid (HO6.out.trans (ho7.mono (T := fun b => wr.heap.size ≤ b) (fun b h => by omega)))
      have hb7 : Below wr.heap.size wr w7 := HB24.out.trans (HO7.out.below HB24.out.size (fun b h => h))
      have HB7 := Lib.hid hb7
      have HBw := Lib.hid (HB.out.trans (hb7.mono HB.out.size))
      clear ho7 hb7 HO5 HO6 HO7 HM4'' HB24 HB23 HB2 HB3 HB4 hle2 hle3 hle4 hs2 hs3 hs4
      go_wp2_with fail
      refine (same_yes _ _ _ _ _ _ _ _ (HA.out.below HB7.out) (HBm.out _ HBw.out)).mono ?_
      rintro e w8 ⟨rfl, hb8⟩
      have HB8 := Lib.hid (HB7.out.trans (hb8.mono HB7.out.size))
      have HBw8 := Lib.hid (HBw.out.trans (hb8.mono HBw.out.size))
      clear hb8 HB7 HBw
      go_wp2_with fail
      refine (rows_any _ _ _ _ _ _ lm ln w8 (HA.out.below HB8.out) (HBn.out _ HBw8.out) (by omega)).mono ?_
      rintro e w9 hr
      obtain ⟨⟨a9, n9, c9, rfl, h9⟩, hb9⟩ := hr.res
      have HA9 := Lib.hid h9
      have HB9 := Lib.hid (HBw8.out.trans (hb9.mono HBw8.out.size))
      clear hr h9 hb9
      go_wp2_with fail
      refine (refrows_any _ _ _ _ _ _ lm ln w9 (HBm.out _ HB9.out) (HBn.out _ HB9.out)).mono ?_
      rintro e w10 hr
      obtain ⟨⟨a10, n10, c10, rfl, h10⟩, hb10⟩ := hr.res
      have HA10 := Lib.hid (HA9.out.below hb10)
      have HC10 := Lib.hid h10
      have HB10 := Lib.hid (HB9.out.trans (hb10.mono HB9.out.size))
      have s1 := HE.out.2 (Gf.rowsE lm ln)
      clear hr h10 hb10 HA9 HB9
      go_wp2_with fail
      refine (same_yes _ _ _ _ _ _ _ _ HA10.out HC10.out).mono ?_
      rintro e w11 ⟨rfl, hb11⟩
      have HB11 := Lib.hid (HB10.out.trans (hb11.mono HB10.out.size))
      clear hb11 HB10 HA10 HC10
      go_wp2
      go_ret
      exact ⟨rfl, HB11.out⟩
end Go.Proofs.Ytkecjgdmjhljnaa
