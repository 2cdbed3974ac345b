/- The walk of RsLinear. -/
import Derived.Test.YtppgbapfmijboaaRsL
set_option maxRecDepth 100000
set_option linter.unusedVariables false
namespace Go.Proofs.Ytppgbapfmijboaa
open Go.RowKit Go.Deep

set_option maxHeartbeats 16000000 in
theorem rsLinear_walk (kk mm at_ : Int) (aa ab : Option Addr) (na ca nb cb : Nat) (la lb : List UInt8) (w : World) (ha : Bs w aa na ca la) (hb : Bs w ab nb cb lb)
    (hk : -9223372036854775808 ≤ kk ∧ kk ≤ 9223372036854775807) (hm : -9223372036854775808 ≤ mm ∧ mm ≤ 9223372036854775807) (hat : -9223372036854775808 ≤ at_ ∧ at_ ≤ 9223372036854775807) :
    Calls Try.prog 3 #[.int .i64 kk, .int .i64 mm, .slice aa na ca, .slice ab nb cb, .int .i64 at_] w fun e w' => e = .returned (.bool true) ∧ Below w.heap.size w w' := by
  have hna := ha.le.1
  have hnb := hb.le.1
  have hcb := hb.2.1
  have HA : Hid (∀ W, Below w.heap.size w W → Bs W aa na ca la) := Lib.hid fun W h => ha.below h
  have HB : Hid (∀ W, Below w.heap.size w W → Bs W ab nb cb lb) := Lib.hid fun W h => hb.below h
  have HLA := Lib.hid ha.1
  have HLB := Lib.hid hb.1
  have HAT := Lib.hid hat
  clear ha hb hat
  go_enter Try.func3, Try.ntmps3
  go_wp2_with fail
  refine (known_any _).mono ?_
  rintro e w1 ⟨rfl, hb1⟩
  have HW := Lib.hid hb1
  clear hb1
  by_cases f1 : kk < 1
  · have t1 : decide (kk < 1) = true := decide_eq_true f1
    clear f1 hk hm
    go_wp2
    go_ret
    exact ⟨rfl, HW.out⟩
  have t1 : decide (kk < 1) = false := decide_eq_false f1
  by_cases f2 : mm < 1
  · have t2 : decide (mm < 1) = true := decide_eq_true f2
    clear f1 f2 hk hm
    go_wp2
    go_ret
    exact ⟨rfl, HW.out⟩
  have t2 : decide (mm < 1) = false := decide_eq_false f2
  by_cases f3 : 12 < kk
  · have t3 : decide (12 < kk) = true := decide_eq_true f3
    clear f1 f2 f3 hk hm
    go_wp2
    go_ret
    exact ⟨rfl, HW.out⟩
  have t3 : decide (12 < kk) = false := decide_eq_false f3
  by_cases f4 : 12 < mm
  · have t4 : decide (12 < mm) = true := decide_eq_true f4
    clear f1 f2 f3 f4 hk hm
    go_wp2
    go_ret
    exact ⟨rfl, HW.out⟩
  have t4 : decide (12 < mm) = false := decide_eq_false f4
  by_cases f5 : 1000 < na
  · have t5 : decide ((1000 : Int) < (na : Int)) = true := decide_eq_true (by omega)
    clear f1 f2 f3 f4 f5 hk hm
    go_wp2
    go_ret
    exact ⟨rfl, HW.out⟩
  have t5 : decide ((1000 : Int) < (na : Int)) = false := decide_eq_false (by omega)
  by_cases f6 : nb < na
  · have t6 : decide ((nb : Int) < (na : Int)) = true := decide_eq_true (by omega)
    clear f1 f2 f3 f4 f5 hk hm
    go_wp2
    go_ret
    exact ⟨rfl, HW.out⟩
  have t6 : decide ((nb : Int) < (na : Int)) = false := decide_eq_false (by omega)
  obtain ⟨K, rfl⟩ : ∃ K : Nat, kk = (K : Int) := ⟨kk.toNat, by omega⟩
  obtain ⟨M, rfl⟩ : ∃ M : Nat, mm = (M : Int) := ⟨mm.toNat, by omega⟩
  have hK : 1 ≤ K ∧ K ≤ 12 ∧ 1 ≤ M ∧ M ≤ 12 := by omega
  have hna1 : na ≤ 1000 := by omega
  have hbb : na ≤ cb := by omega
  have hnab : na ≤ nb := by omega
  clear f1 f2 f3 f4 f5 f6 hk hm
  go_wp2_with fail
  clear t1 t2 t3 t4 t5 t6
  refine (new_any K M _ (by omega) (by omega)).mono ?_
  rintro e w2 ⟨⟨b, rfl, hc⟩, hb2⟩
  have HW2 := Lib.hid (HW.out.trans (hb2.mono HW.out.size))
  have HC2 : Hid (∀ W, Below w2.heap.size w2 W → Cod W b K M) := Lib.hid fun W h => hc.below h
  have HB2 : Hid (∀ W, Below w.heap.size w W → Bs W ab na cb (lb.take na)) := Lib.hid fun W h => (HB.out W h).take hnab
  have hsl := slice_h ab nb cb (hi := (na : Int)) (hi' := na) rfl hbb
  have hmk := run_make_row' (P := Try.prog) 22 5 (.int .u8 0) 1 Try.underlying22 info8 rfl .i64 .i64 na (by omega) (by omega)
  clear hc hb2 HW HB
  go_wp2_with fail
  clear hsl hmk
  generalize hLB : lb.take na = lc at *
  have hlc : lc.length = na := by rw [← hLB, List.length_take, HLB.out]; omega
  have HLC := Lib.hid hlc
  clear hLB HLB hlc
  have HR0 := Lib.hid ((rowTo.of_is (World.rowIs_made w2 (.int .u8 0) na 5)).congr (g := fun j => .int .u8 (n8 (if j < 0 then nth la j ^^^ nth lc j else 0))) (fun j _ => rfl))
  have HS0 := Lib.hid (below_alloc w2 (.cells (madeCells #[.int .u8 0] na) 5))
  go_loopw [14] (fun i wr => ∃ k : Nat, k ≤ na ∧ i = .int .i64 k ∧ Below w2.heap.size w2 wr ∧ rowTo wr w2.heap.size 5 na (fun j => .int .u8 (n8 (if j < k then nth la j ^^^ nth lc j else 0)))) (fun i _ => na - (intOf i).toNat)
  case atStart => exact ⟨0, Nat.zero_le _, rfl, HS0.out, HR0.out⟩
  case round =>
    clear HR0 HS0
    obtain ⟨k, hk, rfl, hb, hr⟩ := hrel
    have hwr : Below w.heap.size w wr := HW2.out.trans (hb.mono HW2.out.size)
    by_cases hlt : k < na
    · obtain ⟨b1, o1, rfl, d1⟩ := (HA.out wr hwr).byte hlt
      obtain ⟨b2, o2, rfl, d2⟩ := (HB2.out wr hwr).byte hlt
      have c3 := hr.cell hlt
      have c4 := hr.frozen k
      have HST := Lib.hid ((hr.set k (.int .u8 (n8 (nth la k ^^^ nth lc k)))).congr (g := fun j => .int .u8 (n8 (if j < k + 1 then nth la j ^^^ nth lc j else 0))) (fun j _ => by
        by_cases e : j = k
        · subst e; simp
        · by_cases e2 : j < k
          · simp [e, e2, show j < k + 1 by omega]
          · simp [e, e2, show ¬ j < k + 1 by omega]))
      have HBS : Hid (Below w2.heap.size w2 (wr.setCell ⟨w2.heap.size, k, none⟩ (.int .u8 (n8 (nth la k ^^^ nth lc k))))) := Lib.hid (hb.setCell (Nat.le_refl _) _)
      generalize nth la k = x at *
      generalize nth lc k = y at *
      clear hb hr hwr
      go_wp2_with fail
      go_still_tail 12, (by kernel_rfl)
      go_wp2
      go_roundw
      case rel => exact ⟨k + 1, by omega, by go_num, HBS.out.drew, HST.out.below (Below.refl _ _).drew⟩
      case measure => simp [intOf]; omega
    · obtain rfl : k = na := by omega
      obtain ⟨ls, hls⟩ : ∃ ls, (List.range k).map (fun j => nth la j ^^^ nth lc j) = ls := ⟨_, rfl⟩
      have hlen : ls.length = k := by rw [← hls]; simp
      have hat2 : ∀ j, j < k → nth ls j = nth la j ^^^ nth lc j := fun j hj => by rw [← hls, nth_map_range _ hj]
      have hsum : Bs wr (some ⟨w2.heap.size, 0, none⟩) k k ls := by
        rw [← hls]
        exact bs_row (hr.congr fun j hj => by rw [if_pos hj]) (by simp only [maxLen]; omega)
      have HSUM : Hid (∀ W, Below wr.heap.size wr W → Bs W (some ⟨w2.heap.size, 0, none⟩) k k ls) := Lib.hid fun W h => hsum.below h
      have HLS := Lib.hid hlen
      have HAT2 := Lib.hid hat2
      have HWR := Lib.hid hwr
      have HCR : Hid (∀ W, Below wr.heap.size wr W → Cod W b K M) := Lib.hid fun W h => HC2.out W (hb.trans (h.mono hb.size))
      clear hls hlen hat2 hsum hb hr hwr HC2
      go_wp2_with fail
      refine (encode_any b K M _ _ _ la wr (HCR.out _ (Below.refl _ _)) (HA.out _ HWR.out) hK.1 (by omega) (by omega)).mono ?_
      rintro e w3 h
      obtain ⟨⟨a3, c3, rfl, h3⟩, hb3⟩ := h.bss (by omega)
      have HX3 := Lib.hid h3
      have HB3 := Lib.hid hb3
      clear h h3 hb3
      go_wp2_with fail
      refine (encode_any b K M _ _ _ lc w3 (HCR.out _ HB3.out) (HB2.out _ (HWR.out.trans (HB3.out.mono HWR.out.size))) hK.1 (by omega) (by omega)).mono ?_
      rintro e w4 h
      obtain ⟨⟨a4, c4, rfl, h4⟩, hb4⟩ := h.bss (by omega)
      have HX4 := Lib.hid (HX3.out.below hb4)
      have HY4 := Lib.hid h4
      have HB4 := Lib.hid (HB3.out.trans (hb4.mono HB3.out.size))
      clear h h4 hb4 HX3 HB3
      go_wp2_with fail
      refine (encode_any b K M _ _ _ ls w4 (HCR.out _ HB4.out) (HSUM.out _ HB4.out) hK.1 (by omega) (by omega)).mono ?_
      rintro e w5 ⟨⟨a5, c5, bl, cp, rfl, hm5⟩, hb5⟩
      obtain ⟨g5, rfl, hmy⟩ := hm5.my (by omega)
      have HX5 := Lib.hid (HX4.out.below hb5)
      have HY5 := Lib.hid (HY4.out.below hb5)
      have HM5 := Lib.hid hmy
      have HLC5 := Lib.hid hm5.own.len.2
      have HB5 := Lib.hid (HB4.out.trans (hb5.mono HB4.out.size))
      have HBIG := Lib.hid hb5
      clear hm5 hb5 hmy HX4 HY4 HSUM
      have w1 := wd_pos K k
      have w2 := wd_few (n := k) hK.1
      have hWlen : Rs.wd K k ≤ 2000 := by
        have h5 : 1 * Rs.wd K k ≤ K * Rs.wd K k := Nat.mul_le_mul_right _ hK.1
        omega
      have HSAME : Hid (∀ i j, i < K + M → j < Rs.wd K k → Rs.enc K M la i j ^^^ Rs.enc K M lc i j = Rs.enc K M ls i j) := Lib.hid fun i j hi hj => enc_sum HLA.out HLC.out HLS.out HAT2.out hi hj
      go_wp2_with fail
      clear w2
      generalize hWW : Rs.wd K k = W at *
      go_loopw [18] (fun i wr => ∃ q : Nat, q ≤ K + M ∧ i = .int .i64 q ∧ Below w5.heap.size w5 wr) (fun i _ => K + M - (intOf i).toNat)
      case atStart => exact ⟨0, Nat.zero_le _, rfl, Below.refl _ _⟩
      case round =>
        obtain ⟨q, hq, rfl, hb⟩ := hrel
        by_cases hlt : q < K + M
        · have cz := HM5.out.top.cell hlt
          obtain ⟨bx, ox, ax, nx, cx, hex, dx, rx⟩ := HX5.out.get hlt
          obtain ⟨by_, oy, ay, ny, cy, hey, dy, ry⟩ := HY5.out.get hlt
          rw [mat_row hlt] at rx ry
          obtain rfl : nx = W := by have := rx.1; simp at this; omega
          obtain rfl : ny = nx := by have := ry.1; simp at this; omega
          subst hex
          subst hey
          have CZ := Lib.hid cz
          have DX := Lib.hid dx
          have DY := Lib.hid dy
          have RX := Lib.hid rx
          have RY := Lib.hid ry
          have HBQ := Lib.hid hb
          have RZ := Lib.hid (HM5.out.row q hlt).2.2
          have cz1 := cell_later hb cz
          clear cz dx dy rx ry hb
          go_wp2_with fail
          clear cz1
          go_loopw [19] (fun i wi => ∃ j : Nat, j ≤ ny ∧ i = .int .i64 j ∧ Below w5.heap.size w5 wi) (fun i _ => ny - (intOf i).toNat)
          case atStart => exact ⟨0, Nat.zero_le _, rfl, HBQ.out⟩
          case round =>
            clear HBQ
            obtain ⟨j, hj, rfl, hb⟩ := hrel
            have cz1 := cell_later hb CZ.out
            by_cases hlj : j < ny
            · have dx1 := cell_later hb DX.out
              have dy1 := cell_later hb DY.out
              obtain ⟨b1, o1, rfl, e1⟩ := (RX.out.below hb).byte hlj
              obtain ⟨b2, o2, rfl, e2⟩ := (RY.out.below hb).byte hlj
              have e3 := (RZ.out.below hb).cell hlj
              rw [nth_map_range _ hlj] at e1 e2
              have hs := HSAME.out q j hlt hlj
              generalize Rs.enc K M la q j = x at *
              generalize Rs.enc K M lc q j = y at *
              generalize Rs.enc K M ls q j = z at *
              have HB6 := Lib.hid hb
              clear hb
              have t1 : (n8 (x ^^^ y) != n8 z) = false := by rw [hs]; simp
              clear hs
              go_wp2_with fail
              refine wp_region_class (w0 := wr) (by kernel_rfl) (by kernel_rfl) (Below.refl _ _) ?_
              have l1 := BW.cell cz1
              have l2 := BW.cell dx1
              have l3 := BW.cell dy1
              have l4 := BW.cell e1
              have l5 := BW.cell e2
              have l6 := BW.cell e3
              repeat (first | go_big_quiet_step (fail))
              refine wpQuiet_nil ?_
              intro w7 hb7; replace hb7 := BW.of hb7
              clear l1 l2 l3 l4 l5 l6 cz1 dx1 dy1 e1 e2 e3
              have HB7 := Lib.hid (HB6.out.trans (hb7.mono HB6.out.size))
              clear hb7
              go_wp2
              go_roundw
              case rel => exact ⟨j + 1, by omega, by go_num, HB7.out⟩
              case measure => simp [intOf]; omega
            · obtain rfl : j = ny := by omega
              have HB6 := Lib.hid hb
              clear hb
              go_wp2
              go_roundw
              case rel => exact ⟨q + 1, by omega, by go_num, HB6.out⟩
              case measure => simp [intOf]; omega
        · obtain rfl : q = K + M := by omega
          clear HX5 HY5 HSAME
          have HCHK : Hid (∀ W : World, Below wr.heap.size wr W → True) := Lib.hid fun _ _ => trivial
          have hN0 : 0 < K + M := by omega
          have hN2 : K + M ≤ 24 := by omega
          have hbN : Below w5.heap.size w5 wr := hb
          have cz0 := cell_later hbN (HM5.out.top.cell hN0)
          have HMW := Lib.hid (HM5.out.below hbN)
          have HBW := Lib.hid hbN
          have HKM : Hid (K + M = K + M) := Lib.hid rfl
          have HFL : Hid (∀ r x, r < K + M → x < W → Rs.chkE K M (mat (K + M) W (Rs.flip (Rs.enc K M ls) r x)) = 0 ∧ Rs.chkB K M (mat (K + M) W (Rs.flip (Rs.enc K M ls) r x)) = false) := Lib.hid fun r x hr hx => by
            have := flip_found (K := K) (M := M) (r := r) (x := x) (d := ls) hK.1 hK.2.2.1 (by omega) hr (by rw [HLS.out, hWW]; exact hx)
            rwa [HLS.out, hWW] at this
          clear hb hbN HM5
          have hT1 : (K + M) * W ≤ 24 * 2000 := Nat.mul_le_mul hN2 hWlen
          have hT2 : 0 < (K + M) * W := Nat.mul_pos hN0 (by omega)
          have hTi : ((K + M : Nat) : Int) * (W : Int) = (((K + M) * W : Nat) : Int) := by simp
          clear HCHK
          generalize hNN : K + M = N at *
          have HNN := Lib.hid hNN
          clear hNN
          obtain ⟨T, hT⟩ : ∃ T, N * W = T := ⟨_, rfl⟩
          rw [hT] at hT1 hT2 hTi
          have hz1 : -(T : Int) < Int.tmod at_ T ∧ Int.tmod at_ T < T := by
            have h1 := Int.tmod_lt_of_pos at_ (show (0 : Int) < (T : Int) by omega)
            have h2 := Int.lt_tmod_of_pos at_ (show (0 : Int) < (T : Int) by omega)
            omega
          have hT0 : ¬ T = 0 := by omega
          generalize hzz : Int.tmod at_ T = z at *
          have HAA : ∃ A : Nat, A < T ∧ ((decide (z < 0) = true ∧ z + T = A) ∨ (decide (z < 0) = false ∧ z = A)) := by
            by_cases e : z < 0
            · exact ⟨(z + T).toNat, by omega, .inl ⟨decide_eq_true e, by omega⟩⟩
            · exact ⟨z.toNat, by omega, .inr ⟨decide_eq_false e, by omega⟩⟩
          obtain ⟨A, hAT, hA⟩ := HAA
          have hA1 : A / W < N := (Nat.div_lt_iff_lt_mul (by omega)).2 (by rw [hT]; exact hAT)
          have hA2 : A % W < W := Nat.mod_lt _ (by omega)
          have hW0 : ¬ W = 0 := by omega
          obtain ⟨r, hr⟩ : ∃ r, A / W = r := ⟨_, rfl⟩
          obtain ⟨x, hx⟩ : ∃ x, A % W = x := ⟨_, rfl⟩
          have hA6 : (A : Int) / (W : Int) = (r : Int) := by rw [← hr]; rfl
          have hA7 : Int.tmod (A : Int) (W : Int) = (x : Int) := by rw [← hx]; rfl
          rw [hr] at hA1
          rw [hx] at hA2
          clear hr hx
          have hr9 : IntKind.i64.wrap (r : Int) = (r : Int) := by rw [IntKind.wrap_i64]; omega
          have hx9 : IntKind.i64.wrap (x : Int) = (x : Int) := by rw [IntKind.wrap_i64]; omega
          have cA := HMW.out.top.cell hA1
          have cB := (HMW.out.row r hA1).2.2.cell hA2
          have cF := (HMW.out.row r hA1).2.2.frozen x
          have HST := Lib.hid (HMW.out.set hA1 x (Rs.enc K M ls r x ^^^ 0x5A))
          have HBS : Hid (Below _ _ (wr.setCell ⟨bl r, x, none⟩ (.int .u8 (n8 (Rs.enc K M ls r x ^^^ 0x5A))))) := Lib.hid ((HB5.out.trans (HBW.out.mono HB5.out.size)).setCell (Nat.le_trans HB4.out.size (HMW.out.row r hA1).1) _)
          have HFL1 := Lib.hid (HFL.out _ _ hA1 hA2)
          clear HFL
          generalize hv : Rs.enc K M ls r x = v at *
          have HV := Lib.hid hv
          clear hv
          have hz2 : -9223372036854775808 ≤ z := by omega
          rcases hA with ⟨hA3, hA4⟩ | ⟨hA3, rfl⟩
          all_goals
            go_wp2_with fail
            clear hA3 hzz hz1 hz2 hT2 hT0 hTi hAT
            try clear hA4
            go_still_tail 34, (by kernel_rfl)
            go_wp2_with fail
          all_goals
            rw [xor8_lit v 90 (by omega)]
            have hmy := (HST.out.congr (Y := Rs.flip (Rs.enc K M ls) r x) (fun i j _ _ => by unfold Rs.flip; rw [HV.out])).below (Below.refl _ _).drew
            have hbs := HBS.out.drew
            generalize (wr.setCell ⟨bl r, x, none⟩ (.int .u8 (n8 (v ^^^ 90)))).drew = w8 at *
            refine (check_any b K M _ _ _ _ w8 (HCR.out _ hbs) (hmy.bss (c := c5) HLC5.out.1 HLC5.out.2) hK.1 (by omega) (by omega) (fun i hi => by rw [mat_row hi]; simp; omega)).mono ?_
            rintro e w9 ⟨rfl, hb9⟩
            rw [HFL1.out.1, HFL1.out.2]
            have HB9 := Lib.hid ((HWR.out.trans (hbs.mono HWR.out.size)).trans (hb9.mono (Nat.le_trans HWR.out.size hbs.size)))
            have hno : ∀ (x : Bool) (w : World), (Op.unary .not (.bool x)).run Try.prog w = .ok (.bool (!x)) w := fun _ _ => rfl
            clear hmy hbs hb9 hr9 hx9 cz0 cA cB cF hA6 hA7 HST HBS
            go_wp2
            go_ret
            exact ⟨rfl, HB9.out⟩
end Go.Proofs.Ytppgbapfmijboaa
