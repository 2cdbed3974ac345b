/- MemPlays. -/
import Derived.Test.YtgcealgkhlbgmaaMmm
import Derived.Test.YtgcealgkhlbgmaaReads3
namespace Go.Proofs.Ytgcealgkhlbgmaa
open Go.RowKit
set_option linter.unusedVariables false

/-- What a play holds of a list. -/
def Play (wo W : World) (tb rb : Nat) (ad : Option Addr) (nd cd : Nat) (ld : List Int) (L : List Ent) : Prop := ∃ hs, (∀ x ∈ hs, x ≤ 12) ∧ Duo wo W tb rb ad nd cd ld L L hs hs
theorem is_old {w : World} {a : Option Addr} {n c : Nat} {l : List Int} (h : Is w a n c l) (hn : 0 < n) : ∀ x, a = some x → x.block < w.heap.size := by
  intro x hx
  obtain ⟨b, off, rfl, hc⟩ := h.get hn
  cases hx
  exact World.block_lt_of_cell? _ _ hc
/-- An entry or none, as two values. -/
theorem TGet.two {W w' : World} {o : Option Ent} {e : Ending} (h : TGet W o e w') : Below W.heap.size W w' ∧ ∃ a c, e = .returned (.tuple #[ev (o.getD default) a c, .bool o.isSome]) ∧ Bs w' a (o.getD default).val.length c (o.getD default).val := by
  cases o with
  | none => exact ⟨h.1, none, 0, h.2, Bs.nil _⟩
  | some x => obtain ⟨hb, a, c, h1, h2⟩ := h; exact ⟨hb, a, c, h1, h2.bs⟩
theorem RNew.two {W w' : World} {o : Option Ent} {e : Ending} (h : RNew W o e w') : Below W.heap.size W w' ∧ ∃ a c, e = .returned (.tuple #[ev (o.getD default) a c, .bool o.isSome]) ∧ Bs w' a (o.getD default).val.length c (o.getD default).val := by
  cases o with
  | none => exact ⟨h.1, none, 0, h.2, Bs.nil _⟩
  | some x => obtain ⟨hb, a, c, h1, h2⟩ := h; exact ⟨hb, a, c, h1, h2⟩
theorem put_new {v0 w5 w6 : World} {g : Nat} {x : Ent} {a : Option Addr} {c : Nat} (hb : Below v0.heap.size v0 w6) (hg : v0.heap.size ≤ g) (hz : EntAt w6 g 0 default none 0) (h5 : Below w5.heap.size w5 w6) (hv : Bs w5 a x.val.length c x.val) :
    EntAt (put4 w6 g x a c) g 0 x a c ∧ Bs (put4 w6 g x a c) a x.val.length c x.val ∧ Below v0.heap.size v0 (put4 w6 g x a c) :=
  ⟨put4_at hz, (hv.below h5).keep ((Keep.refl [g] w6).put4 (.inr ⟨List.mem_singleton.2 rfl, hz⟩)),
   ((Keep.of_below (S := []) hb).put4 (e := x) (a := a) (c := c) (e' := default) (a' := none) (c' := 0) (.inl hg)).below (fun b h => by cases h) (Nat.le_refl _)⟩
set_option maxRecDepth 8000 in
set_option maxHeartbeats 3000000 in
theorem memPlays_walk (a1 al : Option Addr) (n1 c1 n c : Nat) (l1 : List Int) (l : List Ent) (key : List UInt8) (up : Nat) (w : World) (h1 : Is w a1 n1 c1 l1) (h : Es w al n c l) (hf : Ent.tot l + n ≤ 1000000000) (hsq : ∀ e ∈ l, e.seq ≤ 18446744073709551615) :
    Calls Try.prog 6 #[.slice a1 n1 c1, .slice al n c, .string (bstr key), .int .u64 up] w fun e w' => e = .returned (.bool true) ∧ Below w.heap.size w w' := by
  have hle := h.le.1
  have hle1 := h1.le.1
  have HN := Lib.hid h.1
  have HE := Lib.hid h
  have HI1 := Lib.hid h1
  have HF := Lib.hid hf
  have HSQ := Lib.hid hsq
  clear h h1 hf hsq
  go_enter Try.func6, Try.ntmps6
  go_wp2_with fail
  refine (known_any w).mono ?_
  rintro e w1 ⟨rfl, hb1⟩
  have HB1 := Lib.hid hb1
  have hw1 : w.heap.size ≤ w1.heap.size := hb1.size
  clear hb1
  go_wp2_with fail
  refine (efew_any al n c l 1000 w1 (HE.out.below HB1.out) HF.out (by omega)).mono ?_
  rintro e w2 ⟨rfl, q, rfl⟩
  have HB2 := Lib.hid (below_drewN HB1.out q)
  clear HB1
  cases hfew : decide (n ≤ 1000 ∧ Ent.tot l ≤ 131072) with
  | false =>
    clear hfew
    go_wp2
    go_ret
    exact ⟨rfl, HB2.out⟩
  | true =>
    have hfe := of_decide_eq_true hfew
    have HSM := Lib.hid (sm_of hfe.2 HSQ.out)
    have hn3 := hfe.1
    clear hfew hfe
    by_cases hm1 : 10000 < n1
    · have t1 : decide ((10000 : Int) < (n1 : Int)) = true := decide_eq_true (by omega)
      go_wp2
      go_ret
      exact ⟨rfl, HB2.out⟩
    have t1 : decide ((10000 : Int) < (n1 : Int)) = false := decide_eq_false (by omega)
    by_cases hm2 : 10000 < (bstr key).size
    · have t2 : decide ((10000 : Int) < ((bstr key).size : Int)) = true := decide_eq_true (by omega)
      go_wp2
      go_ret
      exact ⟨rfl, HB2.out⟩
    have t2 : decide ((10000 : Int) < ((bstr key).size : Int)) = false := decide_eq_false (by omega)
    obtain ⟨wo, hwo⟩ : ∃ wo, w1.drewN q = wo := ⟨_, rfl⟩
    rw [hwo] at HB2 ⊢
    clear hwo
    have hwo := HB2.out.size
    go_wp2_with fail
    refine (tnew_any a1 n1 c1 l1 wo (HI1.out.below HB2.out) (by omega)).mono ?_
    rintro e w4 ⟨tb, bs, rfl, hT, hb4⟩
    have HD4 : Hid (Duo wo (w4.alloc (.cells #[.slice a1 n1 c1, .slice none 0 0, .slice none 0 0, .int .i64 0] 43)) tb w4.heap.size a1 n1 c1 l1 [] [] [] []) := Lib.hid (by
      refine ⟨⟨bs, [w4.heap.size], hT.below (below_alloc1 _ _), RT.start ((HI1.out.below HB2.out).below hb4) hb4.size (is_old (HI1.out.below HB2.out)), fun b h1 h2 => ?_⟩, hb4.trans ((below_alloc1 _ _).mono hb4.size)⟩
      have := (hT.bs b h2).2
      have := List.mem_singleton.1 h1
      omega)
    clear hT hb4
    obtain ⟨rb, hrb⟩ : ∃ rb, rb = w4.heap.size := ⟨_, rfl⟩
    rw [← hrb] at HD4
    obtain ⟨W4, hW4⟩ : ∃ W4, w4.alloc (.cells #[.slice a1 n1 c1, .slice none 0 0, .slice none 0 0, .int .i64 0] 43) = W4 := ⟨_, rfl⟩
    rw [hW4] at HD4
    have HP4 : Hid (Play wo W4 tb rb a1 n1 c1 l1 []) := Lib.hid ⟨[], fun x hx => (by cases hx), HD4.out⟩
    go_wp2_with fail
    try rw [← hrb]
    try rw [hW4]
    clear hW4 hrb HD4
    go_loopw [11] (fun i wr => ∃ k : Nat, k ≤ n ∧ i = .int .i64 k ∧ Hid (Play wo wr tb rb a1 n1 c1 l1 (Ent.lays [] ((l.take k).map Ent.laid)))) (fun i _ => n - (intOf i).toNat)
    case atStart => exact ⟨0, Nat.zero_le _, rfl, HP4⟩
    case round =>
      obtain ⟨k, hk, rfl, hP⟩ := hrel
      by_cases hlt : k < n
      · obtain ⟨hs, hle, hD⟩ := hP.out
        obtain ⟨bx, ox, ax, cx, rfl, hex, hvx⟩ := (HE.out.below HB2.out).vals hlt
        have hN := HN.out
        have HNA : Hid (Ent.lays [] ((l.take (k + 1)).map Ent.laid) = Ent.lay (Ent.lays [] ((l.take k).map Ent.laid)) (nth l k).laid) := Lib.hid (by
          rw [List.take_succ_eq_append_getElem (by omega), List.map_append, List.map_cons, List.map_nil, lays_snoc, ← nth_eq _ (by omega)])
        have hLA := lays_len [] ((l.take k).map Ent.laid)
        rw [List.length_map, List.length_take] at hLA
        simp only [List.length_nil, Nat.zero_add] at hLA
        have hLs : ∀ e ∈ Ent.lays [] ((l.take k).map Ent.laid), Sm e := lays_sm (es := l.take k) (fun e he => HSM.out e (List.mem_of_mem_take he))
        have hLo : (Ent.lays [] ((l.take k).map Ent.laid)).Pairwise Ent.lt := lays_sorted List.Pairwise.nil
        have hsv : Sm (nth l k) := HSM.out _ (by rw [nth_eq _ (by omega)]; exact List.getElem_mem _)
        have hLN : ∀ e ∈ Ent.lays [] ((l.take (k + 1)).map Ent.laid), Sm e := lays_sm (es := l.take (k + 1)) (fun e he => HSM.out e (List.mem_of_mem_take he))
        have hLN2 := lays_len [] ((l.take (k + 1)).map Ent.laid)
        rw [List.length_map, List.length_take] at hLN2
        simp only [List.length_nil, Nat.zero_add] at hLN2
        obtain ⟨L, hL⟩ : ∃ L, L = Ent.lays [] ((l.take k).map Ent.laid) := ⟨_, rfl⟩
        obtain ⟨L', hL'⟩ : ∃ L', L' = Ent.lays [] ((l.take (k + 1)).map Ent.laid) := ⟨_, rfl⟩
        have HLK : Hid (L' = Ent.lays [] ((l.take (k + 1)).map Ent.laid)) := Lib.hid hL'
        rw [← hL, ← hL'] at HNA
        rw [← hL] at hLA hLs hLo hD
        rw [← hL'] at hLN hLN2
        clear hL hL'
        have HVX := Lib.hid hvx
        have HEX := Lib.hid hex
        have HSV := Lib.hid hsv
        have HLO := Lib.hid hLo
        have HLE := Lib.hid (layh_le (L := L) (v := (nth l k).laid) hle (tower_le l1 L.length))
        have HPA := Lib.hid (Duo.putT hD (nth l k) ax cx (hvx.below hD.below) (by omega) hLs hsv)
        have HL5 : Hid (L.length ≤ 10000) := Lib.hid (by omega)
        have HLN := Lib.hid hLN
        have HLN2 : Hid (L'.length ≤ 10000) := Lib.hid (by omega)
        have p1 := (hex.below hD.below).key
        have p2 := (hex.below hD.below).seq
        have p3 := (hex.below hD.below).gone
        have p4 := (hex.below hD.below).val
        clear hex hvx hLA hN hD hLs hLo hsv hLN hLN2 hP hle
        go_wp2_with fail
        unfold ev at HPA
        refine HPA.out.mono ?_
        rintro e w8 ⟨rfl, hD8⟩
        have HPR := Lib.hid (Duo.putR hD8 (nth l k) ax cx (HVX.out.below hD8.below) HL5.out HLO.out HSV.out)
        clear p1 p2 p3 p4 HPA
        have p1 := (HEX.out.below hD8.below).key
        have p2 := (HEX.out.below hD8.below).seq
        have p3 := (HEX.out.below hD8.below).gone
        have p4 := (HEX.out.below hD8.below).val
        clear hD8
        go_wp2_with fail
        unfold ev at HPR
        refine HPR.out.mono ?_
        rintro e w9 ⟨rfl, hD9⟩
        obtain ⟨hs', hhs⟩ : ∃ hs', hs' = Ent.layh L hs (nth l k).laid (tower l1 L.length) := ⟨_, rfl⟩
        rw [← hhs] at hD9 HLE
        rw [← HNA.out] at hD9
        have HD9 := Lib.hid hD9
        clear hD9 hhs p1 p2 p3 p4 HPR HNA HEX HVX HSV HLO HL5
        obtain ⟨aL, cL, k1, _⟩ := HD9.out.es
        obtain ⟨M, hM⟩ : ∃ M, M = maxs hs' := ⟨_, rfl⟩
        have HHT : Hid (∀ V : BW w9, Calls Try.prog 24 #[.pointer (some ⟨tb, 0, none⟩)] V.w fun e w' => e = .returned (.int .i64 M) ∧ Below V.w.heap.size V.w w') := Lib.hid fun V => by rw [hM]; exact (HD9.out.later V.b).heightT
        have HHR : Hid (∀ V : BW w9, Calls Try.prog 25 #[.pointer (some ⟨rb, 0, none⟩)] V.w fun e w' => e = .returned (.int .i64 M) ∧ Below V.w.heap.size V.w w') := Lib.hid fun V => by rw [hM]; exact (HD9.out.later V.b).heightR HLE.out
        clear hM
        obtain ⟨C, hC⟩ : ∃ C, C = Ent.costs L' := ⟨_, rfl⟩
        have HST : Hid (∀ V : BW w9, Calls Try.prog 15 #[.pointer (some ⟨tb, 0, none⟩)] V.w fun e w' => e = .returned (.int .i64 C) ∧ Below V.w.heap.size V.w w') := Lib.hid fun V => by rw [hC]; exact (HD9.out.later V.b).sizeT
        have HSR : Hid (∀ V : BW w9, Calls Try.prog 26 #[.pointer (some ⟨rb, 0, none⟩)] V.w fun e w' => e = .returned (.int .i64 C) ∧ Below V.w.heap.size V.w w') := Lib.hid fun V => by rw [hC]; exact (HD9.out.later V.b).sizeR HLN2.out HLN.out
        clear hC
        obtain ⟨m, hm⟩ : ∃ m, m = L'.length := ⟨_, rfl⟩
        rw [← hm] at k1
        have HLT : Hid (∀ V : BW w9, Calls Try.prog 14 #[.pointer (some ⟨tb, 0, none⟩)] V.w fun e w' => e = .returned (.int .i64 m) ∧ Below V.w.heap.size V.w w') := Lib.hid fun V => by rw [hm]; exact (HD9.out.later V.b).lens
        clear hm
        have tM : ((M : Int) != (M : Int)) = false := by simp
        have tC : ((C : Int) != (C : Int)) = false := by simp
        have tm : ((m : Int) != (m : Int)) = false := by simp
        go_upto_region 14 with fail
        refine wp_region_class (w0 := w9) (by kernel_rfl) (by kernel_rfl) (Below.refl _ _) ?_
        replace k1 := BW.cell k1
        repeat (first | go_big_quiet_step ((first | (go_at_call 24; exact calls_class (HHT.out _)) | (go_at_call 25; exact calls_class (HHR.out _)) | (go_at_call 14; exact calls_class (HLT.out _)) | (go_at_call 15; exact calls_class (HST.out _)) | (go_at_call 26; exact calls_class (HSR.out _)))))
        refine wpQuiet_nil ?_
        intro w10 hb10; replace hb10 := BW.of hb10
        have HP10 : Hid (Play wo w10 tb rb a1 n1 c1 l1 (Ent.lays [] ((l.take (k + 1)).map Ent.laid))) := Lib.hid ⟨hs', HLE.out, by rw [← HLK.out]; exact HD9.out.later hb10⟩
        clear hb10 k1 HHT HHR HST HSR HLT HD9 HLE HLK HLN HLN2
        go_wp2
        go_roundw
        case rel => exact ⟨k + 1, by omega, by go_num, HP10⟩
        case measure => simp [intOf]; omega
      · obtain rfl : k = n := by omega
        have hP2 := hP.out
        rw [List.take_of_length_le (by have := HN.out; omega)] at hP2
        have hLA := lays_len [] (l.map Ent.laid)
        rw [List.length_map] at hLA
        simp only [List.length_nil, Nat.zero_add] at hLA
        have hSA := lays_sm (es := l) HSM.out
        have hSO : (Ent.lays [] (l.map Ent.laid)).Pairwise Ent.lt := lays_sorted List.Pairwise.nil
        have hNl := HN.out
        obtain ⟨L, hL⟩ : ∃ L, L = Ent.lays [] (l.map Ent.laid) := ⟨_, rfl⟩
        rw [← hL] at hP2 hLA hSA hSO
        have HSA := Lib.hid hSA
        have HSO := Lib.hid hSO
        have HLk : Hid (L.length ≤ 10000) := Lib.hid (by omega)
        obtain ⟨hs, hle, hD⟩ := hP2
        obtain ⟨aL, cL, c0, hes⟩ := hD.es
        obtain ⟨vo, hvo⟩ : ∃ vo, vo = wr := ⟨_, rfl⟩
        subst hvo
        have HD := Lib.hid hD
        have HEV := Lib.hid ((HE.out.below HB2.out).below hD.below)
        have HES := Lib.hid hes
        have HBF := Lib.hid (HB2.out.trans (hD.below.mono hwo))
        clear hP hSA hSO hL hLA hNl hD hes hle HP4
        obtain ⟨nL, hnL⟩ : ∃ m, m = L.length := ⟨_, rfl⟩
        rw [← hnL] at c0 HES HLk
        have HNL := Lib.hid hnL
        clear hnL
        have HGT : Hid (∀ (V : BW vo) (kk : List UInt8) (uu : Nat), Calls Try.prog 20 #[.pointer (some ⟨tb, 0, none⟩), .string (bstr kk), .int .u64 uu] V.w (TGet V.w (Ent.getAt L kk uu))) := Lib.hid fun V kk uu => (HD.out.later V.b).get kk uu HSA.out
        have HGR : Hid (∀ (V : BW vo) (kk : List UInt8) (uu : Nat), Calls Try.prog 27 #[.slice aL nL cL, .string (bstr kk), .int .u64 uu] V.w (RNew V.w (Ent.getAt L kk uu))) := Lib.hid fun V kk uu => by
          have h9 := refnewest_any aL nL cL L kk uu V.w (HES.out.below V.b)
          rwa [firstAt_eq HSO.out] at h9
        go_wp2_with fail
        go_loopw [12, 13, 14, 15, 16] (fun i s13 s14 s15 s16 wr => ∃ j : Nat, j ≤ k ∧ i = .int .i64 j ∧ Hid (Below vo.heap.size vo wr)) (fun i _ _ _ _ _ => k - (intOf i).toNat)
        case atStart => exact ⟨0, Nat.zero_le _, rfl, Lib.hid (Below.refl _ _)⟩
        case round =>
          obtain ⟨j, hj, rfl, hbj⟩ := hrel
          go_upto_region 17 with fail
          go_cut [90] (fun t wx => t = .bool (decide (j < k ∧ j < 100)) ∧ wx = wr)
          case first =>
            by_cases h8 : j < k
            · by_cases h9 : j < 100
              · have e1 : decide ((j : Int) < (100 : Int)) = true := decide_eq_true (by omega)
                go_wp2
                go_meet
                exact ⟨by rw [decide_eq_true (show j < k ∧ j < 100 from ⟨h8, h9⟩)], rfl⟩
              · have e1 : decide ((j : Int) < (100 : Int)) = false := decide_eq_false (by omega)
                go_wp2
                go_meet
                exact ⟨by rw [decide_eq_false (fun h : j < k ∧ j < 100 => h9 h.2)], rfl⟩
            · go_wp2
              go_meet
              exact ⟨by rw [decide_eq_false (fun h : j < k ∧ j < 100 => h8 h.1)], rfl⟩
          case rest =>
          obtain ⟨rfl, hwx⟩ := hcut
          obtain rfl := hwx.symm
          clear hwx
          by_cases hjk : j < k ∧ j < 100
          · have tt : decide (j < k ∧ j < 100) = true := decide_eq_true hjk
            obtain ⟨bx, ox, ax, cx, rfl, hex, hvx⟩ := (HEV.out.below hbj.out).vals hjk.1
            have p1 := hex.key
            have p2 := hex.seq
            obtain ⟨kk, hkk⟩ : ∃ kk, kk = (nth l j).key := ⟨_, rfl⟩
            obtain ⟨uu, huu⟩ : ∃ uu, uu = (nth l j).seq := ⟨_, rfl⟩
            rw [← hkk] at p1
            rw [← huu] at p2
            obtain ⟨X, hX⟩ : ∃ X, X = (Ent.getAt L kk uu).getD default := ⟨_, rfl⟩
            obtain ⟨b, hb⟩ : ∃ b, b = (Ent.getAt L kk uu).isSome := ⟨_, rfl⟩
            have HG : Hid (∀ V : BW wr, Calls Try.prog 20 #[.pointer (some ⟨tb, 0, none⟩), .string (bstr kk), .int .u64 uu] V.w fun e w' => Below V.w.heap.size V.w w' ∧ ∃ a c, e = .returned (.tuple #[ev X a c, .bool b]) ∧ Bs w' a X.val.length c X.val) := Lib.hid fun V => by
              rw [hX, hb]
              exact (HGT.out ⟨V.w, hbj.out.trans (V.b.mono hbj.out.size)⟩ kk uu).mono fun e w' h => h.two
            have HR : Hid (∀ V : BW wr, Calls Try.prog 27 #[.slice aL nL cL, .string (bstr kk), .int .u64 uu] V.w fun e w' => Below V.w.heap.size V.w w' ∧ ∃ a c, e = .returned (.tuple #[ev X a c, .bool b]) ∧ Bs w' a X.val.length c X.val) := Lib.hid fun V => by
              rw [hX, hb]
              exact (HGR.out ⟨V.w, hbj.out.trans (V.b.mono hbj.out.size)⟩ kk uu).mono fun e w' h => h.two
            have q1 := cell_later hbj.out c0
            have HJ := Lib.hid hjk
            have hjk1 := hjk.1
            clear hex hvx hkk huu hX hb
            go_upto_region 19 with fail
            go_cut [13, 14] (fun p t wx => ∃ g a c, p = .pointer (some ⟨g, 0, none⟩) ∧ t = .bool b ∧ Hid (EntAt wx g 0 X a c ∧ Bs wx a X.val.length c X.val ∧ Below wr.heap.size wr wx))
            case first =>
              have hb0 := (Below.refl wr.heap.size wr).drew
              refine wp_region_steps [17] 17 17 (by kernel_rfl) (by kernel_rfl) rfl (fun W' => ∃ V : BW wr, W' = V.w) ?_
              refine anyT_pull [0, 1, 2, 3, 4, 5, 6, 7, 8, 9, 10] 17 6 (by intro c a d v w h; cases d <;> exact h) (by kernel_rfl) ⟨⟨wr.drew, hb0⟩, rfl⟩ ?_
              simp only [opsAt, List.filterMap_cons, List.filterMap_nil, List.getElem?_cons_zero, List.getElem?_cons_succ]
              iterate 11
                apply held_step
                · rfl
                · rintro _ ⟨V, rfl⟩
                  have m0 := BW.cell p1 V
                  have m1 := BW.cell p2 V
                  go_simp
                  rfl
              refine held_nil ?_
              refine anyT_two 11 15 rfl rfl (by kernel_rfl) rfl rfl (fun K hK => ?_) (fun K hK => ?_)
              · go_simp
                refine (HG.out ⟨wr.drew, hb0⟩).mono ?_
                rintro en w5 ⟨hb5, a, c, rfl, hv5⟩
                have hb5' : Below wr.heap.size wr w5 := hb0.trans (hb5.mono hb0.size)
                refine hK _ _ ⟨⟨w5, hb5'⟩, rfl⟩ ?_
                clear hK
                refine anyT_pull [12, 13, 14] 17 2 (by intro c a d v w h; cases d <;> exact h) (by kernel_rfl) ⟨⟨w5, hb5'⟩, rfl⟩ ?_
                simp only [opsAt, List.filterMap_cons, List.filterMap_nil, List.getElem?_cons_zero, List.getElem?_cons_succ]
                iterate 3
                  apply held_step
                  · rfl
                  · rintro _ ⟨V, rfl⟩
                    go_simp
                    rfl
                refine held_nil ?_
                refine anyT_one 15 rfl (by kernel_rfl) rfl (fun K hK => ?_)
                go_simp
                have h56 := below_alloc1 w5 (.cells #[.string ⟨#[]⟩, .int .u64 0, .bool false, .slice none 0 0] 30)
                have hb6 := hb5'.trans (h56.mono hb5'.size)
                have hz : EntAt (w5.alloc (.cells #[.string ⟨#[]⟩, .int .u64 0, .bool false, .slice none 0 0] 30)) w5.heap.size 0 default none 0 := load_box w5 default none 0
                have hff : ∀ j, (w5.alloc (.cells #[.string ⟨#[]⟩, .int .u64 0, .bool false, .slice none 0 0] 30)).frozen? ⟨w5.heap.size, j, none⟩ = false := fun j => (frozen?_alloc_cells _ _ _ _).trans (by simp [World.frozen?])
                have hg := hb5'.size
                refine hK _ _ ⟨⟨_, hb6⟩, rfl⟩ ?_
                clear hK
                obtain ⟨w6, hw6⟩ : ∃ w6, w5.alloc (.cells #[.string ⟨#[]⟩, .int .u64 0, .bool false, .slice none 0 0] 30) = w6 := ⟨_, rfl⟩
                rw [hw6] at hb6 hz hff h56 ⊢
                clear hw6
                have r0 : w6.cell? ⟨w5.heap.size, 0, none⟩ = some (.string ⟨#[]⟩) := hz.key
                have r1 : w6.cell? ⟨w5.heap.size, 1, none⟩ = some (.int .u64 0) := hz.seq
                have r2 : w6.cell? ⟨w5.heap.size, 2, none⟩ = some (.bool false) := hz.gone
                have r3 : w6.cell? ⟨w5.heap.size, 3, none⟩ = some (.slice none 0 0) := hz.val
                have HF := Lib.hid (put_new (x := X) (a := a) (c := c) hb6 hg hz h56 hv5)
                clear hz h56 hv5 hb6 hg
                refine anyT_one 16 rfl (by kernel_rfl) rfl (fun K hK => ?_)
                try unfold ev
                go_simp
                refine hK _ _ ⟨⟨_, HF.out.2.2⟩, rfl⟩ ?_
                clear hK
                refine anyT_done (by kernel_rfl) ?_
                simp only [opsAt, List.filterMap_cons, List.filterMap_nil, List.getElem?_cons_zero, List.getElem?_cons_succ]
                go_wp2
                go_meet
                exact ⟨w5.heap.size, a, c, rfl, rfl, HF⟩
              · go_simp
                have hba : Below wr.heap.size wr (wr.alloc (.cells #[.string ⟨#[]⟩, .int .u64 0, .bool false, .slice none 0 0] 30)).drew := (below_alloc1 wr (.cells #[.string ⟨#[]⟩, .int .u64 0, .bool false, .slice none 0 0] 30)).drew
                have hz0 : EntAt (wr.alloc (.cells #[.string ⟨#[]⟩, .int .u64 0, .bool false, .slice none 0 0] 30)).drew wr.heap.size 0 default none 0 := EntAt.below (load_box wr default none 0) ((Below.refl _ _).drew)
                have hff0 : ∀ j, (wr.alloc (.cells #[.string ⟨#[]⟩, .int .u64 0, .bool false, .slice none 0 0] 30)).drew.frozen? ⟨wr.heap.size, j, none⟩ = false := fun j => (frozen?_alloc_cells wr _ _ _).trans (by simp [World.frozen?])
                have hsz0 : (wr.alloc (.cells #[.string ⟨#[]⟩, .int .u64 0, .bool false, .slice none 0 0] 30)).drew.heap.size = wr.heap.size + 1 := World.size_alloc wr _
                refine hK _ _ ⟨⟨_, hba⟩, rfl⟩ ?_
                clear hK
                obtain ⟨w6, hw6⟩ : ∃ w6, (wr.alloc (.cells #[.string ⟨#[]⟩, .int .u64 0, .bool false, .slice none 0 0] 30)).drew = w6 := ⟨_, rfl⟩
                rw [hw6] at hba hz0 hff0 hsz0 ⊢
                clear hw6
                refine anyT_one 11 rfl (by kernel_rfl) rfl (fun K hK => ?_)
                go_simp
                refine (HG.out ⟨w6, hba⟩).mono ?_
                rintro en w5 ⟨hb5, a, c, rfl, hv5⟩
                have hb5' : Below wr.heap.size wr w5 := hba.trans (hb5.mono hba.size)
                have hff : ∀ j, w5.frozen? ⟨wr.heap.size, j, none⟩ = false := fun j => (hb5.frozen (p := ⟨wr.heap.size, j, none⟩) (by show wr.heap.size < _; rw [hsz0]; exact Nat.lt_succ_self _)).trans (hff0 j)
                have hz := hz0.below hb5
                refine hK _ _ ⟨⟨w5, hb5'⟩, rfl⟩ ?_
                clear hK
                refine anyT_pull [12, 13, 14] 17 1 (by intro c a d v w h; cases d <;> exact h) (by kernel_rfl) ⟨⟨w5, hb5'⟩, rfl⟩ ?_
                simp only [opsAt, List.filterMap_cons, List.filterMap_nil, List.getElem?_cons_zero, List.getElem?_cons_succ]
                iterate 3
                  apply held_step
                  · rfl
                  · rintro _ ⟨V, rfl⟩
                    go_simp
                    rfl
                refine held_nil ?_
                have hb6 := hb5'
                have h56 := Below.refl w5.heap.size w5
                have hg := Nat.le_refl wr.heap.size
                clear hz0 hff0 hsz0 hba hb5 hb5'
                have r0 : w5.cell? ⟨wr.heap.size, 0, none⟩ = some (.string ⟨#[]⟩) := hz.key
                have r1 : w5.cell? ⟨wr.heap.size, 1, none⟩ = some (.int .u64 0) := hz.seq
                have r2 : w5.cell? ⟨wr.heap.size, 2, none⟩ = some (.bool false) := hz.gone
                have r3 : w5.cell? ⟨wr.heap.size, 3, none⟩ = some (.slice none 0 0) := hz.val
                have HF := Lib.hid (put_new (x := X) (a := a) (c := c) hb6 hg hz h56 hv5)
                clear hz h56 hv5 hb6 hg
                refine anyT_one 16 rfl (by kernel_rfl) rfl (fun K hK => ?_)
                try unfold ev
                go_simp
                refine hK _ _ ⟨⟨_, HF.out.2.2⟩, rfl⟩ ?_
                clear hK
                refine anyT_done (by kernel_rfl) ?_
                simp only [opsAt, List.filterMap_cons, List.filterMap_nil, List.getElem?_cons_zero, List.getElem?_cons_succ]
                go_wp2
                go_meet
                exact ⟨wr.heap.size, a, c, rfl, rfl, HF⟩
            case rest =>
              obtain ⟨wd, hwd⟩ : ∃ wd, wd = wc := ⟨_, rfl⟩
              subst hwd
              obtain ⟨g1, ag, cg, rfl, rfl, HX1⟩ := hcut
              replace p1 := cell_later HX1.out.2.2 p1
              replace p2 := cell_later HX1.out.2.2 p2
              replace q1 := cell_later HX1.out.2.2 q1
              have HR2 : Hid (∀ V : BW wd, Calls Try.prog 27 #[.slice aL nL cL, .string (bstr kk), .int .u64 uu] V.w fun e w' => Below V.w.heap.size V.w w' ∧ ∃ a c, e = .returned (.tuple #[ev X a c, .bool b]) ∧ Bs w' a X.val.length c X.val) := Lib.hid fun V => HR.out ⟨V.w, HX1.out.2.2.trans (V.b.mono HX1.out.2.2.size)⟩
              clear HG HR
              go_upto_region 20 with fail
              go_cut [15, 16] (fun p t wx => ∃ g a c, p = .pointer (some ⟨g, 0, none⟩) ∧ t = .bool b ∧ Hid (EntAt wx g 0 X a c ∧ Bs wx a X.val.length c X.val ∧ Below wd.heap.size wd wx))
              case first =>
                have hb0 := (Below.refl wd.heap.size wd).drew
                refine wp_region_steps [20] 20 20 (by kernel_rfl) (by kernel_rfl) rfl (fun W' => ∃ V : BW wd, W' = V.w) ?_
                refine anyT_pull [0, 1, 2, 3, 4, 5, 6, 7, 8, 9, 10, 11, 12, 13] 20 6 (by intro c a d v w h; cases d <;> exact h) (by kernel_rfl) ⟨⟨wd.drew, hb0⟩, rfl⟩ ?_
                simp only [opsAt, List.filterMap_cons, List.filterMap_nil, List.getElem?_cons_zero, List.getElem?_cons_succ]
                iterate 14
                  apply held_step
                  · rfl
                  · rintro _ ⟨V, rfl⟩
                    have m0 := BW.cell q1 V
                    have m1 := BW.cell p1 V
                    have m2 := BW.cell p2 V
                    go_simp
                    rfl
                refine held_nil ?_
                refine anyT_two 14 18 rfl rfl (by kernel_rfl) rfl rfl (fun K hK => ?_) (fun K hK => ?_)
                · go_simp
                  refine (HR2.out ⟨wd.drew, hb0⟩).mono ?_
                  rintro en w5 ⟨hb5, a, c, rfl, hv5⟩
                  have hb5' : Below wd.heap.size wd w5 := hb0.trans (hb5.mono hb0.size)
                  refine hK _ _ ⟨⟨w5, hb5'⟩, rfl⟩ ?_
                  clear hK
                  refine anyT_pull [15, 16, 17] 20 2 (by intro c a d v w h; cases d <;> exact h) (by kernel_rfl) ⟨⟨w5, hb5'⟩, rfl⟩ ?_
                  simp only [opsAt, List.filterMap_cons, List.filterMap_nil, List.getElem?_cons_zero, List.getElem?_cons_succ]
                  iterate 3
                    apply held_step
                    · rfl
                    · rintro _ ⟨V, rfl⟩
                      go_simp
                      rfl
                  refine held_nil ?_
                  refine anyT_one 18 rfl (by kernel_rfl) rfl (fun K hK => ?_)
                  go_simp
                  have h56 := below_alloc1 w5 (.cells #[.string ⟨#[]⟩, .int .u64 0, .bool false, .slice none 0 0] 30)
                  have hb6 := hb5'.trans (h56.mono hb5'.size)
                  have hz : EntAt (w5.alloc (.cells #[.string ⟨#[]⟩, .int .u64 0, .bool false, .slice none 0 0] 30)) w5.heap.size 0 default none 0 := load_box w5 default none 0
                  have hff : ∀ j, (w5.alloc (.cells #[.string ⟨#[]⟩, .int .u64 0, .bool false, .slice none 0 0] 30)).frozen? ⟨w5.heap.size, j, none⟩ = false := fun j => (frozen?_alloc_cells _ _ _ _).trans (by simp [World.frozen?])
                  have hg := hb5'.size
                  refine hK _ _ ⟨⟨_, hb6⟩, rfl⟩ ?_
                  clear hK
                  obtain ⟨w6, hw6⟩ : ∃ w6, w5.alloc (.cells #[.string ⟨#[]⟩, .int .u64 0, .bool false, .slice none 0 0] 30) = w6 := ⟨_, rfl⟩
                  rw [hw6] at hb6 hz hff h56 ⊢
                  clear hw6
                  have r0 : w6.cell? ⟨w5.heap.size, 0, none⟩ = some (.string ⟨#[]⟩) := hz.key
                  have r1 : w6.cell? ⟨w5.heap.size, 1, none⟩ = some (.int .u64 0) := hz.seq
                  have r2 : w6.cell? ⟨w5.heap.size, 2, none⟩ = some (.bool false) := hz.gone
                  have r3 : w6.cell? ⟨w5.heap.size, 3, none⟩ = some (.slice none 0 0) := hz.val
                  have HF := Lib.hid (put_new (x := X) (a := a) (c := c) hb6 hg hz h56 hv5)
                  clear hz h56 hv5 hb6 hg
                  refine anyT_one 19 rfl (by kernel_rfl) rfl (fun K hK => ?_)
                  try unfold ev
                  go_simp
                  refine hK _ _ ⟨⟨_, HF.out.2.2⟩, rfl⟩ ?_
                  clear hK
                  refine anyT_done (by kernel_rfl) ?_
                  simp only [opsAt, List.filterMap_cons, List.filterMap_nil, List.getElem?_cons_zero, List.getElem?_cons_succ]
                  go_wp2
                  go_meet
                  exact ⟨w5.heap.size, a, c, rfl, rfl, HF⟩
                · go_simp
                  have hba : Below wd.heap.size wd (wd.alloc (.cells #[.string ⟨#[]⟩, .int .u64 0, .bool false, .slice none 0 0] 30)).drew := (below_alloc1 wd (.cells #[.string ⟨#[]⟩, .int .u64 0, .bool false, .slice none 0 0] 30)).drew
                  have hz0 : EntAt (wd.alloc (.cells #[.string ⟨#[]⟩, .int .u64 0, .bool false, .slice none 0 0] 30)).drew wd.heap.size 0 default none 0 := EntAt.below (load_box wd default none 0) ((Below.refl _ _).drew)
                  have hff0 : ∀ j, (wd.alloc (.cells #[.string ⟨#[]⟩, .int .u64 0, .bool false, .slice none 0 0] 30)).drew.frozen? ⟨wd.heap.size, j, none⟩ = false := fun j => (frozen?_alloc_cells wd _ _ _).trans (by simp [World.frozen?])
                  have hsz0 : (wd.alloc (.cells #[.string ⟨#[]⟩, .int .u64 0, .bool false, .slice none 0 0] 30)).drew.heap.size = wd.heap.size + 1 := World.size_alloc wd _
                  refine hK _ _ ⟨⟨_, hba⟩, rfl⟩ ?_
                  clear hK
                  obtain ⟨w6, hw6⟩ : ∃ w6, (wd.alloc (.cells #[.string ⟨#[]⟩, .int .u64 0, .bool false, .slice none 0 0] 30)).drew = w6 := ⟨_, rfl⟩
                  rw [hw6] at hba hz0 hff0 hsz0 ⊢
                  clear hw6
                  refine anyT_one 14 rfl (by kernel_rfl) rfl (fun K hK => ?_)
                  go_simp
                  refine (HR2.out ⟨w6, hba⟩).mono ?_
                  rintro en w5 ⟨hb5, a, c, rfl, hv5⟩
                  have hb5' : Below wd.heap.size wd w5 := hba.trans (hb5.mono hba.size)
                  have hff : ∀ j, w5.frozen? ⟨wd.heap.size, j, none⟩ = false := fun j => (hb5.frozen (p := ⟨wd.heap.size, j, none⟩) (by show wd.heap.size < _; rw [hsz0]; exact Nat.lt_succ_self _)).trans (hff0 j)
                  have hz := hz0.below hb5
                  refine hK _ _ ⟨⟨w5, hb5'⟩, rfl⟩ ?_
                  clear hK
                  refine anyT_pull [15, 16, 17] 20 1 (by intro c a d v w h; cases d <;> exact h) (by kernel_rfl) ⟨⟨w5, hb5'⟩, rfl⟩ ?_
                  simp only [opsAt, List.filterMap_cons, List.filterMap_nil, List.getElem?_cons_zero, List.getElem?_cons_succ]
                  iterate 3
                    apply held_step
                    · rfl
                    · rintro _ ⟨V, rfl⟩
                      go_simp
                      rfl
                  refine held_nil ?_
                  have hb6 := hb5'
                  have h56 := Below.refl w5.heap.size w5
                  have hg := Nat.le_refl wd.heap.size
                  clear hz0 hff0 hsz0 hba hb5 hb5'
                  have r0 : w5.cell? ⟨wd.heap.size, 0, none⟩ = some (.string ⟨#[]⟩) := hz.key
                  have r1 : w5.cell? ⟨wd.heap.size, 1, none⟩ = some (.int .u64 0) := hz.seq
                  have r2 : w5.cell? ⟨wd.heap.size, 2, none⟩ = some (.bool false) := hz.gone
                  have r3 : w5.cell? ⟨wd.heap.size, 3, none⟩ = some (.slice none 0 0) := hz.val
                  have HF := Lib.hid (put_new (x := X) (a := a) (c := c) hb6 hg hz h56 hv5)
                  clear hz h56 hv5 hb6 hg
                  refine anyT_one 19 rfl (by kernel_rfl) rfl (fun K hK => ?_)
                  try unfold ev
                  go_simp
                  refine hK _ _ ⟨⟨_, HF.out.2.2⟩, rfl⟩ ?_
                  clear hK
                  refine anyT_done (by kernel_rfl) ?_
                  simp only [opsAt, List.filterMap_cons, List.filterMap_nil, List.getElem?_cons_zero, List.getElem?_cons_succ]
                  go_wp2
                  go_meet
                  exact ⟨wd.heap.size, a, c, rfl, rfl, HF⟩
              case rest =>
                obtain ⟨we, hwe⟩ : ∃ we, we = wc := ⟨_, rfl⟩
                subst hwe
                obtain ⟨g2, ah, ch, rfl, rfl, HX2⟩ := hcut
                have tb' : (b != b) = false := by simp
                have y1 := (HX1.out.1.below HX2.out.2.2).key
                have y2 := (HX1.out.1.below HX2.out.2.2).seq
                have y3 := (HX1.out.1.below HX2.out.2.2).gone
                have y4 := (HX1.out.1.below HX2.out.2.2).val
                have z1 := HX2.out.1.key
                have z2 := HX2.out.1.seq
                have z3 := HX2.out.1.gone
                have z4 := HX2.out.1.val
                simp only [Nat.zero_add] at y1 y2 y3 y4 z1 z2 z3 z4
                have HSM2 : Hid (Calls Try.prog 22 #[ev X ag cg, ev X ah ch] we fun e w' => e = .returned (.bool true) ∧ Below we.heap.size we w') := Lib.hid (by
                  have h9 := esame_any X X ag ah cg ch we (HX1.out.2.1.below HX2.out.2.2) HX2.out.2.1
                  rwa [decide_eq_true rfl] at h9)
                have HBN : Hid (Below vo.heap.size vo we) := Lib.hid (by
                  have h8 := hbj.out.trans (HX1.out.2.2.mono hbj.out.size)
                  exact h8.trans (HX2.out.2.2.mono h8.size))
                clear p1 p2 q1 HX1 HX2 HR2
                go_wp2_with fail
                unfold ev at HSM2
                refine HSM2.out.mono ?_
                rintro e w9 ⟨rfl, hb9⟩
                have HB9 := Lib.hid (HBN.out.trans (hb9.mono HBN.out.size))
                clear hb9 y1 y2 y3 y4 z1 z2 z3 z4 HSM2 HBN
                go_wp2
                go_roundw
                case rel => exact ⟨j + 1, by omega, by go_num, HB9⟩
                case measure => simp [intOf]; omega
          · have tt : decide (j < k ∧ j < 100) = false := decide_eq_false hjk
            obtain ⟨tv, htv⟩ : ∃ tv, tv = decide (j < k ∧ j < 100) := ⟨_, rfl⟩
            rw [← htv] at tt ⊢
            subst tt
            clear htv hjk
            obtain ⟨X, hX⟩ : ∃ X, X = (Ent.getAt L key up).getD default := ⟨_, rfl⟩
            obtain ⟨b, hb⟩ : ∃ b, b = (Ent.getAt L key up).isSome := ⟨_, rfl⟩
            have HG : Hid (∀ V : BW wr, Calls Try.prog 20 #[.pointer (some ⟨tb, 0, none⟩), .string (bstr key), .int .u64 up] V.w fun e w' => Below V.w.heap.size V.w w' ∧ ∃ a c, e = .returned (.tuple #[ev X a c, .bool b]) ∧ Bs w' a X.val.length c X.val) := Lib.hid fun V => by
              rw [hX, hb]
              exact (HGT.out ⟨V.w, hbj.out.trans (V.b.mono hbj.out.size)⟩ key up).mono fun e w' h => h.two
            have HR : Hid (∀ V : BW wr, Calls Try.prog 27 #[.slice aL nL cL, .string (bstr key), .int .u64 up] V.w fun e w' => Below V.w.heap.size V.w w' ∧ ∃ a c, e = .returned (.tuple #[ev X a c, .bool b]) ∧ Bs w' a X.val.length c X.val) := Lib.hid fun V => by
              rw [hX, hb]
              exact (HGR.out ⟨V.w, hbj.out.trans (V.b.mono hbj.out.size)⟩ key up).mono fun e w' h => h.two
            have q1 := cell_later hbj.out c0
            clear hX hb HGT HGR c0
            go_wp2_with fail
            refine (HG.out ⟨wr, Below.refl _ _⟩).mono ?_
            rintro e w5 ⟨hb5, a5, d5, rfl, hv5⟩
            replace q1 := cell_later hb5 q1
            simp only [ev]
            go_upto_region 24 with fail
            have hx5 := load_box w5 X a5 d5
            have hz5 := below_alloc1 w5 (.cells #[.string (bstr X.key), .int .u64 X.seq, .bool X.gone, .slice a5 X.val.length d5] 30)
            obtain ⟨W5, hW5⟩ : ∃ W5, w5.alloc (.cells #[.string (bstr X.key), .int .u64 X.seq, .bool X.gone, .slice a5 X.val.length d5] 30) = W5 := ⟨_, rfl⟩
            rw [hW5] at hx5 hz5 ⊢
            clear hW5
            obtain ⟨g1, hg1⟩ : ∃ g1, g1 = w5.heap.size := ⟨_, rfl⟩
            rw [← hg1] at hx5 ⊢
            replace q1 := cell_later hz5 q1
            have HX5 := Lib.hid hx5
            have HV5 := Lib.hid (hv5.below hz5)
            have HB5 : Hid (Below wr.heap.size wr W5) := Lib.hid (hb5.trans ((show Below w5.heap.size w5 W5 from hz5).mono hb5.size))
            clear hg1 hx5 hz5 hv5 hb5 HG
            go_wp2_with fail
            refine (HR.out ⟨W5, HB5.out⟩).mono ?_
            rintro e w6 ⟨hb6, a6, d6, rfl, hv6⟩
            replace q1 := cell_later hb6 q1
            simp only [ev]
            go_upto_region 25 with fail
            have hx6 := load_box w6 X a6 d6
            have hz6 := below_alloc1 w6 (.cells #[.string (bstr X.key), .int .u64 X.seq, .bool X.gone, .slice a6 X.val.length d6] 30)
            obtain ⟨W6, hW6⟩ : ∃ W6, w6.alloc (.cells #[.string (bstr X.key), .int .u64 X.seq, .bool X.gone, .slice a6 X.val.length d6] 30) = W6 := ⟨_, rfl⟩
            rw [hW6] at hx6 hz6 ⊢
            clear hW6
            obtain ⟨g2, hg2⟩ : ∃ g2, g2 = w6.heap.size := ⟨_, rfl⟩
            rw [← hg2] at hx6 ⊢
            replace q1 := cell_later hz6 q1
            have hb56 : Below W5.heap.size W5 W6 := hb6.trans ((show Below w6.heap.size w6 W6 from hz6).mono hb6.size)
            have hx5 := HX5.out.below hb56
            have y1 := hx5.key
            have y2 := hx5.seq
            have y3 := hx5.gone
            have y4 := hx5.val
            have z1 := hx6.key
            have z2 := hx6.seq
            have z3 := hx6.gone
            have z4 := hx6.val
            simp only [Nat.zero_add] at y1 y2 y3 y4 z1 z2 z3 z4
            have HB6 : Hid (Below vo.heap.size vo W6) := Lib.hid (by
              have h8 := hbj.out.trans (HB5.out.mono hbj.out.size)
              exact h8.trans (hb56.mono h8.size))
            have HSM2 : Hid (∀ V : BW W6, Calls Try.prog 22 #[ev X a5 d5, ev X a6 d6] V.w fun e w' => e = .returned (.bool true) ∧ Below V.w.heap.size V.w w') := Lib.hid fun V => (by
              have h9 := esame_any X X a5 a6 d5 d6 V.w ((HV5.out.below hb56).below V.b) ((hv6.below hz6).below V.b)
              rwa [decide_eq_true rfl] at h9)
            have HDV : Hid (∀ V : BW W6, Duo wo V.w tb rb a1 n1 c1 l1 L L hs hs) := Lib.hid fun V => (HD.out.later HB6.out).later V.b
            obtain ⟨F, hF⟩ : ∃ F, F = Ent.fromAt L key := ⟨_, rfl⟩
            have hFn : F ≤ nL := by
              rw [hF, HNL.out]
              exact List.findIdx_le_length
            have HALL : Hid (∀ V : BW W6, Calls Try.prog 13 #[.pointer (some ⟨tb, 0, none⟩)] V.w (ColP V.w L)) := Lib.hid fun V => (HDV.out V).all (by have := HNL.out; have := HLk.out; omega) HSA.out
            have HFRM : Hid (∀ V : BW W6, Calls Try.prog 28 #[.pointer (some ⟨tb, 0, none⟩), .string (bstr key)] V.w (ColP V.w (L.drop F))) := Lib.hid fun V => by
              rw [hF]
              exact (HDV.out V).from key (by have := HNL.out; have := HLk.out; omega) HSA.out
            have HRF : Hid (∀ V : BW W6, Calls Try.prog 29 #[.slice aL nL cL, .string (bstr key)] V.w fun e w' => e = .returned (.int .i64 F) ∧ Below V.w.heap.size V.w w') := Lib.hid fun V => by
              rw [hF]
              exact reffrom_any aL nL cL L key V.w ((HES.out.below HB6.out).below V.b)
            have HROW1 : Hid (∀ V : BW W6, ∀ a n c, Es V.w a n c L → Calls Try.prog 12 #[.slice a n c, .slice aL nL cL] V.w fun e w' => e = .returned (.bool true) ∧ Below V.w.heap.size V.w w') := Lib.hid fun V a n c h => by
              have h9 := srows_any a aL n c nL cL L L V.w h ((HES.out.below HB6.out).below V.b)
              rwa [decide_eq_true rfl] at h9
            obtain ⟨aF, haF⟩ : ∃ aF, aF = subAn aL cL F 4 := ⟨_, rfl⟩
            obtain ⟨nF, hnF⟩ : ∃ nF, nF = nL - F := ⟨_, rfl⟩
            obtain ⟨cF, hcF⟩ : ∃ cF, cF = cL - F := ⟨_, rfl⟩
            have HROW2 : Hid (∀ V : BW W6, ∀ a n c, Es V.w a n c (L.drop F) → Calls Try.prog 12 #[.slice a n c, .slice aF nF cF] V.w fun e w' => e = .returned (.bool true) ∧ Below V.w.heap.size V.w w') := Lib.hid fun V a n c h => by
              have h8 := (HES.out.below HB6.out).below V.b
              have h7 := h8.part (lo := F) (hi := nL) (mx := cL) hFn (Nat.le_refl _) h8.2.1 (Nat.le_refl _)
              rw [List.take_of_length_le (by have := HNL.out; omega), ← haF, ← hnF, ← hcF] at h7
              have h9 := srows_any a aF n c nF cF (L.drop F) (L.drop F) V.w h h7
              rwa [decide_eq_true rfl] at h9
            obtain ⟨i0, hi0, _, hz0, _⟩ := info_parts infoE
            have hsl : ∀ W, (Instr.slice 23 (.slice aL nL cL) (some (.int .i64 (F : Int))) none none).run Try.prog W = .ok (.slice aF nF cF) W := fun W => by
              rw [haF, hnF, hcF]
              exact run_slice_l Try.underlying23 hi0 hz0 aL nL cL rfl hFn W
            have tb' : (b == b) = true := by simp
            clear hx5 hx6 hz6 hb56 hv6 hg2 hb6 hi0 hz0 haF hnF hcF hF HX5 HV5 HR HDV
            refine wp_region_steps [34] 34 34 (by kernel_rfl) (by kernel_rfl) rfl (fun W' => ∃ V : BW W6, W' = V.w) ?_
            have HBC := (Below.refl W6.heap.size W6).drew
            refine anyT_pull [0, 1, 2, 3] 34 30 (by intro c a d v w h; cases d <;> exact h) (by kernel_rfl) ⟨⟨_, HBC⟩, rfl⟩ ?_
            simp only [opsAt, List.filterMap_cons, List.filterMap_nil, List.getElem?_cons_zero, List.getElem?_cons_succ]
            iterate 4
              apply held_step
              · kernel_rfl
              · rintro _ ⟨V, rfl⟩
                go_simp
                rfl
            refine held_nil ?_
            refine anyT_pull [4, 5] 34 28 (by intro c a d v w h; cases d <;> exact h) (by kernel_rfl) ⟨⟨_, HBC⟩, rfl⟩ ?_
            simp only [opsAt, List.filterMap_cons, List.filterMap_nil, List.getElem?_cons_zero, List.getElem?_cons_succ]
            iterate 2
              apply held_step
              · kernel_rfl
              · rintro _ ⟨V, rfl⟩
                have m0 := BW.cell y1 V
                have m1 := BW.cell y2 V
                have m2 := BW.cell y3 V
                have m3 := BW.cell y4 V
                have m4 := BW.cell z1 V
                have m5 := BW.cell z2 V
                have m6 := BW.cell z3 V
                have m7 := BW.cell z4 V
                go_simp
                rfl
            refine held_nil ?_
            unfold ev at HSM2
            apply anyT_one 6
            · rfl
            · kernel_rfl
            · kernel_rfl
            intro K hK
            go_simp
            refine (HSM2.out ⟨_, HBC⟩).mono ?_
            rintro en wn ⟨rfl, hbn⟩
            replace HBC := HBC.trans (hbn.mono HBC.size)
            refine hK _ _ ⟨⟨_, HBC⟩, rfl⟩ ?_
            clear hK
            clear hbn
            refine anyT_pull [7, 8, 9, 11, 12, 13, 14] 34 20 (by intro c a d v w h; cases d <;> exact h) (by kernel_rfl) ⟨⟨_, HBC⟩, rfl⟩ ?_
            simp only [opsAt, List.filterMap_cons, List.filterMap_nil, List.getElem?_cons_zero, List.getElem?_cons_succ]
            iterate 7
              apply held_step
              · kernel_rfl
              · rintro _ ⟨V, rfl⟩
                have m0 := BW.cell q1 V
                go_simp
                rfl
            refine held_nil ?_
            apply anyT_one 10
            · rfl
            · kernel_rfl
            · kernel_rfl
            intro K hK
            go_simp
            refine (HALL.out ⟨_, HBC⟩).mono ?_
            rintro en wn ⟨aa, na, ca, rfl, hax, hbn⟩
            replace HBC := HBC.trans (hbn.mono HBC.size)
            refine hK _ _ ⟨⟨_, HBC⟩, rfl⟩ ?_
            clear hK
            clear hbn
            apply anyT_one 15
            · rfl
            · kernel_rfl
            · kernel_rfl
            intro K hK
            go_simp
            refine (HROW1.out ⟨_, HBC⟩ aa na ca hax.es).mono ?_
            rintro en wn ⟨rfl, hbn⟩
            replace HBC := HBC.trans (hbn.mono HBC.size)
            refine hK _ _ ⟨⟨_, HBC⟩, rfl⟩ ?_
            clear hK
            clear hbn hax
            refine anyT_pull [16, 17, 18, 19, 21, 22, 23, 24, 25, 26, 27, 28, 29] 34 5 (by intro c a d v w h; cases d <;> exact h) (by kernel_rfl) ⟨⟨_, HBC⟩, rfl⟩ ?_
            simp only [opsAt, List.filterMap_cons, List.filterMap_nil, List.getElem?_cons_zero, List.getElem?_cons_succ]
            iterate 13
              apply held_step
              · kernel_rfl
              · rintro _ ⟨V, rfl⟩
                have m0 := BW.cell q1 V
                go_simp
                rfl
            refine held_nil ?_
            apply anyT_one 20
            · rfl
            · kernel_rfl
            · kernel_rfl
            intro K hK
            go_simp
            refine (HFRM.out ⟨_, HBC⟩).mono ?_
            rintro en wn ⟨af, nf, cf, rfl, haf, hbn⟩
            replace HBC := HBC.trans (hbn.mono HBC.size)
            refine hK _ _ ⟨⟨_, HBC⟩, rfl⟩ ?_
            clear hK
            clear hbn
            apply anyT_one 30
            · rfl
            · kernel_rfl
            · kernel_rfl
            intro K hK
            go_simp
            refine (HRF.out ⟨_, HBC⟩).mono ?_
            rintro en wn ⟨rfl, hbn⟩
            replace HBC := HBC.trans (hbn.mono HBC.size)
            refine hK _ _ ⟨⟨_, HBC⟩, rfl⟩ ?_
            clear hK
            replace haf := haf.below hbn
            clear hbn
            apply anyT_one 31
            · rfl
            · kernel_rfl
            · kernel_rfl
            intro K hK
            go_simp
            refine hK _ _ ⟨⟨_, HBC⟩, rfl⟩ ?_
            clear hK
            apply anyT_one 32
            · rfl
            · kernel_rfl
            · kernel_rfl
            intro K hK
            go_simp
            refine (HROW2.out ⟨_, HBC⟩ af nf cf haf.es).mono ?_
            rintro en wn ⟨rfl, hbn⟩
            replace HBC := HBC.trans (hbn.mono HBC.size)
            refine hK _ _ ⟨⟨_, HBC⟩, rfl⟩ ?_
            clear hK
            apply anyT_one 33
            · rfl
            · kernel_rfl
            · kernel_rfl
            intro K hK
            go_simp
            refine hK _ _ ⟨⟨_, HBC⟩, rfl⟩ ?_
            clear hK
            have HFN := Lib.hid (HBF.out.trans ((HB6.out.trans (HBC.mono HB6.out.size)).mono HBF.out.size))
            clear HBC
            refine anyT_done (by kernel_rfl) ?_
            simp only [opsAt, List.filterMap_cons, List.filterMap_nil, List.getElem?_cons_zero, List.getElem?_cons_succ]
            go_wp2
            go_ret
            exact ⟨rfl, HFN.out⟩
end Go.Proofs.Ytgcealgkhlbgmaa
