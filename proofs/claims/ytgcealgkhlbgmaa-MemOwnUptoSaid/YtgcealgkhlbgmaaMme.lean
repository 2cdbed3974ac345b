/- MemOrders. -/
import Derived.Test.YtgcealgkhlbgmaaMmc
import Derived.Test.YtgcealgkhlbgmaaMmd
import Derived.Test.YtgcealgkhlbgmaaMmF
namespace Go.Proofs.Ytgcealgkhlbgmaa
open Go.RowKit
set_option linter.unusedVariables false

/-- An entry of small size. -/
def Sm (e : Ent) : Prop := e.key.length + e.val.length ≤ 131072 ∧ e.seq ≤ 18446744073709551615
theorem laid_len (e : Ent) : e.laid.key.length = e.key.length ∧ e.laid.val.length ≤ e.val.length := by
  refine ⟨rfl, ?_⟩
  by_cases hg : e.gone = true
  · have : e.laid.val = [] := by unfold Ent.laid; rw [if_pos hg]
    rw [this]; exact Nat.zero_le _
  · have : e.laid.val = e.val := by unfold Ent.laid; rw [if_neg hg]
    rw [this]; exact Nat.le_refl _
theorem Sm.laid {e : Ent} (h : Sm e) : Sm e.laid := by
  have h1 := laid_len e
  have h2 := h.1
  exact ⟨by omega, h.2⟩
theorem costs_sm : ∀ {L : List Ent}, (∀ e ∈ L, Sm e) → Ent.costs L ≤ L.length * 131088
  | [], _ => by simp [Ent.costs]
  | x :: L, h => by
    have h1 := costs_sm (L := L) (fun e he => h e (List.mem_cons_of_mem _ he))
    have h2 := (h x List.mem_cons_self).1
    unfold Ent.costs at *
    simp only [List.map_cons, List.sum_cons, List.length_cons]
    have h3 : x.cost = x.key.length + x.val.length + 16 := rfl
    omega
theorem lays_len (L es : List Ent) : (Ent.lays L es).length ≤ L.length + es.length := by
  induction es generalizing L with
  | nil => simp [Ent.lays]
  | cons v es ih =>
    have h1 := ih (Ent.lay L v)
    have h2 := (lay_len L v).1
    show (Ent.lays (Ent.lay L v) es).length ≤ _
    simp only [List.length_cons]
    omega
theorem lays_sm {es : List Ent} (h : ∀ e ∈ es, Sm e) : ∀ e ∈ Ent.lays [] (es.map Ent.laid), Sm e := fun e he => by
  rcases lays_any he with h1 | h1
  · cases h1
  · obtain ⟨y, hy, rfl⟩ := List.mem_map.1 h1
    exact (h y hy).laid
theorem sm_of {l : List Ent} (ht : Ent.tot l ≤ 131072) (hsq : ∀ e ∈ l, e.seq ≤ 18446744073709551615) : ∀ e ∈ l, Sm e := fun e he => by
  refine ⟨?_, hsq e he⟩
  have : e.key.length + e.val.length ≤ Ent.tot l := by
    clear ht hsq
    induction l with
    | nil => cases he
    | cons x l ih =>
      unfold Ent.tot at *
      simp only [List.map_cons, List.sum_cons]
      rcases List.mem_cons.1 he with h | h
      · subst h; omega
      · have := ih h; omega
  omega
theorem sput_any (B tb : Nat) (bs : List Nat) (L : List Ent) (hg : Nat) (hs : List Nat) (ld : List Int) (v : Ent) (va : Option Addr) (vc : Nat) (w : World) (h : Tbl w B tb bs L hg hs ld) (hv : Bs w va v.val.length vc v.val) (hn : L.length ≤ 10000) (hsm : ∀ e ∈ L, Sm e) (hsv : Sm v) :
    Calls Try.prog 11 #[.pointer (some ⟨tb, 0, none⟩), ev v va vc] w (TPut w B tb bs L hg hs ld v.laid) :=
  tlay_any B tb bs L hg _ ld v va vc w h hv (by omega) (by have := hsv.1; omega) (by have := hsv.1; omega) (by have := costs_sm hsm; omega) (fun e he => by have := (hsm e he).1; omega)
/-- Two tables that lie apart. -/
def Two (wo W : World) (B2 ta tb : Nat) (LA LB : List Ent) (l1 l2 : List Int) : Prop :=
  ∃ bsA hgA hsA bsB hgB hsB, Tbl W wo.heap.size ta bsA LA hgA hsA l1 ∧ Tbl W B2 tb bsB LB hgB hsB l2 ∧ (∀ b ∈ bsA, b ∉ bsB) ∧ Below wo.heap.size wo W
theorem rot_succ {o : List Ent} {t k : Nat} (hk : k < o.length) : (Ent.rot o t).take (k + 1) = (Ent.rot o t).take k ++ [nth o ((k + t) % o.length)] := by
  have hl : (Ent.rot o t).length = o.length := by simp [Ent.rot]
  rw [List.take_succ_eq_append_getElem (by omega)]
  simp [Ent.rot]
theorem Two.putA {wo W W' : World} {B2 ta tb : Nat} {LA LB : List Ent} {l1 l2 : List Int} {bsA : List Nat} {hgA : Nat} {hsA : List Nat} {bsB : List Nat} {hgB : Nat} {hsB : List Nat} {v : Ent} {e : Ending} (hA : Tbl W wo.heap.size ta bsA LA hgA hsA l1) (hB : Tbl W B2 tb bsB LB hgB hsB l2) (hd : ∀ b ∈ bsA, b ∉ bsB) (hb : Below wo.heap.size wo W)
    (hp : TPut W wo.heap.size ta bsA LA hgA hsA l1 v e W') : e = .returned (.tuple #[]) ∧ Two wo W' B2 ta tb (Ent.lay LA v) LB l1 l2 := by
  obtain ⟨bs', rfl, hk, hsub, hT⟩ := hp
  refine ⟨rfl, bs', _, _, bsB, hgB, hsB, hT, hB.keep hk hd, fun b h1 h2 => ?_, hb.trans (hk.below (fun b h => (hA.bs b h).1) hb.size)⟩
  rcases hsub b h1 with h3 | h3
  · exact hd b h3 h2
  · have := (hB.bs b h2).2
    omega
theorem Two.putB {wo W W' : World} {B2 ta tb : Nat} {LA LB : List Ent} {l1 l2 : List Int} {bsA : List Nat} {hgA : Nat} {hsA : List Nat} {bsB : List Nat} {hgB : Nat} {hsB : List Nat} {v : Ent} {e : Ending} (hA : Tbl W wo.heap.size ta bsA LA hgA hsA l1) (hB : Tbl W B2 tb bsB LB hgB hsB l2) (hd : ∀ b ∈ bsA, b ∉ bsB) (hb : Below wo.heap.size wo W) (h2 : wo.heap.size ≤ B2)
    (hp : TPut W B2 tb bsB LB hgB hsB l2 v e W') : e = .returned (.tuple #[]) ∧ Two wo W' B2 ta tb LA (Ent.lay LB v) l1 l2 := by
  obtain ⟨bs', rfl, hk, hsub, hT⟩ := hp
  refine ⟨rfl, bsA, hgA, hsA, bs', _, _, hA.keep hk (fun b h3 h4 => hd b h4 h3), hT, fun b h1 h3 => ?_, hb.trans (hk.below (fun b h => Nat.le_trans h2 (hB.bs b h).1) hb.size)⟩
  rcases hsub b h3 with h4 | h4
  · exact hd b h1 h4
  · have := (hA.bs b h1).2
    omega
set_option maxRecDepth 8000 in
set_option maxHeartbeats 8000000 in
theorem memOrders_walk (a1 a2 al : Option Addr) (n1 c1 n2 c2 n c : Nat) (l1 l2 : List Int) (l : List Ent) (z : Int) (w : World) (h1 : Is w a1 n1 c1 l1) (h2 : Is w a2 n2 c2 l2) (h : Es w al n c l) (hz : I64 z) (hf : Ent.tot l + n ≤ 1000000000) (hsq : ∀ e ∈ l, e.seq ≤ 18446744073709551615) :
    Calls Try.prog 3 #[.slice a1 n1 c1, .slice a2 n2 c2, .slice al n c, .int .i64 z] w fun e w' => e = .returned (.bool true) ∧ Below w.heap.size w w' := by
  have hle := h.le.1
  have hle1 := h1.le.1
  have hle2 := h2.le.1
  have HN := Lib.hid h.1
  have HE := Lib.hid h
  have HI1 := Lib.hid h1
  have HI2 := Lib.hid h2
  have HF := Lib.hid hf
  have HSQ := Lib.hid hsq
  have HZ := Lib.hid hz
  clear h h1 h2 hf hsq hz
  go_enter Try.func3, Try.ntmps3
  go_wp2_with fail
  refine (known_any w).mono ?_
  rintro e w1 ⟨rfl, hb1⟩
  have HB1 := Lib.hid hb1
  have hw1 : w.heap.size ≤ w1.heap.size := hb1.size
  clear hb1
  go_wp2_with fail
  refine (efew_any al n c l 300 w1 (HE.out.below HB1.out) HF.out (by omega)).mono ?_
  rintro e w2 ⟨rfl, q, rfl⟩
  have HB2 := Lib.hid (below_drewN HB1.out q)
  clear HB1
  cases hfew : decide (n ≤ 300 ∧ Ent.tot l ≤ 131072) with
  | false =>
    clear hfew
    go_wp2
    go_ret
    exact ⟨rfl, HB2.out⟩
  | true =>
    have hfe := of_decide_eq_true hfew
    have HSM := Lib.hid (sm_of hfe.2 HSQ.out)
    have hn3 := hfe.1
    clear hfew hfe
    by_cases hm1 : 1000 < n1
    · have t1 : decide ((1000 : Int) < (n1 : Int)) = true := decide_eq_true (by omega)
      go_wp2
      go_ret
      exact ⟨rfl, HB2.out⟩
    have t1 : decide ((1000 : Int) < (n1 : Int)) = false := decide_eq_false (by omega)
    by_cases hm2 : 1000 < n2
    · have t2 : decide ((1000 : Int) < (n2 : Int)) = true := decide_eq_true (by omega)
      go_wp2
      go_ret
      exact ⟨rfl, HB2.out⟩
    have t2 : decide ((1000 : Int) < (n2 : Int)) = false := decide_eq_false (by omega)
    by_cases hm3 : n = 0
    · subst hm3
      go_wp2
      go_ret
      exact ⟨rfl, HB2.out⟩
    have t3 : ((n : Int) == 0) = false := by simp; omega
    obtain ⟨r, hr⟩ : ∃ r, Int.tmod z (n : Int) = r := ⟨_, rfl⟩
    have hr1 : r < n := by rw [← hr]; exact Int.tmod_lt_of_pos z (by omega)
    have hr2 : -(n : Int) < r := by rw [← hr]; exact Int.lt_tmod_of_pos z (by omega)
    have hn0 : (n : Int) ≠ 0 := by omega
    have hz1 := HZ.out.lo
    have hz2 := HZ.out.hi
    go_upto_if 41 with fail
    clear hr hz1 hz2 hn0
    obtain ⟨W2, hW2⟩ : ∃ W2, w1.drewN q = W2 := ⟨_, rfl⟩
    rw [hW2] at HB2 ⊢
    clear hW2
    go_cut [3] (fun t wx => wx = W2 ∧ ∃ T : Nat, T < n ∧ t = .int .i64 T)
    case first =>
      by_cases hneg : r < 0
      · have t4 : decide (r < 0) = true := decide_eq_true hneg
        go_wp2
        go_meet
        exact ⟨rfl, (r + n).toNat, by omega, by congr 1; omega⟩
      · have t4 : decide (r < 0) = false := decide_eq_false hneg
        go_wp2
        go_meet
        exact ⟨rfl, r.toNat, by omega, by congr 1; omega⟩
    case rest =>
      obtain ⟨rfl, T, hT, rfl⟩ := hcut
      clear hr1 hr2
      have hW2 := HB2.out.size
      go_wp2_with fail
      go_loopw [9, 10, 11, 12] (fun s9 i s11 s12 wr => ∃ (k : Nat) (a9 : Option Addr) (k9 c9 : Nat), k ≤ n ∧ i = .int .i64 k ∧ s9 = .slice a9 k9 c9 ∧ Hid (AccE wr wc.heap.size a9 k9 c9 (Ent.onceOf (l.take k))) ∧ Hid (Below wc.heap.size wc wr)) (fun _ i _ _ _ => n - (intOf i).toNat)
      case atStart => exact ⟨0, none, 0, 0, Nat.zero_le _, rfl, rfl, Lib.hid (AccE.nil _ _), Lib.hid (Below.refl _ _)⟩
      case round =>
        obtain ⟨wo, hwo⟩ : ∃ wo, wo = wr := ⟨_, rfl⟩
        subst hwo
        obtain ⟨k, a9, k9, c9, hk, rfl, rfl, hA, hbw⟩ := hrel
        by_cases hlt : k < n
        · have hk9 := hA.out.len
          have hk9n : k9 ≤ n := by have := once_len (l.take k); rw [List.length_take] at this; omega
          obtain ⟨bx, ox, ax, cx, rfl, hex, hvx⟩ := (HE.out.below HB2.out).vals hlt
          have HOLDX := Lib.hid (fun h0 => hvx.old h0)
          have HVX := Lib.hid (hvx.below hbw.out)
          have HEX := Lib.hid (hex.below hbw.out)
          clear hvx hex
          go_wp2_with fail
          go_loopw [11, 12] (fun s11 s12 wi => ∃ j : Nat, j ≤ k9 ∧ s12 = .int .i64 j ∧ s11 = .bool (((Ent.onceOf (l.take k)).take j).any (fun y => decide (Ent.cmp y (nth l k) = 0))) ∧ Hid (Below wo.heap.size wo wi)) (fun _ j _ => k9 - (intOf j).toNat)
          case atStart => exact ⟨0, Nat.zero_le _, rfl, rfl, Lib.hid (Below.refl _ _)⟩
          case round =>
            obtain ⟨j, hj, rfl, rfl, hbi⟩ := hrel
            obtain ⟨O, hO⟩ : ∃ O, O = Ent.onceOf (l.take k) := ⟨_, rfl⟩
            obtain ⟨x, hx⟩ : ∃ x, x = nth l k := ⟨_, rfl⟩
            have HO := Lib.hid hO
            have HXE := Lib.hid hx
            rw [← hO] at hA hk9 ⊢
            rw [← hx] at HVX HEX HOLDX ⊢
            clear hO hx
            by_cases hlj : j < k9
            · have hb2 := hbw.out.trans (hbi.out.mono hbw.out.size)
              obtain ⟨bo, oo, ao, co, rfl, heo, hvo⟩ := (hA.out.es.below hbi.out).vals hlj
              have p1 := heo.key
              have p2 := heo.seq
              have p3 := heo.gone
              have p4 := heo.val
              have hexi := HEX.out.below hbi.out
              have q1 := hexi.key
              have q2 := hexi.seq
              have q3 := hexi.gone
              have q4 := hexi.val
              have HNX : Hid ((O.take (j + 1)).any (fun y => decide (Ent.cmp y x = 0)) = ((O.take j).any (fun y => decide (Ent.cmp y x = 0)) || decide (Ent.cmp (nth O j) x = 0))) := Lib.hid (by
                rw [List.take_succ_eq_append_getElem (by omega), List.any_append, nth_eq _ (by omega)]
                simp)
              obtain ⟨b, hb⟩ : ∃ b, b = (O.take j).any (fun y => decide (Ent.cmp y x = 0)) := ⟨_, rfl⟩
              rw [← hb] at HNX ⊢
              clear heo hvo hexi hb2 hb
              have HBI := Lib.hid hbi.out
              cases b with
              | true =>
                go_upto_region 16 with fail
                refine wp_region_class (w0 := wr) (by kernel_rfl) (by kernel_rfl) (Below.refl _ _) ?_
                replace p1 := BW.cell p1
                replace p2 := BW.cell p2
                replace p3 := BW.cell p3
                replace p4 := BW.cell p4
                replace q1 := BW.cell q1
                replace q2 := BW.cell q2
                replace q3 := BW.cell q3
                replace q4 := BW.cell q4
                repeat (first | go_big_quiet_step (fail))
                refine wpQuiet_nil ?_
                intro w9 hb9; replace hb9 := BW.of hb9
                have HB9 := Lib.hid (HBI.out.trans (hb9.mono HBI.out.size))
                clear p1 p2 p3 p4 q1 q2 q3 q4 hb9
                go_wp2
                go_roundw
                case rel => exact ⟨j + 1, by omega, by go_num, by rw [HNX.out]; rfl, HB9⟩
                case measure => simp [intOf]; omega
              | false =>
                obtain ⟨zc, hzc⟩ : ∃ zc, zc = Ent.cmp (nth O j) x := ⟨_, rfl⟩
                have HSM2 : Hid (∀ W : BW wr, Calls Try.prog 9 #[ev (nth O j) ao co, ev x ax cx] W.w fun e w' => e = .returned (.int .i64 zc) ∧ Below W.w.heap.size W.w w') := Lib.hid fun W => by
                  have := refcmp_any (nth O j) x ao ax co cx W.w
                  rwa [← hzc] at this
                rw [← hzc] at HNX
                clear hzc
                go_upto_region 16 with fail
                refine wp_region_class (w0 := wr) (by kernel_rfl) (by kernel_rfl) (Below.refl _ _) ?_
                replace p1 := BW.cell p1
                replace p2 := BW.cell p2
                replace p3 := BW.cell p3
                replace p4 := BW.cell p4
                replace q1 := BW.cell q1
                replace q2 := BW.cell q2
                replace q3 := BW.cell q3
                replace q4 := BW.cell q4
                repeat (first | go_big_quiet_step ((go_at_call 9; exact calls_class (HSM2.out _))))
                refine wpQuiet_nil ?_
                intro w9 hb9; replace hb9 := BW.of hb9
                have HB9 := Lib.hid (HBI.out.trans (hb9.mono HBI.out.size))
                clear p1 p2 p3 p4 q1 q2 q3 q4 hb9
                go_wp2
                go_roundw
                case rel => exact ⟨j + 1, by omega, by go_num, by rw [HNX.out, Bool.false_or]; by_cases h0 : zc = 0 <;> simp [h0], HB9⟩
                case measure => simp [intOf]; omega
            · obtain rfl : j = k9 := by omega
              have HNEXT : Hid (Ent.onceOf (l.take (k + 1)) = if (O.take j).any (fun y => decide (Ent.cmp y x = 0)) then O else O ++ [x]) := Lib.hid (by
                rw [List.take_succ_eq_append_getElem (by have := HN.out; omega), once_snoc, ← HO.out, ← nth_eq _ (by have := HN.out; omega), ← HXE.out, List.take_of_length_le (by omega)]
                rfl)
              have HB9 := Lib.hid (hbw.out.trans (hbi.out.mono hbw.out.size))
              have HA9 := Lib.hid (hA.out.below hbi.out)
              obtain ⟨b, hb⟩ : ∃ b, b = (O.take j).any (fun y => decide (Ent.cmp y x = 0)) := ⟨_, rfl⟩
              rw [← hb] at HNEXT ⊢
              clear hb
              cases b with
              | true =>
                go_wp2
                go_roundw
                case rel => exact ⟨k + 1, a9, j, c9, by omega, by go_num, rfl, by rw [HNEXT.out]; exact HA9, HB9⟩
                case measure => simp [intOf]; omega
              | false =>
                have hexi := HEX.out.below hbi.out
                have q1 := hexi.key
                have q2 := hexi.seq
                have q3 := hexi.gone
                have q4 := hexi.val
                have HVI := Lib.hid (HVX.out.below hbi.out)
                clear hexi
                go_wp2_with (at_builtin; refine app_ent rfl _ _ rfl wc.heap.size rfl (HA9.out.below (below_alloc1 wr _)) rfl (load_box wr _ _ _) (HVI.out.below (below_alloc1 wr _)) (fun h0 y z hy hz e => by have h1 := HOLDX.out h0 y hy; have h2 := (HA9.out.new z hz).1; omega) (by omega) (le_alloc (by have := HB9.out.size; omega)) ?_; intro a4 c4 w4 h4 hb4 hev4; have H4 := Lib.hid h4; have HB4 := Lib.hid (HB9.out.trans (((below_alloc1 wr _).mono HB9.out.size).trans hb4)); clear h4 hb4 hev4)
                go_roundw
                case rel => exact ⟨k + 1, a4, j + 1, c4, by omega, by go_num, rfl, by rw [HNEXT.out]; exact H4, HB4⟩
                case measure => simp [intOf]; omega
        · obtain rfl : k = n := by omega
          have HO9 : Hid (AccE wo wc.heap.size a9 k9 c9 (Ent.onceOf l)) := by rw [List.take_of_length_le (by have := HN.out; omega)] at hA; exact hA
          have hlen9 := HO9.out.len
          have hkn9 : k9 ≤ k := by have := once_len l; have := HN.out; omega
          have hpos9 : 0 < k9 := by have := once_pos (l := l) (by have := HN.out; omega); omega
          have hoSM : ∀ e ∈ Ent.onceOf l, Sm e := fun e he => HSM.out e (once_sub l e he)
          have HPAIR := Lib.hid (once_pair l)
          obtain ⟨O, hO⟩ : ∃ O, O = Ent.onceOf l := ⟨_, rfl⟩
          rw [← hO] at HO9 hlen9 hoSM HPAIR
          have HOSM := Lib.hid hoSM
          have HLEN := Lib.hid hlen9
          have HOE := Lib.hid HO9.out.es
          have HB3 := Lib.hid (HB2.out.trans (hbw.out.mono HB2.out.size))
          clear hO hoSM hlen9 hA HSM HO9
          go_wp2_with fail
          refine (tnew_any a1 n1 c1 l1 wo (HI1.out.below HB3.out) (by omega)).mono ?_
          rintro e w4 ⟨ta, bsa, rfl, hTa, hb4⟩
          have HBWO := HB3
          have HB4 := Lib.hid (HB3.out.trans (hb4.mono HB3.out.size))
          have HOE4 := Lib.hid (HOE.out.below hb4)
          have HTA := Lib.hid hTa
          have hw4 := hb4.size
          have hbo4 := hb4
          clear hb4 hTa hbw HB3
          go_wp2_with fail
          refine (tnew_any a2 n2 c2 l2 w4 (HI2.out.below HB4.out) (by omega)).mono ?_
          rintro e w5 ⟨tb, bsb, rfl, hTb, hb5⟩
          have HB5 := Lib.hid (HB4.out.trans (hb5.mono HB4.out.size))
          have HOE5 := Lib.hid (HOE4.out.below hb5)
          have HTA5 := Lib.hid (HTA.out.below hb5)
          have HTB5 := Lib.hid hTb
          have HDIS : Hid (∀ b ∈ bsa, b ∉ bsb) := Lib.hid fun b h1 h2 => by
            have h3 := (HTA.out.bs b h1).2
            have h4 := (hTb.bs b h2).1
            omega
          have hw5 := hb5.size
          have HBW5 := Lib.hid (hbo4.trans (hb5.mono hbo4.size))
          have HOW := HOE
          clear hb5 hTb HOE4 HTA HB4 hbo4
          go_wp2_with fail
          have hT5 : Hid (Two wo w5 w4.heap.size ta tb [] [] l1 l2) := Lib.hid ⟨bsa, _, _, bsb, _, _, HTA5.out, HTB5.out, HDIS.out, HBW5.out⟩
          clear HTA5 HTB5 HDIS
          go_loopw [15] (fun i wr => ∃ k' : Nat, k' ≤ k9 ∧ i = .int .i64 k' ∧ Hid (Two wo wr w4.heap.size ta tb (Ent.lays [] ((O.take k').map Ent.laid)) (Ent.lays [] (((Ent.rot O T).take k').map Ent.laid)) l1 l2)) (fun i _ => k9 - (intOf i).toNat)
          case atStart => exact ⟨0, Nat.zero_le _, rfl, hT5⟩
          case round =>
            obtain ⟨k', hk', rfl, hTT⟩ := hrel
            by_cases hlt2 : k' < k9
            · obtain ⟨bsA, hgA, hsA, bsB, hgB, hsB, hTa, hTb, hdis, hbel⟩ := hTT.out
              have hLEN := HLEN.out
              have hmod : (k' + T) % k9 < k9 := Nat.mod_lt _ (by omega)
              have HNA : Hid (Ent.lays [] ((O.take (k' + 1)).map Ent.laid) = Ent.lay (Ent.lays [] ((O.take k').map Ent.laid)) (nth O k').laid) := Lib.hid (by
                rw [List.take_succ_eq_append_getElem (by omega), List.map_append, List.map_cons, List.map_nil, lays_snoc, ← nth_eq _ (by omega)])
              have HNB : Hid (Ent.lays [] (((Ent.rot O T).take (k' + 1)).map Ent.laid) = Ent.lay (Ent.lays [] (((Ent.rot O T).take k').map Ent.laid)) (nth O ((k' + T) % k9)).laid) := Lib.hid (by
                rw [rot_succ (by omega), hLEN, List.map_append, List.map_cons, List.map_nil, lays_snoc])
              have hLA := lays_len [] ((O.take k').map Ent.laid)
              have hLB := lays_len [] (((Ent.rot O T).take k').map Ent.laid)
              rw [List.length_map, List.length_take] at hLA hLB
              simp only [List.length_nil, Nat.zero_add] at hLA hLB
              have hSA := lays_sm (es := O.take k') (fun e he => HOSM.out e (List.mem_of_mem_take he))
              have hSB := lays_sm (es := (Ent.rot O T).take k') (fun e he => HOSM.out e ((rot_mem e).1 (List.mem_of_mem_take he)))
              have hS1 : Sm (nth O k') := HOSM.out _ (by rw [nth_eq _ (by omega)]; exact List.getElem_mem _)
              have hS2 : Sm (nth O ((k' + T) % k9)) := HOSM.out _ (by rw [nth_eq _ (by omega)]; exact List.getElem_mem _)
              obtain ⟨bo, oo, ao, co, ea9, heo, hvo⟩ := (HOW.out.below hbel).vals hlt2
              have HSB := Lib.hid hSB
              have HS2 := Lib.hid hS2
              have HPA := Lib.hid (sput_any _ ta bsA _ hgA hsA l1 (nth O k') ao co wr hTa hvo (by omega) hSA hS1)
              have HTWO := Lib.hid (And.intro hTa (And.intro hTb (And.intro hdis hbel)))
              have p1 := heo.key
              have p2 := heo.seq
              have p3 := heo.gone
              have p4 := heo.val
              subst ea9
              clear heo hvo hTa hTb hdis hbel hLA hSA hS1 hSB hS2 hTT
              go_wp2_with fail
              unfold ev at HPA
              refine HPA.out.mono ?_
              rintro e w8 hpp
              obtain ⟨rfl, hT8⟩ := Two.putA HTWO.out.1 HTWO.out.2.1 HTWO.out.2.2.1 HTWO.out.2.2.2 hpp
              rw [← HNA.out] at hT8
              obtain ⟨bsA2, hgA2, hsA2, bsB2, hgB2, hsB2, hTa, hTb, hdis, hbel⟩ := hT8
              obtain ⟨bo2, oo2, ao2, co2, eb9, heo, hvo⟩ := (HOW.out.below hbel).vals hmod
              cases eb9
              have HPB := Lib.hid (sput_any _ tb bsB2 _ hgB2 hsB2 l2 (nth O ((k' + T) % k9)) ao2 co2 w8 hTb hvo (by omega) HSB.out HS2.out)
              have HTW2 := Lib.hid (And.intro hTa (And.intro hTb (And.intro hdis hbel)))
              have p1 := heo.key
              have p2 := heo.seq
              have p3 := heo.gone
              have p4 := heo.val
              clear hpp heo hvo hTa hTb hdis hbel HPA HTWO hLB hLEN
              obtain ⟨R, hR⟩ : ∃ R, R = (k' + T) % k9 := ⟨_, rfl⟩
              have hm1 : ((k' : Int) + (T : Int)) % (k9 : Int) = (R : Int) := by rw [hR, Int.natCast_emod, Int.natCast_add]
              have hm2 : Int.tmod ((k' : Int) + (T : Int)) (k9 : Int) = (R : Int) := by rw [← hm1]; exact Int.tmod_eq_emod_of_nonneg (by omega)
              have hk90 : (k9 : Int) ≠ 0 := by omega
              rw [← hR] at p1 p2 p3 p4 HPB HNB hmod
              clear hR
              go_wp2_with fail
              unfold ev at HPB
              refine HPB.out.mono ?_
              rintro e w9 hpp
              obtain ⟨rfl, hT9⟩ := Two.putB HTW2.out.1 HTW2.out.2.1 HTW2.out.2.2.1 HTW2.out.2.2.2 hw4 hpp
              rw [← HNB.out] at hT9
              have HT9 := Lib.hid hT9
              clear hT9 hpp HPB HTW2 p1 p2 p3 p4 hm1 hm2 hk90 hmod
              go_wp2
              go_roundw
              case rel => exact ⟨k' + 1, by omega, by go_num, HT9⟩
              case measure => simp [intOf]; omega
            · obtain rfl : k' = k9 := by omega
              have hLEN := HLEN.out
              have hrl : (Ent.rot O T).length = O.length := by simp [Ent.rot]
              have hTT2 := hTT.out
              rw [List.take_of_length_le (by omega), List.take_of_length_le (by omega), ← orders_same O T HPAIR.out] at hTT2
              have hLA := lays_len [] (O.map Ent.laid)
              rw [List.length_map] at hLA
              simp only [List.length_nil, Nat.zero_add] at hLA
              have hSA := lays_sm (es := O) HOSM.out
              have hRB : Ent.rightB (Ent.lays [] (O.map Ent.laid)) = true := rightB_sorted (lays_sorted List.Pairwise.nil) (lays_fine O)
              obtain ⟨L, hL⟩ : ∃ L, L = Ent.lays [] (O.map Ent.laid) := ⟨_, rfl⟩
              rw [← hL] at hTT2 hLA hSA hRB
              have HTT2 := Lib.hid hTT2
              have HRB := Lib.hid hRB
              have HAL : Hid (∀ W, Two wo W w4.heap.size ta tb L L l1 l2 → Calls Try.prog 13 #[.pointer (some ⟨ta, 0, none⟩)] W (ColP W L)) := Lib.hid fun W hW => by
                obtain ⟨_, _, _, _, _, _, h1, _⟩ := hW
                exact tallrow_any _ _ _ L _ _ _ W h1 (by omega) (fun e he => (hSA e he).2) (fun e he => by have := (hSA e he).1; omega)
              have HBL : Hid (∀ W, Two wo W w4.heap.size ta tb L L l1 l2 → Calls Try.prog 13 #[.pointer (some ⟨tb, 0, none⟩)] W (ColP W L)) := Lib.hid fun W hW => by
                obtain ⟨_, _, _, _, _, _, _, h1, _⟩ := hW
                exact tallrow_any _ _ _ L _ _ _ W h1 (by omega) (fun e he => (hSA e he).2) (fun e he => by have := (hSA e he).1; omega)
              have HLN : Hid (∀ W p, (p = ta ∨ p = tb) → Two wo W w4.heap.size ta tb L L l1 l2 → Calls Try.prog 14 #[.pointer (some ⟨p, 0, none⟩)] W fun e w' => e = .returned (.int .i64 L.length) ∧ Below W.heap.size W w') := Lib.hid fun W p hp hW => by
                obtain ⟨_, _, _, _, _, _, h1, h2, _⟩ := hW
                rcases hp with rfl | rfl
                · exact tlen_any _ _ _ _ _ _ _ _ h1
                · exact tlen_any _ _ _ _ _ _ _ _ h2
              have HSZ : Hid (∀ W p, (p = ta ∨ p = tb) → Two wo W w4.heap.size ta tb L L l1 l2 → Calls Try.prog 15 #[.pointer (some ⟨p, 0, none⟩)] W fun e w' => e = .returned (.int .i64 (Ent.costs L)) ∧ Below W.heap.size W w') := Lib.hid fun W p hp hW => by
                obtain ⟨_, _, _, _, _, _, h1, h2, _⟩ := hW
                rcases hp with rfl | rfl
                · exact tsize_any _ _ _ _ _ _ _ _ h1
                · exact tsize_any _ _ _ _ _ _ _ _ h2
              have HTB : Hid (∀ W W', Two wo W w4.heap.size ta tb L L l1 l2 → Below W.heap.size W W' → Two wo W' w4.heap.size ta tb L L l1 l2) := Lib.hid fun W W' hW hb => by
                obtain ⟨bA, gA, sA, bB, gB, sB, h1, h2, h3, h4⟩ := hW
                exact ⟨bA, gA, sA, bB, gB, sB, h1.below hb, h2.below hb, h3, h4.trans (hb.mono h4.size)⟩
              have hLle : Ent.costs L ≤ 1000000000000000 := by have := costs_sm hSA; omega
              have HWB : Hid (Below w.heap.size w wo) := HBWO
              clear hTT hTT2 hLA hSA hRB hL hrl
              go_wp2_with fail
              refine (HAL.out wr HTT2.out).mono ?_
              rintro e v1 ⟨ax, kx, cx, rfl, hax, hbx⟩
              have H1 := Lib.hid (HTB.out _ _ HTT2.out hbx)
              have HX1 := Lib.hid hax.es
              clear hax hbx
              go_wp2_with fail
              refine (HBL.out v1 H1.out).mono ?_
              rintro e v2 ⟨ay, ky, cy, rfl, hay, hby⟩
              have H2 := Lib.hid (HTB.out _ _ H1.out hby)
              have HX2 := Lib.hid (HX1.out.below hby)
              have HY2 := Lib.hid hay.es
              clear hay hby
              go_wp2_with fail
              refine (srows_any ax ay kx cx ky cy L L v2 HX2.out HY2.out).mono ?_
              rintro e v3 ⟨rfl, hb3⟩
              have H3 := Lib.hid (HTB.out _ _ H2.out hb3)
              rw [show decide (L = L) = true by simp]
              clear hb3
              go_wp2_with fail
              refine (HLN.out v3 ta (.inl rfl) H3.out).mono ?_
              rintro e v4 ⟨rfl, hb4⟩
              have H4 := Lib.hid (HTB.out _ _ H3.out hb4)
              clear hb4
              go_wp2_with fail
              refine (HLN.out v4 tb (.inr rfl) H4.out).mono ?_
              rintro e v5 ⟨rfl, hb5⟩
              have H5 := Lib.hid (HTB.out _ _ H4.out hb5)
              clear hb5
              go_wp2_with fail
              refine (HSZ.out v5 ta (.inl rfl) H5.out).mono ?_
              rintro e v6 ⟨rfl, hb6⟩
              have H6 := Lib.hid (HTB.out _ _ H5.out hb6)
              clear hb6
              go_wp2_with fail
              refine (HSZ.out v6 tb (.inr rfl) H6.out).mono ?_
              rintro e v7 ⟨rfl, hb7⟩
              have H7 := Lib.hid (HTB.out _ _ H6.out hb7)
              clear hb7
              go_wp2_with fail
              refine (HAL.out v7 H7.out).mono ?_
              rintro e v8 ⟨az, kz, cz, rfl, haz, hbz⟩
              have H8 := Lib.hid (HTB.out _ _ H7.out hbz)
              have HZ8 := Lib.hid haz.es
              clear haz hbz
              go_wp2_with fail
              refine (refright_any az kz cz L v8 HZ8.out).mono ?_
              rintro e v9 ⟨rfl, hb9⟩
              rw [HRB.out]
              have HFIN : Hid (Below w.heap.size w v9) := Lib.hid (by
                obtain ⟨_, _, _, _, _, _, _, _, _, h4⟩ := HTB.out _ _ H8.out hb9
                exact HWB.out.trans (h4.mono HWB.out.size))
              clear hb9
              go_wp2
              go_ret
              exact ⟨rfl, HFIN.out⟩
end Go.Proofs.Ytgcealgkhlbgmaa
