/- The walk of the law CodecFronts. -/
import Derived.Test.YtfjgapfkobpkhaaCodecR
import Derived.Test.YtfjgapfkobpkhaaCodecK
import Derived.Test.YtfjgapfkobpkhaaCodecT
namespace Go.Proofs.Ytfjgapfkobpkhaa
open Go.RowKit

/-- k frames of 'at' bytes are counted. -/
def Codec.Cnt (ls : List (List UInt8)) (cut k at_ : Nat) : Prop :=
  at_ ≤ cut ∧ Codec.whole ls cut = (k + (Codec.whole (ls.drop k) (cut - at_)).1, at_ + (Codec.whole (ls.drop k) (cut - at_)).2)
theorem cnt_start (ls : List (List UInt8)) (cut : Nat) : Codec.Cnt ls cut 0 0 := ⟨by omega, by simp⟩
theorem drop_cons {ls : List (List UInt8)} {k : Nat} (hk : k < ls.length) : ls.drop k = nth ls k :: ls.drop (k + 1) := by
  rw [nth_eq _ hk, List.drop_eq_getElem_cons hk]
theorem cnt_step {ls : List (List UInt8)} {cut k at_ : Nat} (h : Codec.Cnt ls cut k at_) (hk : k < ls.length) (hl : at_ + (Codec.frame (nth ls k)).length ≤ cut) : Codec.Cnt ls cut (k + 1) (at_ + (Codec.frame (nth ls k)).length) := by
  obtain ⟨h1, h2⟩ := h
  refine ⟨hl, ?_⟩
  have e : Codec.whole (ls.drop k) (cut - at_) = ((Codec.whole (ls.drop (k + 1)) (cut - at_ - (Codec.frame (nth ls k)).length)).1 + 1, (Codec.whole (ls.drop (k + 1)) (cut - at_ - (Codec.frame (nth ls k)).length)).2 + (Codec.frame (nth ls k)).length) := by
    rw [drop_cons hk]
    show (if _ then _ else _) = _
    rw [if_pos (by omega)]
  rw [h2, e, Nat.sub_sub]
  refine Prod.ext ?_ ?_ <;> simp only <;> omega
theorem cnt_stop {ls : List (List UInt8)} {cut k at_ : Nat} (h : Codec.Cnt ls cut k at_) (hk : k < ls.length) (hl : cut < at_ + (Codec.frame (nth ls k)).length) : Codec.whole ls cut = (k, at_) := by
  obtain ⟨h1, h2⟩ := h
  have e : Codec.whole (ls.drop k) (cut - at_) = (0, 0) := by
    rw [drop_cons hk]
    show (if _ then _ else _) = _
    rw [if_neg (by omega)]
  rw [h2, e]
  rfl
theorem cnt_end {ls : List (List UInt8)} {cut k at_ : Nat} (h : Codec.Cnt ls cut k at_) (hk : ls.length ≤ k) : Codec.whole ls cut = (k, at_) := by
  obtain ⟨h1, h2⟩ := h
  have e : Codec.whole (ls.drop k) (cut - at_) = (0, 0) := by
    rw [List.drop_eq_nil_of_le hk]
    rfl
  rw [h2, e]
  rfl
theorem part_le_tot {ls : List (List UInt8)} {x : List UInt8} (h : x ∈ ls) : x.length ≤ tot ls := by
  unfold tot
  obtain ⟨a, b, rfl⟩ := List.append_of_mem h
  simp
  omega
theorem nth_mem {ls : List (List UInt8)} {k : Nat} (hk : k < ls.length) : nth ls k ∈ ls := by rw [nth_eq _ hk]; exact List.getElem_mem hk

set_option maxHeartbeats 8000000 in
theorem codecFronts_walk (al : Option Addr) (nl cl : Nat) (ls : List (List UInt8)) (cut : Int) (w : World) (hl : Bss w al nl cl ls) (hn : tot ls + nl ≤ 2000000) :
    Calls Try.prog 8 #[.slice al nl cl, .int .i64 cut] w fun e w' => e = .returned (.bool true) ∧ Below w.heap.size w w' := by
  have hlel := hl.le.1
  have hne : ∀ k : Nat, ((k : Int) != (k : Int)) = false := fun k => by simp
  have ft : Fits (tot ls) := ⟨by omega⟩
  have HL := Lib.hid hl.1
  go_enter Try.func8, Try.ntmps8
  go_wp2_with fail
  refine (known_any _).mono ?_
  rintro e w1 ⟨rfl, hb1⟩
  go_wp2_with fail
  refine (total_any _ _ _ ls _ (hl.below hb1) ft).mono ?_
  rintro e w2 ⟨rfl, rfl⟩
  by_cases g2 : 65536 < tot ls
  · have t2 : decide ((65536 : Int) < (tot ls : Int)) = true := by simp; omega
    go_wp2
    go_ret
    exact ⟨rfl, hb1⟩
  have t2 : decide ((65536 : Int) < (tot ls : Int)) = false := by simp; omega
  by_cases g3 : 1000 < nl
  · have t3 : decide ((1000 : Int) < (nl : Int)) = true := by simp; omega
    go_wp2
    go_ret
    exact ⟨rfl, hb1⟩
  have t3 : decide ((1000 : Int) < (nl : Int)) = false := by simp; omega
  have hT : tot ls ≤ 65536 := by omega
  have hnl : nl ≤ 1000 := by omega
  have hpl : ∀ k, k < nl → (nth ls k).length ≤ 65536 := fun k hk => Nat.le_trans (part_le_tot (nth_mem (by rw [HL.out]; exact hk))) hT
  have HX : Hid (∀ x ∈ ls, x.length ≤ 67108864) := Lib.hid (fun x hx => by have := part_le_tot hx; omega)
  clear g2 g3 hn
  go_wp2_with fail
  refine (frames_any _ _ _ ls _ (hl.below hb1) ⟨by rw [HL.out]; omega⟩).mono ?_
  rintro e w3 ⟨a3, n3, c3, rfl, h3, hb3⟩
  have hbl3 := hb1.trans (hb3.mono hb1.size)
  have hbs3 := h3.bs
  have hle3 := hbs3.le.1
  have H3 := Lib.hid hbs3.1
  clear h3 hb3 t2 t3
  by_cases g4 : cut < 0
  · have t4 : decide (cut < 0) = true := decide_eq_true g4
    go_wp2
    go_ret
    exact ⟨rfl, hbl3⟩
  obtain ⟨C, rfl⟩ : ∃ C : Nat, cut = (C : Int) := ⟨cut.toNat, by omega⟩
  have t4 : decide ((C : Int) < 0) = false := decide_eq_false (by omega)
  by_cases g5 : n3 < C
  · have t5 : decide (n3 < C) = true := decide_eq_true (by omega)
    clear g4
    go_wp2
    go_ret
    exact ⟨rfl, hbl3⟩
  have t5 : decide (n3 < C) = false := decide_eq_false (by omega)
  have hC : C ≤ n3 := by omega
  have hn3 : n3 ≤ 200000 := by
    have h1 := frames_len ls (fun x hx => ⟨by have := HX.out x hx; omega⟩)
    have h2 := H3.out
    have h3 := HL.out
    omega
  have hCc : C ≤ c3 := Nat.le_trans hC hbs3.2.1
  have hs := fun w => slice_h a3 n3 c3 (hi := (C : Int)) (hi' := C) rfl hCc w
  have hfr := Codec.rdFrames_front HX.out (cut := C) (by rw [H3.out]; exact hC)
  have HF := Lib.hid hfr
  clear g4 g5 hfr
  go_wp2_with fail
  refine (readframes_any _ _ _ _ _ (hbs3.take hC) ⟨by omega⟩ (by omega)).mono ?_
  rintro e w7 ⟨a7, n7, c7, rfl, h7, hb7⟩
  have hbl7 := hbl3.trans (hb7.mono hbl3.size)
  rw [HF.out] at h7 ⊢
  have h7' := h7.bss
  clear h7 hb7 hs t4 t5 hbs3 HF H3
  have hw := Codec.whole_le ls C
  rw [HL.out] at hw
  have hlen7 : n7 = (Codec.whole ls C).1 := by
    have := h7'.1
    rw [List.length_take, HL.out] at this
    omega
  have hcnt := Lib.hid (cnt_start ls C)
  generalize hWW : Codec.whole ls C = W2 at *
  obtain ⟨K, A⟩ := W2
  dsimp only at *
  subst n7
  have HW := Lib.hid hWW
  clear hWW
  obtain ⟨E, hE⟩ : ∃ E : Int, ((if A = C then 0 else 11 : Nat) : Int) = E := ⟨_, rfl⟩
  rw [hE]
  have HE := Lib.hid hE
  clear hE
  go_wp2_with fail
  have HB7 := Lib.hid hbl7
  go_loopw [9, 10] (fun v i wr => ∃ (k a : Nat), k ≤ nl ∧ i = .int .i64 k ∧ v = .int .i64 a ∧ a ≤ C ∧ Hid (Codec.Cnt ls C k a) ∧ Below w7.heap.size w7 wr) (fun _ i _ => nl - (intOf i).toNat)
  case atStart => exact ⟨0, 0, by omega, rfl, rfl, by omega, hcnt, Below.refl _ _⟩
  case round =>
    clear hcnt
    obtain ⟨k, a, hk, rfl, rfl, haC, hcnt, hbl⟩ := hrel
    by_cases hlt : k < nl
    · obtain ⟨b, off, ai, ni, ci, rfl, hc, hr⟩ := ((hl.below HB7.out).below hbl).get hlt
      have hpk := hpl k hlt
      have hlk := hr.1
      have hlenf := frame_len (x := nth ls k) ⟨by omega⟩
      have HR := Lib.hid hr
      have hf20 : Fits (ni + 20) := ⟨by omega⟩
      by_cases hfit : a + (Codec.frame (nth ls k)).length ≤ C
      · have hst := cnt_step hcnt.out (by rw [HL.out]; exact hlt) hfit
        generalize hFL : (Codec.frame (nth ls k)).length = FL at *
        have HFL := Lib.hid hFL
        have HST := Lib.hid hst
        have t6 : decide ((a : Int) + (FL : Int) ≤ (C : Int)) = true := decide_eq_true (by omega)
        have hFL2 : FL ≤ 100000 := by omega
        clear hst hFL hr hlk hlenf
        go_wp2_with fail
        refine (frame_any _ _ _ _ _ HR.out hf20).mono ?_
        rintro e w8 ⟨a8, n8_, c8, rfl, ho8, hb8⟩
        obtain rfl : n8_ = FL := by rw [← HFL.out]; exact ho8.bs.1.symm
        have hbl8 := hbl.trans (hb8.mono hbl.size)
        have HR8 := Lib.hid (HR.out.below hb8)
        have hc8 := cell_later hb8 hc
        clear ho8 hb8 hc
        go_wp2_with fail
        refine (frame_any _ _ _ _ _ HR8.out hf20).mono ?_
        rintro e w9 ⟨a9, n9, c9, rfl, ho9, hb9⟩
        obtain rfl : n9 = n8_ := by rw [← HFL.out]; exact ho9.bs.1.symm
        have hbl9 := hbl8.trans (hb9.mono hbl8.size)
        go_wp2
        go_roundw
        case rel => exact ⟨k + 1, a + n9, by omega, by go_num, by go_num, by omega, HST, hbl9⟩
        case measure => simp [intOf]; omega
      · have hst := cnt_stop hcnt.out (by rw [HL.out]; exact hlt) (by omega)
        generalize hFL : (Codec.frame (nth ls k)).length = FL at *
        have HFL := Lib.hid hFL
        have HST := Lib.hid hst
        have t6 : decide ((a : Int) + (FL : Int) ≤ (C : Int)) = false := decide_eq_false (by omega)
        have hFL2 : FL ≤ 100000 := by omega
        clear hst hFL hr hlk hlenf
        go_wp2_with fail
        refine (frame_any _ _ _ _ _ HR.out hf20).mono ?_
        rintro e w8 ⟨a8, n8_, c8, rfl, ho8, hb8⟩
        obtain rfl : n8_ = FL := by rw [← HFL.out]; exact ho8.bs.1.symm
        have hbl8 := hbl.trans (hb8.mono hbl.size)
        clear ho8 hb8 hc HR
        replace hbl := hbl8
        clear hbl8 hfit hpk
        have e9 := HST.out
        have e10 := HW.out.symm.trans e9
        have eK : K = k := congrArg Prod.fst e10
        have eA : A = a := congrArg Prod.snd e10
        subst K
        subst A
        clear e9 e10
        have s1 := hne k
        have s2 := hne a
        by_cases hAC : a = C
        · have hE : E = 0 := by rw [← HE.out, if_pos hAC]; rfl
          subst hE
          have s3 : ((a : Int) == (C : Int)) = true := by rw [beq_iff_eq]; omega
          have s4 : ((a : Int) != (C : Int)) = false := by rw [bne_eq_false_iff_eq]; omega
          clear hAC HE
          go_wp2_with fail
          clear s1 s2 s3 s4 t6
          have HBL := Lib.hid (HB7.out.trans (hbl.mono HB7.out.size))
          have H7 := Lib.hid (h7'.below hbl)
          have H8 := Lib.hid (hl.below HBL.out)
          go_loopw [11] (fun i ws => ∃ j : Nat, j ≤ k ∧ i = .int .i64 j ∧ Below w8.heap.size w8 ws) (fun i _ => k - (intOf i).toNat)
          case atStart => exact ⟨0, by omega, rfl, Below.refl _ _⟩
          case round =>
            obtain ⟨j, hj, rfl, hbj⟩ := hrel
            by_cases hjt : j < k
            · obtain ⟨b1, o1, a1, m1, d1, rfl, hc1, hr1⟩ := (H7.out.below hbj).get hjt
              obtain ⟨b2, o2, a2, m2, d2, e2, hc2, hr2⟩ := (H8.out.below hbj).get (i := j) (by omega); cases e2
              have hnt : nth (ls.take k) j = nth ls j := nth_take ls hjt (by rw [HL.out]; omega)
              rw [hnt] at hr1
              have G1 := Lib.hid (hr1.below (Below.refl _ _).drew)
              have G2 := Lib.hid (hr2.below (Below.refl _ _).drew)
              clear hr1 hr2 hnt
              go_wp2_with fail
              go_region_with (go_at_call 17; refine (same_any _ _ _ _ _ _ _ _ _ G1.out G2.out).mono ?_; rintro e w9 ⟨rfl, rfl⟩; rw [show decide (nth ls j = nth ls j) = true from decide_eq_true rfl])
              all_goals go_wp2
              all_goals go_roundw
              all_goals first | (simp [intOf]; omega) | exact ⟨j + 1, by omega, by go_num, hbj.drew⟩
            · obtain rfl : j = k := by omega
              go_wp2
              go_ret
              exact ⟨rfl, HBL.out.trans (hbj.mono HBL.out.size)⟩
        · have hE : E = 11 := by rw [← HE.out, if_neg hAC]; rfl
          subst hE
          have s3 : ((a : Int) == (C : Int)) = false := by rw [beq_eq_false_iff_ne]; omega
          have s4 : ((a : Int) != (C : Int)) = true := by rw [bne_iff_ne]; omega
          clear hAC HE
          go_wp2_with fail
          clear s1 s2 s3 s4 t6
          have HBL := Lib.hid (HB7.out.trans (hbl.mono HB7.out.size))
          have H7 := Lib.hid (h7'.below hbl)
          have H8 := Lib.hid (hl.below HBL.out)
          go_loopw [11] (fun i ws => ∃ j : Nat, j ≤ k ∧ i = .int .i64 j ∧ Below w8.heap.size w8 ws) (fun i _ => k - (intOf i).toNat)
          case atStart => exact ⟨0, by omega, rfl, Below.refl _ _⟩
          case round =>
            obtain ⟨j, hj, rfl, hbj⟩ := hrel
            by_cases hjt : j < k
            · obtain ⟨b1, o1, a1, m1, d1, rfl, hc1, hr1⟩ := (H7.out.below hbj).get hjt
              obtain ⟨b2, o2, a2, m2, d2, e2, hc2, hr2⟩ := (H8.out.below hbj).get (i := j) (by omega); cases e2
              have hnt : nth (ls.take k) j = nth ls j := nth_take ls hjt (by rw [HL.out]; omega)
              rw [hnt] at hr1
              have G1 := Lib.hid (hr1.below (Below.refl _ _).drew)
              have G2 := Lib.hid (hr2.below (Below.refl _ _).drew)
              clear hr1 hr2 hnt
              go_wp2_with fail
              go_region_with (go_at_call 17; refine (same_any _ _ _ _ _ _ _ _ _ G1.out G2.out).mono ?_; rintro e w9 ⟨rfl, rfl⟩; rw [show decide (nth ls j = nth ls j) = true from decide_eq_true rfl])
              all_goals go_wp2
              all_goals go_roundw
              all_goals first | (simp [intOf]; omega) | exact ⟨j + 1, by omega, by go_num, hbj.drew⟩
            · obtain rfl : j = k := by omega
              go_wp2
              go_ret
              exact ⟨rfl, HBL.out.trans (hbj.mono HBL.out.size)⟩
    · have hst := cnt_end hcnt.out (by rw [HL.out]; omega)
      have HST := Lib.hid hst
      clear hst
      have e9 := HST.out
      have e10 := HW.out.symm.trans e9
      have eK : K = k := congrArg Prod.fst e10
      have eA : A = a := congrArg Prod.snd e10
      subst K
      subst A
      clear e9 e10
      have s1 := hne k
      have s2 := hne a
      by_cases hAC : a = C
      · have hE : E = 0 := by rw [← HE.out, if_pos hAC]; rfl
        subst hE
        have s3 : ((a : Int) == (C : Int)) = true := by rw [beq_iff_eq]; omega
        have s4 : ((a : Int) != (C : Int)) = false := by rw [bne_eq_false_iff_eq]; omega
        clear hAC HE
        go_wp2_with fail
        clear s1 s2 s3 s4
        have HBL := Lib.hid (HB7.out.trans (hbl.mono HB7.out.size))
        have H7 := Lib.hid (h7'.below hbl)
        have H8 := Lib.hid (hl.below HBL.out)
        go_loopw [11] (fun i ws => ∃ j : Nat, j ≤ k ∧ i = .int .i64 j ∧ Below wr.heap.size wr ws) (fun i _ => k - (intOf i).toNat)
        case atStart => exact ⟨0, by omega, rfl, Below.refl _ _⟩
        case round =>
          obtain ⟨j, hj, rfl, hbj⟩ := hrel
          by_cases hjt : j < k
          · obtain ⟨b1, o1, a1, m1, d1, rfl, hc1, hr1⟩ := (H7.out.below hbj).get hjt
            obtain ⟨b2, o2, a2, m2, d2, e2, hc2, hr2⟩ := (H8.out.below hbj).get (i := j) (by omega); cases e2
            have hnt : nth (ls.take k) j = nth ls j := nth_take ls hjt (by rw [HL.out]; omega)
            rw [hnt] at hr1
            have G1 := Lib.hid (hr1.below (Below.refl _ _).drew)
            have G2 := Lib.hid (hr2.below (Below.refl _ _).drew)
            clear hr1 hr2 hnt
            go_wp2_with fail
            go_region_with (go_at_call 17; refine (same_any _ _ _ _ _ _ _ _ _ G1.out G2.out).mono ?_; rintro e w9 ⟨rfl, rfl⟩; rw [show decide (nth ls j = nth ls j) = true from decide_eq_true rfl])
            all_goals go_wp2
            all_goals go_roundw
            all_goals first | (simp [intOf]; omega) | exact ⟨j + 1, by omega, by go_num, hbj.drew⟩
          · obtain rfl : j = k := by omega
            go_wp2
            go_ret
            exact ⟨rfl, HBL.out.trans (hbj.mono HBL.out.size)⟩
      · have hE : E = 11 := by rw [← HE.out, if_neg hAC]; rfl
        subst hE
        have s3 : ((a : Int) == (C : Int)) = false := by rw [beq_eq_false_iff_ne]; omega
        have s4 : ((a : Int) != (C : Int)) = true := by rw [bne_iff_ne]; omega
        clear hAC HE
        go_wp2_with fail
        clear s1 s2 s3 s4
        have HBL := Lib.hid (HB7.out.trans (hbl.mono HB7.out.size))
        have H7 := Lib.hid (h7'.below hbl)
        have H8 := Lib.hid (hl.below HBL.out)
        go_loopw [11] (fun i ws => ∃ j : Nat, j ≤ k ∧ i = .int .i64 j ∧ Below wr.heap.size wr ws) (fun i _ => k - (intOf i).toNat)
        case atStart => exact ⟨0, by omega, rfl, Below.refl _ _⟩
        case round =>
          obtain ⟨j, hj, rfl, hbj⟩ := hrel
          by_cases hjt : j < k
          · obtain ⟨b1, o1, a1, m1, d1, rfl, hc1, hr1⟩ := (H7.out.below hbj).get hjt
            obtain ⟨b2, o2, a2, m2, d2, e2, hc2, hr2⟩ := (H8.out.below hbj).get (i := j) (by omega); cases e2
            have hnt : nth (ls.take k) j = nth ls j := nth_take ls hjt (by rw [HL.out]; omega)
            rw [hnt] at hr1
            have G1 := Lib.hid (hr1.below (Below.refl _ _).drew)
            have G2 := Lib.hid (hr2.below (Below.refl _ _).drew)
            clear hr1 hr2 hnt
            go_wp2_with fail
            go_region_with (go_at_call 17; refine (same_any _ _ _ _ _ _ _ _ _ G1.out G2.out).mono ?_; rintro e w9 ⟨rfl, rfl⟩; rw [show decide (nth ls j = nth ls j) = true from decide_eq_true rfl])
            all_goals go_wp2
            all_goals go_roundw
            all_goals first | (simp [intOf]; omega) | exact ⟨j + 1, by omega, by go_num, hbj.drew⟩
          · obtain rfl : j = k := by omega
            go_wp2
            go_ret
            exact ⟨rfl, HBL.out.trans (hbj.mono HBL.out.size)⟩
end Go.Proofs.Ytfjgapfkobpkhaa
