/- The walk of the law CodecWrites. -/
import Derived.Test.YtfjgapfkobpkhaaCodecK
namespace Go.Proofs.Ytfjgapfkobpkhaa
open Go.RowKit

/-- What 'append([]byte{}, b...)' gives. -/
theorem fits_of {n k : Nat} (h : n ≤ k) (hk : k ≤ 140737488355300) : Fits n := ⟨by omega⟩

set_option maxHeartbeats 2000000 in
theorem codecWrites_walk (a al : Option Addr) (n c nl cl : Nat) (l : List UInt8) (ls : List (List UInt8)) (v : Nat) (w : World) (h : Bs w a n c l) (hl : Bss w al nl cl ls) (hv : U64 v) (hn : n + tot ls + 20 * nl ≤ 100000000) :
    Calls Try.prog 5 #[.slice a n c, .int .u64 v, .slice al nl cl] w fun e w' => e = .returned (.bool true) ∧ Below w.heap.size w w' := by
  have hle := h.le.1
  have hlel := hl.le.1
  have ft : Fits (tot ls) := ⟨by omega⟩
  go_enter Try.func5, Try.ntmps5
  go_wp2_with fail
  refine (known_any _).mono ?_
  rintro e w1 ⟨rfl, hb1⟩
  have h1 := h.below hb1
  have hl1 := hl.below hb1
  by_cases g1 : 65536 < n
  · have t1 : decide ((65536 : Int) < (n : Int)) = true := by simp; omega
    go_wp2
    go_ret
    exact ⟨rfl, hb1⟩
  have t1 : decide ((65536 : Int) < (n : Int)) = false := by simp; omega
  go_wp2_with fail
  refine (total_any _ _ _ ls _ hl1 ft).mono ?_
  rintro e w2 ⟨rfl, rfl⟩
  by_cases g2 : 65536 < tot ls
  · have t2 : decide ((65536 : Int) < (tot ls : Int)) = true := by simp; omega
    go_wp2
    go_ret
    exact ⟨rfl, hb1⟩
  have t2 : decide ((65536 : Int) < (tot ls : Int)) = false := by simp; omega
  by_cases g3 : 1000 < nl
  · have t3 : decide ((1000 : Int) < (nl : Int)) = true := by simp; omega
    go_wp2
    go_ret
    exact ⟨rfl, hb1⟩
  have t3 : decide ((1000 : Int) < (nl : Int)) = false := by simp; omega
  clear g1 g2 g3
  go_wp2_with (at_builtin; refine app_own rfl _ _ rfl w.heap.size rfl (Own.lit w1 w.heap.size [] hb1.size (by simp [maxLen])) rfl (h1.below ((Below.refl _ _).alloc (Nat.le_refl _) _)) (by simp; omega) (le_alloc hb1.size) ?_; intro am cm w2 hm hb2 _)
  simp only [List.length_nil, Nat.zero_add, List.nil_append] at hm
  have hb2' := (hb1.alloc hb1.size _).trans hb2
  have fn : Fits n := ⟨by omega⟩
  have lm : l.length = n := hm.bs.1
  go_wp2_with fail
  refine (number_any _ _ _ l v _ hm.bs hv fn).mono ?_
  rintro e w3 ⟨a3, n3, c3, rfl, ho3, hb3⟩
  have hb3' := hb2'.trans (hb3.mono hb2'.size)
  have h3 := h.below hb3'
  have LM := Lib.hid lm
  clear lm
  go_wp2_with (at_builtin; refine app_own rfl _ _ rfl w3.heap.size rfl (Own.lit w3 w3.heap.size [] (Nat.le_refl _) (by simp [maxLen])) rfl (h3.below ((Below.refl _ _).alloc (Nat.le_refl _) _)) (by simp; omega) (le_alloc (Nat.le_refl _)) ?_; intro a4 c4 w4 h4 hb4 _)
  simp only [List.length_nil, Nat.zero_add, List.nil_append] at h4
  have hb34 := ((Below.refl w3.heap.size w3).alloc (Nat.le_refl _) _).trans hb4
  have hb4' := hb3'.trans (hb34.mono hb3'.size)
  go_wp2_with fail
  refine (refnumber_any w3.heap.size _ _ _ l v _ hb34.size h4.app hv fn).mono ?_
  rintro e w5 ⟨a5, n5, c5, rfl, ho5, hb5, _⟩
  have hb35 := hb34.trans hb5
  have hb5' := hb3'.trans (hb35.mono hb3'.size)
  have ho35 := ho3.below hb35
  go_wp2_with fail
  refine (same_any _ _ _ _ _ _ _ _ _ ho35.bs ho5.bs).mono ?_
  rintro e w6 ⟨rfl, rfl⟩
  have e6 : decide (l ++ Codec.enc v = l ++ Codec.enc v) = true := by simp
  rw [e6]
  have hm5 := (hm.below hb3).below (hb35)
  have hl5 := hl.below hb5'
  go_wp2_with fail
  refine (bytes_any _ _ _ _ _ _ l ls _ hm5.bs hl5 ⟨by omega⟩).mono ?_
  rintro e w7 ⟨a7, n7, c7, rfl, ho7, hb7⟩
  have hb7' := hb5'.trans (hb7.mono hb5'.size)
  have h7 := h.below hb7'
  go_wp2_with (at_builtin; refine app_own rfl _ _ rfl w7.heap.size rfl (Own.lit w7 w7.heap.size [] (Nat.le_refl _) (by simp [maxLen])) rfl (h7.below ((Below.refl _ _).alloc (Nat.le_refl _) _)) (by simp; omega) (le_alloc (Nat.le_refl _)) ?_; intro a8 c8 w8 h8 hb8 _)
  simp only [List.length_nil, Nat.zero_add, List.nil_append] at h8
  have hb78 := ((Below.refl w7.heap.size w7).alloc (Nat.le_refl _) _).trans hb8
  have hb8' := hb7'.trans (hb78.mono hb7'.size)
  go_wp2_with fail
  refine (joined_any _ _ _ ls _ (hl.below hb8') ft).mono ?_
  rintro e w9 ⟨a9, n9, c9, rfl, ho9, hb9⟩
  have L9 : Hid (tot ls = n9) := Lib.hid ho9.bs.1
  have hb79 := hb78.trans (hb9.mono hb78.size)
  have hb9' := hb7'.trans (hb79.mono hb7'.size)
  have h89 := h8.below hb9
  go_wp2_with fail
  refine (refbytes_any w7.heap.size _ _ _ _ _ _ l ls.flatten _ hb79.size h89.app ho9.bs (by
    intro _ y z hy hz
    have g1 := (ho9.new y hy).1
    have g2 := (h8.new z hz).2
    omega) ⟨by have := L9.out; omega⟩).mono ?_
  rintro e w10 ⟨a10, n10, c10, rfl, ho10, hb10⟩
  have hb710 := hb79.trans hb10
  have hb10' := hb7'.trans (hb710.mono hb7'.size)
  have ho710 := ho7.below hb710
  go_wp2_with fail
  refine (same_any _ _ _ _ _ _ _ _ _ ho710.bs ho10.bs).mono ?_
  rintro e w11 ⟨rfl, rfl⟩
  have e11 : decide (l ++ Codec.bytes ls = l ++ (Codec.enc n9 ++ ls.flatten)) = true := by
    rw [← L9.out]; simp [Codec.bytes, tot]
  rw [e11]
  have hm10 := ((hm5.below hb7).below hb710)
  go_wp2_with fail
  refine (same_any _ _ _ _ _ _ _ _ _ hm10.bs (h.below hb10')).mono ?_
  rintro e w12 ⟨rfl, rfl⟩
  have e12 : decide (l = l) = true := by simp
  rw [e12]
  have HNL := Lib.hid hl.1
  clear hm5 hl5 h7 h8 h89 ho7 ho9 ho10 ho710 hb8 hb9 hb10 h3 h4 ho3 ho5 ho35 hb4 hb5 hb7
  go_wp2_with fail
  go_loopw [8, 9] (fun s i wr => ∃ (k : Nat) (a' : Option Addr) (m c' : Nat), k ≤ nl ∧ i = .int .i64 k ∧ s = .slice a' m c' ∧ Own wr w.heap.size a' m c' (Codec.frames (ls.take k)) ∧ Below w.heap.size w wr) (fun _ i _ => nl - (intOf i).toNat)
  case atStart => exact ⟨0, none, 0, 0, by omega, rfl, rfl, Own.nil _ _, hb10'⟩
  case round =>
    obtain ⟨k, a', m, c', hk, rfl, rfl, hown, hb⟩ := hrel
    have hbz := hb.size
    by_cases hlt : k < nl
    · obtain ⟨b, off, ai, ni, ci, hal, hc, hr⟩ := (hl.below hb).get hlt
      obtain ⟨_, _, ai', ni', ci', hal', hc', hr'⟩ := hl.get hlt
      subst hal
      cases hal'
      have hsame := hc.symm.trans (cell_later hb hc')
      cases hsame
      have hroom := frames_room (ls := ls) (i := k) (by rw [HNL.out]; exact hlt) ⟨by rw [HNL.out]; omega⟩
      have HF := Lib.hid (frames_snoc ls (i := k) (by rw [HNL.out]; exact hlt))
      have hmm := hown.bs.1
      rw [hr.1] at hroom
      have hft : Fits (m + ni + 20) := ⟨by
        have g1 := frames_len (ls.take k) (by
          intro x hx
          obtain ⟨l1, l2, e⟩ := List.append_of_mem (List.mem_of_mem_take hx)
          have : tot ls = l1.flatten.length + (x.length + l2.flatten.length) := by rw [e]; simp [tot, List.flatten_append]
          exact ⟨by omega⟩)
        have g2 := tot_le ls k
        have g3 : (ls.take k).length ≤ nl := by rw [← HNL.out]; simp; omega
        have g4 := hroom.2.le
        have g5 := tot_snoc ls (i := k) (by rw [HNL.out]; exact hlt)
        have g6 := tot_le ls (k + 1)
        rw [hr.1] at g5
        omega⟩
      have hne : 0 < ni → ∀ y z, ai = some y → a' = some z → y.block ≠ z.block := by
        intro h0 y z hy hz
        have g1 := hr'.old h0 y hy
        have g2 := (hown.new z hz).1
        omega
      clear hroom hmm
      go_wp2_with fail
      refine (refframe_any w.heap.size _ _ _ _ _ _ _ _ _ hbz hown.app hr hne hft).mono ?_
      rintro e w11 ⟨a1, n1, c1, rfl, ho1, hb1⟩
      have HG : Own w11 w.heap.size a1 n1 c1 (Codec.frames (ls.take (k + 1))) ∧ Below w.heap.size w w11 := ⟨by rw [HF.out]; exact ho1, hb.trans hb1⟩
      clear hown ho1
      go_wp2
      go_roundw
      case rel => exact ⟨k + 1, _, _, _, by omega, by go_num, rfl, HG⟩
      case measure => simp [intOf]; omega
    · obtain rfl : k = nl := by omega
      have hall : Own wr w.heap.size a' m c' (Codec.frames ls) := by rw [← HNL.out, List.take_length] at hown; exact hown
      clear hown
      go_wp2_with fail
      refine (joined_any _ _ _ ls _ (hl.below hb) ft).mono ?_
      rintro e w11 ⟨a11, n11, c11, rfl, ho11, hb11⟩
      have hb11' := hb.trans (hb11.mono hbz)
      have L11 : Hid (tot ls = n11) := Lib.hid ho11.bs.1
      go_wp2_with fail
      refine (frame_any _ _ _ ls.flatten _ ho11.bs ⟨by have := L11.out; omega⟩).mono ?_
      rintro e w12 ⟨a12, n12, c12, rfl, ho12, hb12⟩
      have hb12' := hb11'.trans (hb12.mono hb11'.size)
      go_wp2_with fail
      refine (joined_any _ _ _ ls _ (hl.below hb12') ft).mono ?_
      rintro e w13 ⟨a13, n13, c13, rfl, ho13, hb13⟩
      have hb13' := hb12'.trans (hb13.mono hb12'.size)
      have L13 : Hid (tot ls = n13) := Lib.hid ho13.bs.1
      go_wp2_with fail
      refine (refframe_any w13.heap.size none _ 0 0 _ _ [] ls.flatten _ (Nat.le_refl _) (Own.nil _ _).app ho13.bs (by intro _ y z _ hz; cases hz) ⟨by have := L13.out; omega⟩).mono ?_
      rintro e w14 ⟨a14, n14, c14, rfl, ho14, hb14⟩
      have hb14' := hb13'.trans (hb14.mono hb13'.size)
      have ho12' := (ho12.below hb13).below hb14
      go_wp2_with fail
      refine (same_any _ _ _ _ _ _ _ _ _ ho12'.bs ho14.bs).mono ?_
      rintro e w15 ⟨rfl, rfl⟩
      have e15 : decide (Codec.frame ls.flatten = [] ++ Codec.frame ls.flatten) = true := by simp
      rw [e15]
      go_wp2_with fail
      refine (frames_any _ _ _ ls _ (hl.below hb14') ⟨by rw [HNL.out]; omega⟩).mono ?_
      rintro e w16 ⟨a16, n16, c16, rfl, ho16, hb16⟩
      have hb16' := hb14'.trans (hb16.mono hb14'.size)
      have hall' := ((((hall.below hb11).below hb12).below hb13).below hb14).below hb16
      go_wp2_with fail
      refine (same_any _ _ _ _ _ _ _ _ _ ho16.bs hall'.bs).mono ?_
      rintro e w17 ⟨rfl, rfl⟩
      have e17 : decide (Codec.frames ls = Codec.frames ls) = true := by simp
      rw [e17]
      go_wp2
      go_ret
      exact ⟨rfl, hb16'⟩
end Go.Proofs.Ytfjgapfkobpkhaa
