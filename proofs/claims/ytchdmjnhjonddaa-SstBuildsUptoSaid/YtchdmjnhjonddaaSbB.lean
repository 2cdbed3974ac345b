/- Sorted tables: the reference's entry, eight; rows of blocks. -/
import Derived.Test.YtchdmjnhjonddaaSbA
set_option maxRecDepth 100000
set_option linter.unusedVariables false
set_option linter.unusedSimpArgs false
namespace Go.Proofs.Ytchdmjnhjonddaa
open Go.RowKit

set_option maxHeartbeats 400000 in
theorem refbytes_e (B : Nat) (a ax : Option Addr) (n c m cx : Nat) (l x : List UInt8) (w : World) (hB : B ≤ w.heap.size) (h : AppB w B a n c l) (hx : Bs w ax m cx x) (hne : 0 < m → ∀ y z, ax = some y → a = some z → y.block ≠ z.block) (hn : Fits (n + m + 10)) :
    Calls Try.prog 71 #[.slice a n c, .slice ax m cx] w (RetE w B a (l ++ (Codec.enc m ++ x))) := by
  have hle := hx.le.1
  have hu : U64 m := ⟨by have := hn.le; omega⟩
  have hf : Fits n := ⟨by have := hn.le; omega⟩
  go_enter Try.func71, Try.ntmps71
  go_wp2_with fail
  refine (refnumber_any B _ _ _ l _ _ hB h hu hf).mono ?_
  rintro e w1 ⟨a1, n1, c1, rfl, ho, hb, hev⟩
  have hx1 := hx.evol hev hne
  have hroom : n1 + m ≤ 140737488355328 := by
    have := ho.bs.1; have := hn.le; have := h.bs.1; have := Codec.enc_len10 hu.lt; simp only [List.length_append] at *; omega
  go_wp2_with (at_builtin; refine app_own rfl _ _ rfl B rfl ho rfl hx1 hroom (Nat.le_trans hB hb.size) ?_; intro a'' c'' w' h1 h2 h3)
  go_ret
  exact ⟨_, _, _, rfl, by rw [← List.append_assoc]; exact h1, hb.trans h2, hev.trans h3⟩


set_option maxHeartbeats 400000 in
theorem refframe_e (B : Nat) (a ax : Option Addr) (n c m cx : Nat) (l x : List UInt8) (w : World) (hB : B ≤ w.heap.size) (h : AppB w B a n c l) (hx : Bs w ax m cx x) (hne : 0 < m → ∀ y z, ax = some y → a = some z → y.block ≠ z.block) (hn : Fits (n + m + 20)) :
    Calls Try.prog 42 #[.slice a n c, .slice ax m cx] w (RetE w B a (l ++ Codec.frame x)) := by
  have hle := hx.le.1
  have hu : U64 m := ⟨by have := hn.le; omega⟩
  have hf : Fits n := ⟨by have := hn.le; omega⟩
  have HX := Lib.hid hx.1
  go_enter Try.func42, Try.ntmps42
  go_wp2_with fail
  refine (refnumber_any B _ _ _ l _ _ hB h hu hf).mono ?_
  rintro e w1 ⟨a1, n1, c1, rfl, ho, hb, hev⟩
  have hx1 := hx.evol hev hne
  have hl1 : n1 + m + 4 ≤ 140737488355328 := by
    have := ho.bs.1; have := hn.le; have := h.bs.1; have := Codec.enc_len10 hu.lt; simp only [List.length_append] at *; omega
  go_wp2_with fail
  refine (refsum_any _ _ _ x _ hx1).mono ?_
  rintro e w2 ⟨rfl, rfl⟩
  go_wp2_with fail
  refine (four_any B _ _ _ _ _ _ (Nat.le_trans hB hb.size) ho (by omega)).mono ?_
  rintro e w2 ⟨a2, n2, c2, rfl, ho2, hb2, hev2⟩
  have hx2 := hx.evol (hev.trans hev2) hne
  have hl2 : n2 + m ≤ 140737488355328 := by
    have h1 := ho2.bs.1; have h2 := ho.bs.1
    rw [List.length_append, h2] at h1
    have : (Codec.four (Codec.sum x)).length = 4 := rfl
    omega
  go_wp2_with (at_builtin; refine app_own rfl _ _ rfl B rfl ho2 rfl hx2 hl2 (Nat.le_trans hB (Nat.le_trans hb.size hb2.size)) ?_; intro a'' c'' w' h1 h2 h3)
  go_ret
  refine ⟨_, _, _, rfl, ?_, (hb.trans hb2).trans h2, (hev.trans hev2).trans h3⟩
  unfold Codec.frame
  rw [HX.out]
  simpa [List.append_assoc] using h1

set_option maxHeartbeats 4000000 in
theorem rent_any (B : Nat) (a : Option Addr) (n c : Nat) (l : List UInt8) (e : Ent) (ae : Option Addr) (ce : Nat) (w : World) (hB : B ≤ w.heap.size) (h : Own w B a n c l) (he : Bs w ae e.val.length ce e.val) (hne : 0 < e.val.length → ∀ y z, ae = some y → a = some z → y.block ≠ z.block) (hs : U64 e.seq) (hn : n + e.key.length + e.val.length ≤ 1000000000) :
    Calls Try.prog 41 #[.slice a n c, ev e ae ce] w (RetE w B a (l ++ Sst.ent e)) := by
  have hb1 := below_alloc1 w (.cells #[.string (bstr e.key), .int .u64 e.seq, .bool e.gone, .slice ae e.val.length ce] 61)
  have hev1 := Evol.alloc w a (.cells #[.string (bstr e.key), .int .u64 e.seq, .bool e.gone, .slice ae e.val.length ce] 61)
  have hat := ent_box (w := w) rfl e ae ce
  have HX : Hid (Sst.ent e = Sst.lp e.key ++ Codec.enc e.seq ++ Sst.gone e.gone ++ Sst.lp e.val) := Lib.hid rfl
  unfold ev
  obtain ⟨w1, hw1⟩ : ∃ w1, w.alloc (.cells #[.string (bstr e.key), .int .u64 e.seq, .bool e.gone, .slice ae e.val.length ce] 61) = w1 := ⟨_, rfl⟩
  rw [hw1] at hb1 hat hev1
  have HB1 := Lib.hid (hb1.mono hB)
  have HEV1 := Lib.hid hev1
  have HW1 := Lib.hid hw1
  have HA := Lib.hid (h.below hb1)
  have HE := Lib.hid he
  have HNE := Lib.hid hne
  have ha := fun x (hx : a = some x) => (h.new x hx).2
  have HAB := Lib.hid (fun x (hx : a = some x) => Nat.ne_of_lt (ha x hx))
  have hwb : B ≤ w1.heap.size := Nat.le_trans hB hb1.size
  have hkl : e.key.length ≤ 1000000000 := by omega
  have hel := Codec.enc_len10 hs.lt
  have HLN := Lib.hid h.bs.1
  have HAT := Lib.hid hat
  have HLT : Hid (∀ x, a = some x → x.block < w1.heap.size) := Lib.hid (fun x hx => Nat.lt_of_lt_of_le (ha x hx) hb1.size)
  clear hw1 hb1 h he hev1 hne ha hat
  go_enter Try.func41, Try.ntmps41
  go_upto_region 1 with fail
  rw [HW1.out]
  have c0 := HAT.out.key
  go_wp2_with fail
  have hS : Bs (strW w1 e.key) (some ⟨w1.heap.size, 0, none⟩) e.key.length (strCap w1 e.key) e.key := str_bs w1 e.key (by simp only [maxLen]; omega)
  have HB2 := Lib.hid (HB1.out.trans ((str_below w1 e.key).mono hwb))
  have HEV2 := Lib.hid (HEV1.out.trans (Evol.of_below (str_below w1 e.key)))
  have HEVS : Hid (Evol w1 a (strW w1 e.key) a) := Lib.hid (Evol.of_below (str_below w1 e.key))
  have HA2 := Lib.hid (HA.out.below (str_below w1 e.key))
  have hwb2 : B ≤ (strW w1 e.key).heap.size := Nat.le_trans hwb (str_below w1 e.key).size
  generalize strW w1 e.key = w2 at *
  generalize strCap w1 e.key = sc at *
  refine (refbytes_e B a _ n c e.key.length sc l e.key _ hwb2 HA2.out.app hS (fun _ y z hy hz => by cases hy; have := HLT.out z hz; simp only; omega) ⟨by omega⟩).mono ?_
  rintro en w3 ⟨a3, n3, k3, rfl, ho3, hb3, hev3⟩
  have HB3 := Lib.hid (HB2.out.trans hb3)
  have HEV3 := Lib.hid (HEV2.out.trans hev3)
  have HEVX := Lib.hid (HEVS.out.trans hev3)
  have HO3 : Hid (Own w3 B a3 n3 k3 (l ++ Sst.lp e.key)) := Lib.hid ho3
  have hn3 : n3 ≤ n + e.key.length + 10 := by
    have h1 := ho3.bs.1
    have h2 := Codec.enc_len10 (v := e.key.length) (by omega)
    have h3 := HLN.out
    simp only [List.length_append] at h1
    omega
  have hw3 : B ≤ w3.heap.size := Nat.le_trans hwb2 hb3.size
  have c1 := cell_evol HEVX.out HAT.out.seq HAB.out
  clear c0 hS ho3 hb3 hev3
  go_wp2_with fail
  refine (refnumber_any B a3 n3 k3 _ e.seq w3 hw3 HO3.out.app hs ⟨by omega⟩).mono ?_
  rintro en w4 ⟨a4, n4, k4, rfl, ho4, hb4, hev4⟩
  have HB4 := Lib.hid (HB3.out.trans hb4)
  have HEV4 := Lib.hid (HEV3.out.trans hev4)
  have HEVY := Lib.hid (HEVX.out.trans hev4)
  have HO4 := Lib.hid ho4
  have hw4 : B ≤ w4.heap.size := Nat.le_trans hw3 hb4.size
  have hn4 : n4 ≤ n + e.key.length + 20 := by
    have h1 := ho4.bs.1
    have h2 := HO3.out.bs.1
    simp only [List.length_append] at h1 h2
    omega
  clear c1 ho4 hb4 hev4
  have c2 := cell_evol HEVY.out HAT.out.gone HAB.out
  have HZ : Hid (Sst.gone e.gone = if e.gone = true then [1] else [0]) := Lib.hid rfl
  generalize Sst.gone e.gone = gn at *
  generalize hgo : e.gone = go at *
  cases go
  · obtain rfl : gn = [0] := HZ.out
    go_wp2_with (at_builtin; refine app_own rfl _ _ rfl B rfl (HO4.out.alloc _) rfl (Bs.one _ (0 : UInt8)) (by omega) (le_alloc hw4) ?_; intro a5 k5 w5 h5 hb5 hev5; have HO5 := Lib.hid h5; have HB5 := Lib.hid (HB4.out.trans (((Below.refl _ _).alloc hw4 _).trans hb5)); have HEV5 := Lib.hid (HEV4.out.trans ((Evol.alloc _ _ _).trans hev5)); have hw5 : B ≤ w5.heap.size := Nat.le_trans (le_alloc hw4) hb5.size; have c3 := cell_evol (HEVY.out.trans ((Evol.alloc _ _ _).trans hev5)) HAT.out.val HAB.out; clear h5 hb5 hev5)
    refine (refbytes_e B a5 ae (n4 + 1) k5 e.val.length ce _ e.val w5 hw5 HO5.out.app (HE.out.evol HEV5.out HNE.out) (fun h0 y z hy hz => by
      rcases HEV5.out.2 z hz with k | k
      · cases a with
        | none => cases k
        | some x =>
          have h1 := HNE.out h0 y x hy rfl
          simp only [Option.map_some, Option.some.injEq] at k
          omega
      · have := HE.out.old h0 y hy
        omega) ⟨by omega⟩).mono ?_
    rintro en w6 ⟨a6, n6, k6, rfl, ho6, hb6, hev6⟩
    have HP : Hid (RetE w B a (l ++ Sst.ent e) (.returned (.slice a6 n6 k6)) w6) := Lib.hid ⟨_, _, _, rfl, by
      rw [HX.out]
      rw [show l ++ (Sst.lp e.key ++ Codec.enc e.seq ++ [0] ++ Sst.lp e.val) = l ++ Sst.lp e.key ++ Codec.enc e.seq ++ [0] ++ (Codec.enc e.val.length ++ e.val) by unfold Sst.lp; simp]
      exact ho6, HB5.out.trans hb6, HEV5.out.trans hev6⟩
    clear ho6 hb6 hev6 c3
    go_wp2
    go_ret
    exact HP.out
  · obtain rfl : gn = [1] := HZ.out
    go_wp2_with (at_builtin; refine app_own rfl _ _ rfl B rfl (HO4.out.alloc _) rfl (Bs.one _ (1 : UInt8)) (by omega) (le_alloc hw4) ?_; intro a5 k5 w5 h5 hb5 hev5; have HO5 := Lib.hid h5; have HB5 := Lib.hid (HB4.out.trans (((Below.refl _ _).alloc hw4 _).trans hb5)); have HEV5 := Lib.hid (HEV4.out.trans ((Evol.alloc _ _ _).trans hev5)); have hw5 : B ≤ w5.heap.size := Nat.le_trans (le_alloc hw4) hb5.size; have c3 := cell_evol (HEVY.out.trans ((Evol.alloc _ _ _).trans hev5)) HAT.out.val HAB.out; clear h5 hb5 hev5)
    refine (refbytes_e B a5 ae (n4 + 1) k5 e.val.length ce _ e.val w5 hw5 HO5.out.app (HE.out.evol HEV5.out HNE.out) (fun h0 y z hy hz => by
      rcases HEV5.out.2 z hz with k | k
      · cases a with
        | none => cases k
        | some x =>
          have h1 := HNE.out h0 y x hy rfl
          simp only [Option.map_some, Option.some.injEq] at k
          omega
      · have := HE.out.old h0 y hy
        omega) ⟨by omega⟩).mono ?_
    rintro en w6 ⟨a6, n6, k6, rfl, ho6, hb6, hev6⟩
    have HP : Hid (RetE w B a (l ++ Sst.ent e) (.returned (.slice a6 n6 k6)) w6) := Lib.hid ⟨_, _, _, rfl, by
      rw [HX.out]
      rw [show l ++ (Sst.lp e.key ++ Codec.enc e.seq ++ [1] ++ Sst.lp e.val) = l ++ Sst.lp e.key ++ Codec.enc e.seq ++ [1] ++ (Codec.enc e.val.length ++ e.val) by unfold Sst.lp; simp]
      exact ho6, HB5.out.trans hb6, HEV5.out.trans hev6⟩
    clear ho6 hb6 hev6 c3
    go_wp2
    go_ret
    exact HP.out
end Go.Proofs.Ytchdmjnhjonddaa
