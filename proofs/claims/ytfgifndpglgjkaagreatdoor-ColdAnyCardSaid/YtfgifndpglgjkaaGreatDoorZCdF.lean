/- Cold stripes: ReadFile. -/
import Derived.Test.YtfgifndpglgjkaaGreatDoorZCdE
import Derived.Test.YtfgifndpglgjkaaGreatDoorZQRsc
import Derived.Test.YtfgifndpglgjkaaGreatDoorZScG
import Derived.Test.YtfgifndpglgjkaaGreatDoorZRows2
import Derived.Lib.LazyBuf
set_option linter.unusedVariables false
set_option linter.unusedSimpArgs false
section
set_option maxRecDepth 100000
set_option linter.unusedVariables false
set_option linter.unusedSimpArgs false
namespace Go.Proofs.YtfgifndpglgjkaaGreatDoor
open Go.RowKit
attribute [local go_sem] bstr_size

theorem bequal_any (a a' : Option Addr) (n c n' c' : Nat) (l l' : List UInt8) (w : World) (h : Bs w a n c l) (h' : Bs w a' n' c' l') :
    Calls Tryz.prog 79 #[.slice a n c, .slice a' n' c'] w fun e w' => e = .returned (.bool (decide (l = l'))) ∧ w = w' := by
  have v1 := conv_bytes h
  have v2 := conv_bytes h'
  have he : ((bstr l).toList == (bstr l').toList) = decide (l = l') := bstr_beq l l'
  clear h h'
  go_enter Tryz.func79, Tryz.ntmps79
  go_wp2
  go_ret
  exact ⟨by first | rfl | (rw [← he]; rfl), rfl⟩
theorem prefix_take {l p : List UInt8} : (p <+: l) ↔ l.take p.length = p := by
  constructor
  · rintro ⟨t, rfl⟩; exact List.take_left
  · intro h
    have h1 := List.take_append_drop p.length l
    rw [h] at h1
    exact ⟨_, h1⟩
theorem hasp_any (a a' : Option Addr) (n c n' c' : Nat) (l l' : List UInt8) (w : World) (h : Bs w a n c l) (h' : Bs w a' n' c' l') :
    Calls Tryz.prog 47 #[.slice a n c, .slice a' n' c'] w fun e w' => e = .returned (.bool (decide (l' <+: l))) ∧ w = w' := by
  have hle := h.le.1
  have hle' := h'.le.1
  by_cases hn : n' ≤ n
  · have t1 : decide ((n' : Int) ≤ (n : Int)) = true := decide_eq_true (by omega)
    have t2 : decide (n' ≤ n) = true := decide_eq_true hn
    have hc : n ≤ c := h.2.1
    have HEQ := Lib.hid (bequal_any a a' n' c n' c' (l.take n') l' w (h.take hn) h')
    have hs := fun W => slice_h a n c (hi := (n' : Int)) (hi' := n') rfl (Nat.le_trans hn hc) W
    have HD : Hid (decide (l.take n' = l') = decide (l' <+: l)) := Lib.hid (by
      have e : (l' <+: l) ↔ l.take n' = l' := by rw [prefix_take, h'.1]
      exact decide_eq_decide.2 e.symm)
    clear h h'
    go_enter Tryz.func47, Tryz.ntmps47
    go_wp2_with fail
    refine HEQ.out.mono ?_
    rintro e w1 ⟨rfl, rfl⟩
    rw [HD.out]
    go_wp2
    go_ret
    exact ⟨rfl, rfl⟩
  · have t1 : decide ((n' : Int) ≤ (n : Int)) = false := decide_eq_false (by omega)
    have t2 : decide (n' ≤ n) = false := decide_eq_false hn
    have HD : Hid (decide (l' <+: l) = false) := Lib.hid (decide_eq_false fun hp => by
      have h1 := hp.length_le
      rw [h.1, h'.1] at h1
      omega)
    clear h h'
    go_enter Tryz.func47, Tryz.ntmps47
    go_wp2
    go_ret
    exact ⟨by rw [HD.out]; rfl, rfl⟩
/-- A pointer whose numbers may be a code's. -/
structure Cd.Fit (q : Cd.Full) (K M N : Nat) : Prop where
  ok : q.Ok
  k : q.p.K = (K : Int)
  m : q.p.M = (M : Int)
  n : q.p.size = (N : Int)
  k1 : 1 ≤ K
  km : K + M ≤ 255
  nb : N ≤ 20000000
theorem length_any (q : Cd.Full) (an : Option Addr) (nn cn : Nat) (K M N : Nat) (w : World) (hf : Cd.Fit q K M N) :
    Calls Tryz.prog 49 #[Cd.pv q an nn cn] w fun e w' => e = .returned (.int .i64 (Rs.wd K N)) ∧ Below w.heap.size w w' := by
  have hb0 := below_alloc1 w (.cells (Cd.pcells q an nn cn) 31)
  have hp0 := Cd.PAt.new w q an nn cn
  have h1 := hf.k1
  have h2 := hf.km
  have h3 := hf.nb
  have hK := hf.k
  have hN := hf.n
  have c4 := hp0.c4
  have c6 := hp0.c6
  rw [hK] at c4
  rw [hN] at c6
  obtain ⟨D, hD⟩ : ∃ D, D = (N + K - 1) / K := ⟨_, rfl⟩
  have HW : Hid (Rs.wd K N = max 1 D) := Lib.hid (by rw [hD]; rfl)
  have d1 : Int.tdiv ((N : Int) + (K : Int) - 1) (K : Int) = (D : Int) := by
    rw [show (N : Int) + (K : Int) - 1 = ((N + K - 1 : Nat) : Int) by omega, hD]; rfl
  have d1' : ((N : Int) + (K : Int) - 1) / (K : Int) = (D : Int) := by
    rw [show (N : Int) + (K : Int) - 1 = ((N + K - 1 : Nat) : Int) by omega, hD]; rfl
  have d5 : ((K : Int) == 0) = false := by rw [beq_eq_false_iff_ne]; omega
  have d6 : ¬ (K : Int) = 0 := by omega
  have hDb : D ≤ 30000000 := by rw [hD]; exact Nat.le_trans (Nat.div_le_self _ _) (by omega)
  have dm : ∀ W, (Builtin.max_ #[3, 3] 3 #[.int .i64 1, .int .i64 (D : Int)]).run Tryz.prog W = .ok (.int .i64 ((max 1 D : Nat) : Int)) W := fun W => by
    by_cases h : (1 : Int) < (D : Int)
    · have e : max 1 D = D := by omega
      simp [Builtin.max_, Builtin.max2, e]
      omega
    · have e : max 1 D = 1 := by omega
      simp [Builtin.max_, Builtin.max2, e]
      omega
  have HB := Lib.hid hb0
  clear hD hp0 hb0 hf hK hN
  unfold Cd.pv
  go_enter Tryz.func49, Tryz.ntmps49
  go_upto_region 1 with fail
  unfold Cd.pcells at HB c4 c6
  generalize w.alloc (.cells #[.string (bstr q.bucket), .string (bstr q.key), .int .u64 q.version, .int .u64 q.p.stripe, .int .i64 q.p.K, .int .i64 q.p.M, .int .i64 q.p.size, .int .u32 (n32 q.p.sum), .slice an nn cn] 31) = w1 at *
  have ew : IntKind.i64.wrap (D : Int) = (D : Int) := by rw [IntKind.wrap_i64]; omega
  go_wp2
  go_ret
  exact ⟨by rw [HW.out]; rfl, HB.out⟩
end Go.Proofs.YtfgifndpglgjkaaGreatDoor
end

section
set_option maxRecDepth 100000
set_option linter.unusedVariables false
set_option linter.unusedSimpArgs false
namespace Go.Proofs.YtfgifndpglgjkaaGreatDoor
open Go.RowKit

def RetF (w : World) (r : List UInt8 × Nat) (e : Ending) (w' : World) : Prop := ∃ a n c, e = .returned (.tuple #[.slice a n c, .int .i64 r.2]) ∧ Own w' w.heap.size a n c r.1 ∧ Below w.heap.size w w'
theorem rdFrame_len {l : List UInt8} (h : (Codec.rdFrame l).2.2 = 0) : (Codec.rdFrame l).1.length ≤ 67108864 ∧ (Codec.decFrame l).2.2 = 0 := by
  have h1 : (Codec.decFrame l).2.2 = 0 := by
    unfold Codec.rdFrame at h
    by_cases h0 : (Codec.decFrame l).2.2 = 0
    · exact h0
    · rw [if_neg h0] at h
      exact absurd h h0
  refine ⟨?_, h1⟩
  obtain ⟨n, k, _, hn, _, _, he, _, _⟩ := Codec.decFrame_ok h1
  unfold Codec.rdFrame
  rw [if_pos h1, he]
  simp
  omega
theorem rdBytes_le {b : List UInt8} {most : Int} (h : (Codec.rdBytes b most).2.2 = 0) : (Codec.rdBytes b most).2.1 ≤ b.length := by
  unfold Codec.rdBytes at h ⊢
  by_cases h1 : (Codec.dec b).2.2 ≠ 0
  · rw [if_pos h1] at h; exact absurd h h1
  · have hd : Codec.dec b = ((Codec.dec b).1, (Codec.dec b).2.1, 0) := by rw [← show (Codec.dec b).2.2 = 0 by omega]
    have hb := Codec.dec_back hd
    rw [if_neg h1]
    split
    · simp
    · split
      · simp
      · dsimp only; omega
theorem rd_eq {p : Cd.Ptr} {W m er : Nat} {i : Int} {b x : List UInt8} (h : Codec.rdFrame b = (x, m, er)) :
    Cd.rd p W i b = if er ≠ 0 then ([], er) else if m ≠ b.length ∨ ¬ Cd.head p i <+: x then ([], 14) else
      if (Codec.rdBytes (x.drop (Cd.head p i).length) 67108864).2.2 ≠ 0 ∨ (Cd.head p i).length + (Codec.rdBytes (x.drop (Cd.head p i).length) 67108864).2.1 ≠ x.length ∨ (Codec.rdBytes (x.drop (Cd.head p i).length) 67108864).1.length ≠ W then ([], 14) else ((Codec.rdBytes (x.drop (Cd.head p i).length) 67108864).1, 0) := by
  unfold Cd.rd
  rw [h]
theorem head_read {p : Cd.Ptr} {i : Int} (hp : p.stripe < 18446744073709551616) : Codec.rdFrame (Cd.file p i []) = (Cd.head p i ++ [0], (Cd.file p i []).length, 0) := by
  have hb := Cd.body_len p i [] hp (by simp)
  have h1 := (Codec.decFrame_frame (x := Cd.head p i ++ Cd.lp []) (by simp only [List.length_nil] at hb; omega) []).2
  rw [List.append_nil] at h1
  have e : Cd.lp [] = [0] := by
    unfold Cd.lp
    rw [List.length_nil, Codec.enc_small (by omega)]
    rfl
  unfold Cd.file
  rw [e] at h1 ⊢
  exact h1
set_option maxHeartbeats 8000000 in
theorem readfile_any (q : Cd.Full) (an : Option Addr) (nn cn : Nat) (K M N : Nat) (i : Int) (ab : Option Addr) (nb cb : Nat) (b : List UInt8) (w : World) (hbs : Bs w ab nb cb b) (hf : Cd.Fit q K M N) (hi : Cd.I64 i) (hn : nb ≤ 100000000) :
    Calls Tryz.prog 18 #[Cd.pv q an nn cn, .int .i64 i, .slice ab nb cb] w (RetF w (Cd.rd q.p (Rs.wd K N) i b)) := by
  have hb0 := below_alloc1 w (.cells (Cd.pcells q an nn cn) 31)
  have hp0 := Cd.PAt.new w q an nn cn
  obtain ⟨x, m, er, hr⟩ : ∃ x m er, Codec.rdFrame b = (x, m, er) := ⟨_, _, _, rfl⟩
  have HRD := Lib.hid (rd_eq (p := q.p) (W := Rs.wd K N) (i := i) hr)
  have HHR := Lib.hid (head_read (p := q.p) (i := i) hf.ok.s.lt)
  have HHL := Lib.hid (Cd.head_len q.p i hf.ok.s.lt)
  have HFL : Hid ((Cd.file q.p i []).length ≤ 1000) := Lib.hid (by
    have h1 := Cd.body_len q.p i [] hf.ok.s.lt (by simp)
    have h2 := Codec.enc_len10 (v := (Cd.head q.p i ++ Cd.lp []).length) (by simp only [List.length_nil] at h1; omega)
    have h3 : (Codec.four (Codec.sum (Cd.head q.p i ++ Cd.lp []))).length = 4 := rfl
    unfold Cd.file Codec.frame
    rw [List.length_append, List.length_append, h3]
    simp only [List.length_nil] at h1
    omega)
  have HF := Lib.hid hf
  have HBL := Lib.hid hbs.1
  have hk1 := hf.k1
  have hkm := hf.km
  have hNb := hf.nb
  have HRF : Hid (∀ W, Below w.heap.size w W → Calls Tryz.prog 46 #[.slice ab nb cb] W (RetR W (x, m, er))) := Lib.hid fun W k => by
    have h := readframe_any ab nb cb b W (hbs.below k) ⟨by omega⟩
    rw [hr] at h
    exact h
  have HFI : Hid (∀ W, Calls Tryz.prog 13 #[.agg #[.string (bstr q.bucket), .string (bstr q.key), .int .u64 q.version, .int .u64 q.p.stripe, .int .i64 q.p.K, .int .i64 q.p.M, .int .i64 q.p.size, .int .u32 (n32 q.p.sum), .slice an nn cn], .int .i64 i, .slice none 0 0] W (RetB W W.heap.size (Cd.file q.p i []))) := Lib.hid fun W => file_any q an nn cn i none 0 0 [] W (Bs.nil W) hf.ok hi (by omega)
  have HLN : Hid (∀ W, Calls Tryz.prog 49 #[.agg #[.string (bstr q.bucket), .string (bstr q.key), .int .u64 q.version, .int .u64 q.p.stripe, .int .i64 q.p.K, .int .i64 q.p.M, .int .i64 q.p.size, .int .u32 (n32 q.p.sum), .slice an nn cn]] W fun e w' => e = .returned (.int .i64 (Rs.wd K N)) ∧ Below W.heap.size W w') := Lib.hid fun W => length_any q an nn cn K M N W hf
  have HPC : Hid (∀ W, Cd.PAt W w.heap.size q an nn cn → W.cell? ⟨w.heap.size, 4, none⟩ = some (.int .i64 (K : Int)) ∧ W.cell? ⟨w.heap.size, 5, none⟩ = some (.int .i64 (M : Int)) ∧ W.cell? ⟨w.heap.size, 6, none⟩ = some (.int .i64 (N : Int))) := Lib.hid fun W h => ⟨by rw [h.c4, hf.k], by rw [h.c5, hf.m], by rw [h.c6, hf.n]⟩
  have HXB : Hid (er = 0 → x.length ≤ 67108864) := Lib.hid fun e => by
    have h := rdFrame_len (l := b) (by rw [hr]; exact e)
    rw [hr] at h
    exact h.1
  clear hbs hr hf
  have HWD : Hid (Rs.wd K N ≤ 30000000) := Lib.hid (by
    have h1 := Nat.div_le_self (N + K - 1) K
    unfold Rs.wd
    omega)
  generalize Rs.wd K N = W0 at *
  generalize hhd : Cd.head q.p i = hd at *
  generalize Cd.file q.p i [] = fl at *
  generalize Cd.rd q.p W0 i b = R at *
  clear hhd
  unfold Cd.pv
  go_enter Tryz.func18, Tryz.ntmps18
  go_upto_region 1 with fail
  unfold Cd.pcells at hb0 hp0
  generalize w.alloc (.cells #[.string (bstr q.bucket), .string (bstr q.key), .int .u64 q.version, .int .u64 q.p.stripe, .int .i64 q.p.K, .int .i64 q.p.M, .int .i64 q.p.size, .int .u32 (n32 q.p.sum), .slice an nn cn] 31) = w1 at *
  have HB1 := Lib.hid hb0
  have HP1 := Lib.hid hp0
  clear hb0 hp0
  go_wp2_with fail
  refine (HRF.out w1 HB1.out).mono ?_
  rintro e w2 ⟨ax, nx, cx, rfl, hx, hb2⟩
  dsimp only at hx
  have HX2 := Lib.hid hx
  have HB2 := Lib.hid (HB1.out.trans (hb2.mono HB1.out.size))
  have HP2 := Lib.hid (HP1.out.below hb2)
  clear hx hb2
  by_cases her : er = 0
  case neg =>
    have ter : ((er : Int) != 0) = true := by rw [bne_iff_ne]; omega
    have HR := Lib.hid (HRD.out.trans (if_pos her))
    clear her
    go_wp2
    go_ret2
    exact ⟨none, 0, 0, by rw [HR.out]; rfl, by rw [HR.out]; exact World.ownsRow_nil _ _ _ _, HB2.out⟩
  subst her
  have HXB2 := Lib.hid (HXB.out rfl)
  have HRD2 := Lib.hid (HRD.out.trans (if_neg (by simp)))
  clear HRD
  have c0 := HP2.out.c0
  have c1 := HP2.out.c1
  have c2 := HP2.out.c2
  have c3 := HP2.out.c3
  have c4 := HP2.out.c4
  have c5 := HP2.out.c5
  have c6 := HP2.out.c6
  have c7 := HP2.out.c7
  have c8 := HP2.out.c8
  go_wp2_with fail
  refine (HFI.out w2).mono ?_
  rintro e w3 ⟨a3, n3, k3, rfl, ho3, hb3⟩
  have HB3 := Lib.hid (HB2.out.trans (hb3.mono HB2.out.size))
  have HP3 := Lib.hid (HP2.out.below hb3)
  have HX3 := Lib.hid (HX2.out.below hb3)
  have HRE : Hid (Calls Tryz.prog 46 #[.slice a3 n3 k3] w3 (RetR w3 (hd ++ [0], fl.length, 0))) := Lib.hid (by
    have h := readframe_any a3 n3 k3 fl w3 ho3.bs ⟨by have h1 := ho3.bs.1; have h2 := HFL.out; omega⟩
    rw [HHR.out] at h
    exact h)
  clear ho3 hb3 c0 c1 c2 c3 c4 c5 c6 c7 c8
  go_wp2_with fail
  refine HRE.out.mono ?_
  rintro e w4 ⟨a4, n4, k4, rfl, hx4, hb4⟩
  dsimp only at hx4
  have HB4 := Lib.hid (HB3.out.trans (hb4.mono HB3.out.size))
  have HP4 := Lib.hid (HP3.out.below hb4)
  have HX4 := Lib.hid (HX3.out.below hb4)
  obtain ⟨h, hh⟩ : ∃ h, h = hd.length := ⟨_, rfl⟩
  have hn4 : n4 = h + 1 := by have := hx4.1; simp only [List.length_append, List.length_singleton] at this; omega
  subst hn4
  have HE4 : Hid (Bs w4 a4 h k4 hd) := Lib.hid (by
    have h1 := hx4.take (k := h) (by omega)
    rwa [hh, List.take_left, ← hh] at h1)
  have hkh : h + 1 ≤ k4 := hx4.2.1
  have sl1 := fun W => slice_h a4 (h + 1) k4 (hi := (h : Int)) (hi' := h) rfl (by omega) W
  have eh : ((h + 1 : Nat) : Int) - 1 = (h : Int) := by omega
  have eh' : (h : Int) + 1 - 1 = (h : Int) := by omega
  have HH := Lib.hid hh
  have hhb : h ≤ 54 := by have := HHL.out; omega
  obtain ⟨d4, d5, d6⟩ := HPC.out w4 HP4.out
  have HNW := Lib.hid (new_any K M w4 hk1 hkm)
  clear hx4 hb4 hh HRE
  go_wp2_with fail
  refine HNW.out.mono ?_
  rintro e w5 ⟨⟨bc, rfl, _⟩, hb5⟩
  have HB5 := Lib.hid (HB4.out.trans (hb5.mono HB4.out.size))
  have HP5 := Lib.hid (HP4.out.below hb5)
  have HX5 := Lib.hid (HX4.out.below hb5)
  have HE5 := Lib.hid (HE4.out.below hb5)
  clear hb5 HNW d4 d5 d6 sl1 eh eh' hkh
  obtain ⟨d4, d5, d6⟩ := HPC.out w5 HP5.out
  have tN : decide ((N : Int) < 0) = false := decide_eq_false (by omega)
  by_cases hm : m = nb
  case neg =>
    have tm : ((m : Int) != (nb : Int)) = true := by rw [bne_iff_ne]; omega
    have HR := Lib.hid (HRD2.out.trans (if_pos (.inl (by rw [HBL.out]; exact hm))))
    clear hm
    go_wp2
    go_ret2
    exact ⟨none, 0, 0, by rw [HR.out]; rfl, by rw [HR.out]; exact World.ownsRow_nil _ _ _ _, HB5.out⟩
  subst hm
  have tm : ((m : Int) != (m : Int)) = false := by simp
  have HHP := Lib.hid (hasp_any ax a4 nx cx h k4 x hd w5 HX5.out HE5.out)
  go_wp2_with fail
  refine HHP.out.mono ?_
  rintro e w5 ⟨rfl, rfl⟩
  cases hpx : decide (hd <+: x) with
  | false =>
    have HR := Lib.hid (HRD2.out.trans (if_pos (.inr (of_decide_eq_false hpx))))
    clear hpx
    go_wp2
    go_ret2
    exact ⟨none, 0, 0, by rw [HR.out]; rfl, by rw [HR.out]; exact World.ownsRow_nil _ _ _ _, HB5.out⟩
  | true =>
    have hpx' := of_decide_eq_true hpx
    have HRD3 := Lib.hid (HRD2.out.trans (if_neg (by rintro (h1 | h1); exact h1 (by rw [HBL.out]); exact h1 hpx')))
    have hxl : h ≤ nx := by
      have h1 := hpx'.length_le
      have h2 := HX5.out.1
      have h3 := HH.out
      omega
    have hnx : nx ≤ cx := HX5.out.2.1
    clear hpx hpx'
    obtain ⟨y, t, es, hy⟩ : ∃ y t es, Codec.rdBytes (x.drop hd.length) 67108864 = (y, t, es) := ⟨_, _, _, rfl⟩
    have HRD4 := Lib.hid HRD3.out
    have HTB : Hid (es = 0 → t ≤ 67108864) := Lib.hid fun e => by
      have h1 := rdBytes_le (b := x.drop hd.length) (most := 67108864) (by rw [hy]; exact e)
      have h2 := HXB2.out
      rw [hy, List.length_drop] at h1
      simp only at h1
      omega
    rw [hy] at HRD4
    simp only at HRD4
    have HRB : Hid (Calls Tryz.prog 48 #[.slice (subA ax cx h) (nx - h) (cx - h), .int .i64 67108864] w5 (RetRO w5 (y, t, es))) := Lib.hid (by
      have hd5 := HX5.out.drop hxl
      have h1 := readbytes_own (subA ax cx h) (nx - h) (cx - h) (x.drop h) 67108864 w5 hd5 ⟨by have h2 := HX5.out.1; have h3 := HXB2.out; omega⟩ (by omega) (by omega)
      rw [HH.out, hy] at h1
      rw [HH.out]
      exact h1)
    clear hy HRD3 HRD2
    have sl2 := fun W => slice_l ax nx cx (lo := (h : Int)) (lo' := h) rfl hxl W
    go_wp2_with fail
    refine HRB.out.mono ?_
    rintro e w6 ⟨a6, n6, k6, rfl, hy6, hb6⟩
    dsimp only at hy6
    have HB6 := Lib.hid (HB5.out.trans (hb6.mono HB5.out.size))
    have HP6 := Lib.hid (HP5.out.below hb6)
    have HY6 := Lib.hid hy6
    have HXN := Lib.hid HX5.out.1
    clear hy6 hb6 sl2 d4 d5 d6
    by_cases hes : es = 0
    case neg =>
      have te : ((es : Int) != 0) = true := by rw [bne_iff_ne]; omega
      have HR := Lib.hid (HRD4.out.trans (if_pos (.inl hes)))
      clear hes
      go_wp2
      go_ret2
      exact ⟨none, 0, 0, by rw [HR.out]; rfl, by rw [HR.out]; exact World.ownsRow_nil _ _ _ _, HB6.out⟩
    subst hes
    have htb := HTB.out rfl
    by_cases hq : h + t = nx
    case neg =>
      have te : (((h : Int) + (t : Int)) != (nx : Int)) = true := by rw [bne_iff_ne]; omega
      have HR := Lib.hid (HRD4.out.trans (if_pos (.inr (.inl (by rw [HXN.out, ← HH.out]; exact hq)))))
      clear hq
      go_wp2
      go_ret2
      exact ⟨none, 0, 0, by rw [HR.out]; rfl, by rw [HR.out]; exact World.ownsRow_nil _ _ _ _, HB6.out⟩
    have te : (((h : Int) + (t : Int)) != (nx : Int)) = false := by rw [bne_eq_false_iff_eq]; omega
    have c0 := HP6.out.c0
    have c1 := HP6.out.c1
    have c2 := HP6.out.c2
    have c3 := HP6.out.c3
    have c4 := HP6.out.c4
    have c5 := HP6.out.c5
    have c6 := HP6.out.c6
    have c7 := HP6.out.c7
    have c8 := HP6.out.c8
    have HQ := Lib.hid hq
    clear hq
    go_wp2_with fail
    refine (HLN.out w6).mono ?_
    rintro e w7 ⟨rfl, hb7⟩
    have HB7 := Lib.hid (HB6.out.trans (hb7.mono HB6.out.size))
    have HY7 := Lib.hid (HY6.out.below hb7)
    clear hb7 c0 c1 c2 c3 c4 c5 c6 c7 c8
    by_cases hw : n6 = W0
    case neg =>
      have tw : ((n6 : Int) != (W0 : Int)) = true := by rw [bne_iff_ne]; omega
      have HR := Lib.hid (HRD4.out.trans (if_pos (.inr (.inr (by rw [HY6.out.bs.1]; exact hw)))))
      clear hw
      go_wp2
      go_ret2
      exact ⟨none, 0, 0, by rw [HR.out]; rfl, by rw [HR.out]; exact World.ownsRow_nil _ _ _ _, HB7.out⟩
    subst hw
    have tw : ((n6 : Int) != (n6 : Int)) = false := by simp
    have HR := Lib.hid (HRD4.out.trans (if_neg (by
      rintro (h1 | h1 | h1)
      · exact h1 rfl
      · exact h1 (by rw [HXN.out, ← HH.out]; exact HQ.out)
      · exact h1 HY6.out.bs.1)))
    go_wp2
    go_ret2
    exact ⟨_, _, _, by rw [HR.out]; rfl, by rw [HR.out]; exact own_mono HY7.out HB5.out.size, HB7.out⟩
end Go.Proofs.YtfgifndpglgjkaaGreatDoor
end

section
set_option maxRecDepth 100000
set_option linter.unusedVariables false
set_option linter.unusedSimpArgs false
namespace Go.Proofs.YtfgifndpglgjkaaGreatDoor
open Go.RowKit

theorem infoI : (Tryz.prog.info? 3).map (fun i => (i.zero, i.size, i.bytes)) = some (some (.int .i64 0), 1, 8) := by kernel_rfl
theorem zv_one (l : List Int) : ∀ u ∈ zv l, u.oneCell' = true := fun u hu => by
  obtain ⟨z, _, rfl⟩ := List.mem_map.1 hu
  rfl
def AccI (w : World) (B : Nat) (a : Option Addr) (n c : Nat) (l : List Int) : Prop := l.length = n ∧ w.ownsRow B 3 1 (.slice a n c) n (zv l) ∧ ∀ z ∈ l, I64 z
theorem AccI.is {w : World} {B n c : Nat} {a : Option Addr} {l : List Int} (h : AccI w B a n c l) : Is w a n c l := by
  obtain ⟨h1, h2, h4⟩ := h
  have h3 := own_cap h2
  exact ⟨h1, h3.2.1, h3.2.2, Row.of_own h2, h4⟩
theorem AccI.below {w w' : World} {B n c : Nat} {a : Option Addr} {l : List Int} (h : AccI w B a n c l) (hb : Below w.heap.size w w') : AccI w' B a n c l := ⟨h.1, own_below h.2.1 hb, h.2.2⟩
theorem AccI.mono {w : World} {B B' n c : Nat} {a : Option Addr} {l : List Int} (h : AccI w B a n c l) (hB : B' ≤ B) : AccI w B' a n c l := ⟨h.1, own_mono h.2.1 hB, h.2.2⟩
theorem AccI.nil (w : World) (B : Nat) : AccI w B none 0 0 [] := ⟨rfl, World.ownsRow_nil w B _ _, fun z hz => (by cases hz)⟩
set_option maxHeartbeats 1000000 in
theorem clonei_any (a : Option Addr) (n c : Nat) (l : List Int) (w : World) (h : Is w a n c l) (hn : n ≤ 1000000000) :
    Calls Tryz.prog 26 #[.slice a n c] w fun e w' => ∃ a' c', e = .returned (.slice a' n c') ∧ AccI w' w.heap.size a' n c' l ∧ Below w.heap.size w w' := by
  have hq := fun (w : World) => Lib.run_eql_slice_nil (P := Tryz.prog) w 26 3 a n c 0 0 Tryz.underlying26
  have hle := h.le
  cases a with
  | none =>
    go_enter Tryz.func26, Tryz.ntmps26
    go_wp2
    go_ret
    have hn0 : n = 0 := by
      rcases Nat.eq_zero_or_pos n with h' | h'
      · exact h'
      · obtain ⟨_, _, h1, _⟩ := h.get h'; cases h1
    subst hn0
    have hl : l = [] := List.eq_nil_of_length_eq_zero h.1
    subst hl
    exact ⟨none, 0, rfl, AccI.nil _ _, Below.refl _ _⟩
  | some ad =>
    obtain ⟨i0, hi0, hz0, hz1, hz2⟩ := info_parts infoI
    have hrow : Row (w.alloc (.cells #[] 3)) (some ad) (zv l) := h.2.2.2.1.below (below_alloc1 w _)
    have hlit : (w.alloc (.cells #[] 3)).ownsRow w.heap.size 3 1 (.slice (some ⟨w.heap.size, 0, none⟩) 0 0) 0 [] :=
      ⟨rfl, .inr ⟨w.heap.size, 0, #[], rfl, Nat.le_refl _, heap_alloc_new w _, Nat.le_refl _, by simp [maxLen], rfl, rfl⟩⟩
    have HROW := Lib.hid hrow
    have HLIT := Lib.hid hlit
    have HCL : Hid ((zv l).length = n) := Lib.hid (by simp [zv, h.1])
    have HI := Lib.hid (And.intro hi0 (And.intro hz0 (And.intro hz1 hz2)))
    clear hrow hlit hi0 hz0 hz1 hz2
    go_enter Tryz.func26, Tryz.ntmps26
    go_wp2_with (at_builtin; refine wpList_app_own rfl _ _ 26 rfl w.heap.size 3 i0 (.int .i64 0) 1 8 Tryz.underlying26 HI.out.1 HI.out.2.1 HI.out.2.2.1 HI.out.2.2.2 rfl (by decide) (some ⟨w.heap.size, 0, none⟩) 0 0 [] rfl HLIT.out (some ad) n c (zv l) rfl HROW.out (by rw [HCL.out]; simp) (zv_one l) (by omega) (by simp only [maxLen]; omega) (le_alloc (Nat.le_refl _)) ?_; intro a5 c5 w5 h5 hev5)
    go_ret
    simp only [Nat.zero_add, List.nil_append] at h5
    exact ⟨a5, c5, by simp, ⟨h.1, h5, h.2.2.2.2⟩, (below_alloc1 w _).trans ((hev5.below (B := w.heap.size) (le_alloc (Nat.le_refl _)) (fun x hx => by cases hx; exact Nat.le_refl _)))⟩

def Cd.node (z : Int) : Bool := decide (0 ≤ z) && decide (z < 16)
theorem cnode_any (z : Int) (w : World) : Calls Tryz.prog 23 #[.int .i64 z] w fun e w' => e = .returned (.bool (!Cd.node z)) ∧ w = w' := by
  have HN : Hid (Calls Tryz.prog 24 #[.int .i64 z] w fun e w' => e = .returned (.bool (Cd.node z)) ∧ w = w') := Lib.hid (by
    unfold Cd.node
    go_enter Tryz.func24, Tryz.ntmps24
    by_cases h : 0 ≤ z
    · have t : decide ((0 : Int) ≤ z) = true := decide_eq_true h
      go_wp2
      go_ret
      exact ⟨by first | rfl | (rw [t]; rfl) | simp [t], rfl⟩
    · have t : decide ((0 : Int) ≤ z) = false := decide_eq_false h
      go_wp2
      go_ret
      exact ⟨by first | rfl | (rw [t]; rfl) | simp [t], rfl⟩)
  generalize Cd.node z = bn at *
  go_enter Tryz.func23, Tryz.ntmps23
  go_wp2_with fail
  refine HN.out.mono ?_
  rintro e w' ⟨rfl, rfl⟩
  go_wp2
  go_ret
  exact ⟨rfl, rfl⟩
set_option maxHeartbeats 1000000 in
theorem idxn_any (a : Option Addr) (n c : Nat) (l : List Int) (w : World) (h : Is w a n c l) (hn : n ≤ 1000000000) :
    Calls Tryz.prog 57 #[.slice a n c, .func (.func 23) #[] #[]] w fun e w' => ∃ r : Int, e = .returned (.int .i64 r) ∧ decide (0 ≤ r) = (!l.all Cd.node) ∧ ∃ q, w' = w.drewN q := by
  have HL := Lib.hid h
  have HN := Lib.hid h.1
  have hle := h.le.1
  clear h
  go_enter Tryz.func57, Tryz.ntmps57
  go_wp2
  go_loopw [8] (fun i wr => ∃ k q : Nat, k ≤ n ∧ i = .int .i64 k ∧ wr = w.drewN q ∧ Hid (∀ j, j < k → Cd.node (nth l j) = true)) (fun i _ => n - (intOf i).toNat)
  case atStart => exact ⟨0, 0, by omega, rfl, rfl, Lib.hid (fun j hj => by omega)⟩
  case round =>
    obtain ⟨k, q, hk, rfl, rfl, hall⟩ := hrel
    by_cases hlt : k < n
    · obtain ⟨b, off, rfl, hc⟩ := (HL.out.below (below_drewN (Below.refl _ _) q)).get hlt
      have HCN := Lib.hid (fun W => cnode_any (nth l k) W)
      have HX : Hid (Cd.node (nth l k) = true ∨ Cd.node (nth l k) = false) := Lib.hid (by cases Cd.node (nth l k) <;> simp)
      have HAL : Hid (Cd.node (nth l k) = true → ∀ j, j < k + 1 → Cd.node (nth l j) = true) := Lib.hid fun h1 j hj => by
        by_cases e : j = k
        · rw [e]; exact h1
        · exact hall.out j (by omega)
      have HBAD : Hid (Cd.node (nth l k) = false → l.all Cd.node = false) := Lib.hid fun h1 => by
        rw [List.all_eq_false]
        exact ⟨nth l k, by rw [nth_eq _ (by rw [HN.out]; exact hlt)]; exact List.getElem_mem _, by rw [h1]; simp⟩
      generalize nth l k = z at *
      go_wp2_with fail
      refine (HCN.out _).mono ?_
      rintro e w' ⟨rfl, rfl⟩
      rcases HX.out with hx | hx
      · rw [hx]
        have HA := Lib.hid (HAL.out hx)
        clear hx HAL
        go_wp2
        go_roundw
        case rel => exact ⟨k + 1, q, by omega, by go_num, rfl, HA⟩
        case measure => simp [intOf]; omega
      · rw [hx]
        have HB := Lib.hid (HBAD.out hx)
        clear hx
        go_wp2
        go_ret
        exact ⟨k, rfl, by rw [HB.out]; exact decide_eq_true (by omega), q, rfl⟩
    · obtain rfl : k = n := by omega
      have HA : Hid (l.all Cd.node = true) := Lib.hid (by
        rw [List.all_eq_true]
        intro x hx
        obtain ⟨j, hj, rfl⟩ := List.mem_iff_getElem.1 hx
        have := hall.out j (by rw [← HN.out]; exact hj)
        rwa [nth_eq _ hj] at this)
      go_wp2
      go_ret
      exact ⟨-1, rfl, by rw [HA.out]; rfl, q, rfl⟩
theorem contn_any (a : Option Addr) (n c : Nat) (l : List Int) (w : World) (h : Is w a n c l) (hn : n ≤ 1000000000) :
    Calls Tryz.prog 22 #[.slice a n c, .func (.func 23) #[] #[]] w fun e w' => e = .returned (.bool (!l.all Cd.node)) ∧ Below w.heap.size w w' := by
  have HI := Lib.hid (idxn_any a n c l w h hn)
  generalize (!l.all Cd.node) = bb at *
  clear h
  go_enter Tryz.func22, Tryz.ntmps22
  go_wp2_with fail
  refine HI.out.mono ?_
  rintro e w' ⟨r, rfl, hr, q, rfl⟩
  go_wp2
  go_ret
  exact ⟨by first | rfl | rw [hr], below_drewN (Below.refl _ _) q⟩
end Go.Proofs.YtfgifndpglgjkaaGreatDoor
end
