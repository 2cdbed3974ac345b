/- Sorted tables: bytes of strings; low, an entry's bytes. -/
import Derived.Test.YtchdmjnhjonddaaScG
import Derived.Test.YtchdmjnhjonddaaCgG
import Derived.Test.YtchdmjnhjonddaaCgF
import Derived.Test.YtchdmjnhjonddaaRange
import Derived.Test.YtchdmjnhjonddaaReads3
import Derived.Lib.ConvBytes
import Derived.Deep.DeepCutAuto
set_option maxRecDepth 100000
set_option linter.unusedVariables false
set_option linter.unusedSimpArgs false
namespace Go.Proofs.Ytchdmjnhjonddaa
open Go.RowKit

@[go_sem] theorem bstr_size (s : List UInt8) : (bstr s).size = s.length := by simp [bstr, ByteArray.size]
/-- The room of a string's bytes; the world behind them. -/
def strCap (w : World) (s : List UInt8) : Nat := grownCap w s.length 0 5
def strW (w : World) (s : List UInt8) : World := Lib.bytesWorld w 5 (bstr s)
@[go_sem] theorem str_conv (w : World) (s : List UInt8) : (convert 9 55 (.string (bstr s))).run Try.prog w = .ok (.slice (some ⟨w.heap.size, 0, none⟩) s.length (strCap w s)) (strW w s) := by
  have := Lib.run_convert_string_bytes (P := Try.prog) w 9 55 5 (bstr s) Try.underlying9 Try.underlying55 Try.underlying5
  rw [bstr_size] at this
  exact this
theorem str_below (w : World) (s : List UInt8) : Below w.heap.size w (strW w s) := by
  refine ⟨?_, ?_, ?_, ?_, fun b hb => Lib.bytesWorld_at_old w _ _ b hb⟩
  · unfold strW Lib.bytesWorld World.freeze; split <;> rfl
  · unfold strW Lib.bytesWorld World.freeze; split <;> rfl
  · unfold strW Lib.bytesWorld World.freeze; split <;> rfl
  · unfold strW; rw [Lib.bytesWorld_size]; omega
theorem str_bs (w : World) (s : List UInt8) (hs : s.length ≤ maxLen) : Bs (strW w s) (some ⟨w.heap.size, 0, none⟩) s.length (strCap w s) s := by
  refine ⟨rfl, grownCap_ge _ _ _ _, grownCap_le_maxLen _ _ _ _ hs, fun j v hj => ⟨w.heap.size, 0, rfl, ?_⟩⟩
  have hjl : j < s.length := by
    have := (List.getElem?_eq_some_iff.1 hj).1
    simpa [vs] using this
  rw [Nat.zero_add]
  refine (Lib.bytesWorld_cell w _ (bstr s) j (by rw [bstr_size]; exact hjl)).trans ?_
  simp [vs, hjl] at hj
  rw [← hj]
  simp [bstr, n8, List.getD_eq_getElem?_getD, hjl]
theorem bytes_one (x : List UInt8) : Codec.bytes [x] = Codec.enc x.length ++ x := by unfold Codec.bytes; simp
/-! Plain. -/
def Sst.lp (x : List UInt8) : List UInt8 := Codec.enc x.length ++ x
def Sst.gone (b : Bool) : List UInt8 := if b = true then [1] else [0]
def Sst.ent (e : Ent) : List UInt8 := Sst.lp e.key ++ Codec.enc e.seq ++ Sst.gone e.gone ++ Sst.lp e.val
set_option maxHeartbeats 400000 in
theorem slow_any (B : Nat) (a : Option Addr) (n c : Nat) (l : List UInt8) (v k : Nat) (w : World) (hB : B ≤ w.heap.size) (h : Own w B a n c l) (hn : n + k ≤ 140737488355328) :
    Calls Try.prog 39 #[.slice a n c, .int .u64 v, .int .i64 k] w (RetE w B a (l ++ Codec.low k v)) := by
  have HN := Lib.hid hn
  have hk : k ≤ 9223372036854775806 := by omega
  clear hn
  go_enter Try.func39, Try.ntmps39
  go_wp2
  go_loopw [0, 1, 8] (fun s x i wr => ∃ (a' : Option Addr) (c' v' m : Nat) (p : List UInt8), m ≤ k ∧ i = .int .i64 m ∧ s = .slice a' (n + m) c' ∧ x = .int .u64 v' ∧ Own wr B a' (n + m) c' (l ++ p) ∧ Codec.low k v = p ++ Codec.low (k - m) v' ∧ p.length = m ∧ Below B w wr ∧ Evol w a wr a') (fun _ _ i _ => k - (intOf i).toNat)
  case atStart => exact ⟨a, c, v, 0, [], by omega, rfl, rfl, rfl, by simpa using h, rfl, rfl, Below.refl _ _, Evol.refl _ _⟩
  case round =>
    obtain ⟨a', c', v', m, p, hm, rfl, rfl, rfl, happ, he, hp, hb, hev⟩ := hrel
    have HE := Lib.hid he; have HP := Lib.hid hp
    have hbz := Nat.le_trans hB hb.size
    clear he hp
    by_cases hlt : m < k
    · go_wp2_with (at_builtin; refine app_own rfl _ _ rfl B rfl (happ.alloc _) rfl (Bs.one _ _) (by have := HN.out; omega) (le_alloc hbz) ?_; intro a'' c'' w' h1 h2 h3)
      have HG := low_step hlt HE.out HP.out hb h1 (((Below.refl _ _).alloc hbz _).trans h2) (hev.trans ((Evol.alloc _ _ _).trans h3))
      clear h1 h2 h3 happ
      go_roundw
      case rel => exact ⟨_, _, _, m + 1, _, by omega, by go_num, rfl, by go_num, HG⟩
      case measure => simp [intOf]; omega
    · obtain rfl : m = k := by omega
      go_wp2
      go_ret
      refine ⟨_, _, _, rfl, ?_, hb, hev⟩
      have := HE.out
      simp [Codec.low] at this
      rw [this]; exact happ

/-- append of bytes to a row of the call's own, as one operation. -/
theorem step_app_own {w : World} {o : Oper} {a : Act} {K : Act → World → Prop} {Q : Exit → Act → World → Prop} (s x : Operand) (ho : o.op = .call { callee := .builtin .append, args := #[s, x], argTypes := #[55, 55] })
    (B : Nat) {aq : Option Addr} {n c : Nat} {l : List UInt8} (hs : a.eval s = .slice aq n c) (hown : Own w B aq n c l)
    {ax : Option Addr} {m cx : Nat} {p : List UInt8} (hx : a.eval x = .slice ax m cx) (hr : Bs w ax m cx p) (hb : n + m ≤ 140737488355328) (hB : B ≤ w.heap.size)
    (h : ∀ a' c' w', Own w' B a' (n + m) c' (l ++ p) → Below B w w' → Evol w aq w' a' → K (a.put o.dst (.slice a' (n + m) c')) w') : o.wp Try.prog a w K Q := by
  obtain ⟨i, hi, h0, h1, h2⟩ := info_parts info8
  obtain ⟨a', c', w', hr', g1, g2⟩ := run_append_own' (P := Try.prog) w B 55 o.type 5 i (.int .u8 0) 1 1 Try.underlying55 hi h0 h1 h2 rfl (by decide) aq n c (vs l) hown ax m cx (vs p) (by rw [vs_len, hr.1]; simp) hr.2.2.2 (vs_one p) (by omega) (by simp only [maxLen]; omega) hB
  unfold Oper.wp execOp
  simp only [ho, resolve, invoke, builtin, Sem.run_bind, Sem.run_pure, Result.andThen_ok, List.map_toArray, List.map_cons, List.map_nil, hs, hx, hr']
  rw [← vs_append] at g1
  exact h _ _ _ g1 (g2.below hB (fun x hx => by subst hx; exact (World.ownsRow.lt hown x.block rfl).1)) g2
theorem bss_at {w : World} {s : Nat} {a : Option Addr} {n c : Nat} {l : List UInt8} (hc : w.cell? ⟨s, 0, none⟩ = some (.slice a n c)) (h : Bs w a n c l) : Bss w (some ⟨s, 0, none⟩) 1 1 [l] := by
  refine ⟨rfl, Nat.le_refl _, by simp [maxLen], fun i hi => ?_⟩
  obtain rfl : i = 0 := by omega
  exact ⟨s, 0, a, n, c, rfl, hc, h⟩
theorem cell_evol {w w' : World} {a a' : Option Addr} {s o : Nat} {v : Value} (h : Evol w a w' a') (hc : w.cell? ⟨s, o, none⟩ = some v) (hne : ∀ x, a = some x → x.block ≠ s) : w'.cell? ⟨s, o, none⟩ = some v :=
  (World.cell?_of_block (h.1.block s (World.block_lt_of_cell? _ _ hc) (fun e => by
    cases a with
    | none => cases e
    | some x => exact hne x rfl (by simpa using e.symm)))).trans hc
theorem cell_new (w : World) (v : Value) (t : TypeId) : (w.alloc (.cells #[v] t)).cell? ⟨w.heap.size, 0, none⟩ = some v := (cell_of_row _ _ 0 _ _ _ (heap_alloc_new w _)).trans rfl
theorem ent_box {w : World} {k : Nat} (hk : k = w.heap.size) (e : Ent) (a : Option Addr) (c : Nat) : EntAt (w.alloc (.cells #[.string (bstr e.key), .int .u64 e.seq, .bool e.gone, .slice a e.val.length c] 61)) k 0 e a c := by
  subst hk
  have h := heap_alloc_new w (.cells #[.string (bstr e.key), .int .u64 e.seq, .bool e.gone, .slice a e.val.length c] 61)
  exact ⟨(cell_of_row _ _ 0 _ _ _ h).trans rfl, (cell_of_row _ _ 1 _ _ _ h).trans rfl, (cell_of_row _ _ 2 _ _ _ h).trans rfl, (cell_of_row _ _ 3 _ _ _ h).trans rfl⟩
set_option maxHeartbeats 4000000 in
theorem sent_any (a : Option Addr) (n c : Nat) (l : List UInt8) (e : Ent) (ae : Option Addr) (ce : Nat) (w : World) (h : Bs w a n c l) (he : Bs w ae e.val.length ce e.val) (hs : U64 e.seq) (hn : n + e.key.length + e.val.length ≤ 1000000000) :
    Calls Try.prog 35 #[.slice a n c, ev e ae ce] w (RetB w w.heap.size (l ++ Sst.ent e)) := by
  have hb1 := below_alloc1 w (.cells #[.string (bstr e.key), .int .u64 e.seq, .bool e.gone, .slice ae e.val.length ce] 61)
  have hat := ent_box (w := w) rfl e ae ce
  have HX : Hid (Sst.ent e = Sst.lp e.key ++ Codec.enc e.seq ++ Sst.gone e.gone ++ Sst.lp e.val) := Lib.hid rfl
  unfold ev
  obtain ⟨w1, hw1⟩ : ∃ w1, w.alloc (.cells #[.string (bstr e.key), .int .u64 e.seq, .bool e.gone, .slice ae e.val.length ce] 61) = w1 := ⟨_, rfl⟩
  rw [hw1] at hb1 hat
  have HB1 := Lib.hid hb1
  have HW1 := Lib.hid hw1
  have HA := Lib.hid (h.below hb1)
  have HE := Lib.hid (he.below hb1)
  have hkl : e.key.length ≤ 1000000000 := by omega
  have hel := Codec.enc_len10 hs.lt
  clear hw1 hb1 h he
  go_enter Try.func35, Try.ntmps35
  go_upto_region 1 with fail
  rw [HW1.out]
  have c0 := hat.key
  have c1 := hat.seq
  refine wp_region_order [] [0, 1, 2, 6, 7] [3, 4, 5, 8] [9] 9 (by intro c a d v w h; cases d <;> exact h) (by kernel_rfl) (by kernel_rfl) (fun W' => ∃ V : BW w1, W' = V.w) ⟨⟨w1.drew, (Below.refl _ _).drew⟩, rfl⟩ ?_
  simp only [opsAt, List.filterMap_cons, List.filterMap_nil, List.getElem?_cons_zero, List.getElem?_cons_succ]
  refine held_nil ?_
  iterate 5
    apply held_step
    · rfl
    · rintro _ ⟨V, rfl⟩
      have m0 := BW.cell c0 V
      have m1 := BW.cell c1 V
      go_simp
      rfl
  refine held_nil ?_
  have HBC : Below w1.heap.size w1 w1.drew := (Below.refl _ _).drew
  refine walkS_step rfl (fun K hK => ?_)
  go_simp
  have hS : Bs (strW w1.drew e.key) (some ⟨w1.heap.size, 0, none⟩) e.key.length (strCap w1.drew e.key) e.key := str_bs w1.drew e.key (by simp only [maxLen]; omega)
  have HB2 : Below w1.heap.size w1 (strW w1.drew e.key) := HBC.trans (str_below w1.drew e.key)
  refine hK _ _ ⟨⟨strW w1.drew e.key, HB2⟩, rfl⟩ ?_
  clear hK
  generalize strW w1.drew e.key = w2 at *
  generalize strCap w1.drew e.key = sc at *
  refine walkS_step rfl (fun K hK => ?_)
  go_simp
  have hSS := Bss.one hS
  have HB3 : Below w1.heap.size w1 (w2.alloc (.cells #[.slice (some ⟨w1.heap.size, 0, none⟩) e.key.length sc] 55)) := HB2.alloc HB2.size _
  refine hK _ _ ⟨⟨_, HB3⟩, rfl⟩ ?_
  clear hK
  refine walkS_step rfl (fun K hK => ?_)
  go_simp
  refine (bytes_any a _ n c _ _ l [e.key] _ (HA.out.below HB3) hSS ⟨by simp [tot]; omega⟩).mono ?_
  rintro en w4 ⟨a4, n4, k4, rfl, ho4, hb4⟩
  rw [bytes_one] at ho4
  have HB4 := HB3.trans (hb4.mono HB3.size)
  refine hK _ _ ⟨⟨w4, HB4⟩, rfl⟩ ?_
  clear hK
  have hn4 : n4 ≤ n + e.key.length + 10 := by
    have h1 := ho4.bs.1
    have h2 := Codec.enc_len10 (v := e.key.length) (by omega)
    simp only [List.length_append] at h1
    have h3 := HA.out.1
    omega
  refine walkS_step rfl (fun K hK => ?_)
  go_simp
  refine (number_any a4 n4 k4 _ e.seq _ ho4.bs hs ⟨by omega⟩).mono ?_
  rintro en w5 ⟨a5, n5, k5, rfl, ho5, hb5⟩
  have HB5 := HB4.trans (hb5.mono HB4.size)
  refine hK _ _ ⟨⟨w5, HB5⟩, rfl⟩ ?_
  clear hK
  refine walkS_nil ?_
  have hn5 : n5 ≤ n + e.key.length + 20 := by
    have h1 := ho5.bs.1
    have h2 := ho4.bs.1
    have h3 := HA.out.1
    have h4 := Codec.enc_len10 (v := e.key.length) (by omega)
    simp only [List.length_append] at h1 h2
    omega
  have HO5 : Hid (Own w5 w4.heap.size a5 n5 k5 (l ++ Sst.lp e.key ++ Codec.enc e.seq)) := Lib.hid ho5
  have HB5' := Lib.hid HB5
  have HG : Hid (w1.heap.size ≤ w4.heap.size) := Lib.hid HB4.size
  have HGW := hb5.size
  have c2 := cell_later HB5 hat.gone
  have c3 := cell_later HB5 hat.val
  have HE5 := Lib.hid (HE.out.below HB5)
  clear ho4 hb4 ho5 hb5 HB2 HB3 HB4 HB5 HBC hS hSS c0 c1
  have HZ : Hid (Sst.gone e.gone = if e.gone = true then [1] else [0]) := Lib.hid rfl
  generalize Sst.gone e.gone = gn at *
  generalize hgo : e.gone = go at *
  generalize hva : e.val = vl at *
  generalize hvn : vl.length = nv at *
  have b3 := hat.val
  have HGE : Hid (w4.heap.size ≤ w5.heap.size) := Lib.hid HGW
  have le1 : ∀ {a b : Nat}, a ≤ b → a ≤ b := fun h => h
  cases go
  · obtain rfl : gn = [0] := HZ.out
    go_wp2_with fail
    clear HZ c2 c3
    have HBD : Hid (Below w1.heap.size w1 w5.drew) := Lib.hid (HB5'.out.trans ((Below.refl _ _).drew.mono HB5'.out.size))
    have HOD : Hid (Own w5.drew w4.heap.size a5 n5 k5 (l ++ Sst.lp e.key ++ Codec.enc e.seq)) := Lib.hid (HO5.out.below (Below.refl _ _).drew)
    have ha5 : ∀ x, a5 = some x → x.block < w5.heap.size := fun x hx => (HO5.out.new x hx).2
    refine wp_region_steps [8] 8 8 (by kernel_rfl) (by kernel_rfl) rfl (fun W' => ∃ V : BW w1, W' = V.w) ?_
    refine anyT_pull [0, 1, 4, 5] 8 4 (by intro c a d v w h; cases d <;> exact h) (by kernel_rfl) ⟨⟨w5.drew, HBD.out⟩, rfl⟩ ?_
    simp only [opsAt, List.filterMap_cons, List.filterMap_nil, List.getElem?_cons_zero, List.getElem?_cons_succ]
    iterate 4
      apply held_step
      · kernel_rfl
      · rintro _ ⟨V, rfl⟩
        have m3 := BW.cell b3 V
        go_simp
        rfl
    refine held_nil ?_
    have HGB : Hid (w4.heap.size ≤ w5.drew.heap.size) := Lib.hid HGE.out
    have HVD : w5.heap.size ≤ w5.drew.heap.size := Nat.le_refl _
    generalize w5.drew = wD at *
    refine anyT_two 2 6 rfl rfl (by kernel_rfl) (by kernel_rfl) (by kernel_rfl) (fun K hK => ?_) (fun K hK => ?_)
    · go_simp
      have hbs1 : Bs (wD.alloc (.cells #[.int .u8 0] 5)) (some ⟨wD.heap.size, 0, none⟩) 1 1 ([0] : List UInt8) := Bs.one _ 0
      have hb1 := HBD.out.alloc (le1 HBD.out.size) (.cells #[.int .u8 0] 5)
      have ho1 := HOD.out.alloc (.cells #[.int .u8 0] 5)
      have hz1 : w4.heap.size ≤ (wD.alloc (.cells #[.int .u8 0] 5)).heap.size := le_alloc HGB.out
      have hv1 : w5.heap.size ≤ (wD.alloc (.cells #[.int .u8 0] 5)).heap.size := le_alloc HVD
      refine hK _ _ ⟨⟨_, hb1⟩, rfl⟩ ?_
      clear hK
      generalize wD.alloc (.cells #[.int .u8 0] 5) = u1w at *
      refine anyT_two 3 6 rfl rfl (by kernel_rfl) (by kernel_rfl) (by kernel_rfl) (fun K hK => ?_) (fun K hK => ?_)
      · refine step_app_own _ _ rfl w4.heap.size rfl ho1 rfl hbs1 (by omega) hz1 ?_
        intro a2 k2 u2w ho2 hb2 hev2
        have hbb2 := hb1.trans (hb2.mono HG.out)
        have hz2 : w4.heap.size ≤ u2w.heap.size := Nat.le_trans hz1 hb2.size
        have hv2 : w5.heap.size ≤ u2w.heap.size := Nat.le_trans hv1 hb2.size
        refine hK _ _ ⟨⟨_, hbb2⟩, rfl⟩ ?_
        clear hK hb2 hev2
        apply anyT_one 6
        · rfl
        · kernel_rfl
        · kernel_rfl
        intro K hK
        go_simp
        have hc3 := cell_new u2w (.slice ae nv ce) 55
        have hb3 := hbb2.alloc (le1 hbb2.size) (.cells #[.slice ae nv ce] 55)
        have ho3 := ho2.alloc (.cells #[.slice ae nv ce] 55)
        have hz3 : w4.heap.size ≤ (u2w.alloc (.cells #[.slice ae nv ce] 55)).heap.size := le_alloc hz2
        have hv3 : w5.heap.size ≤ (u2w.alloc (.cells #[.slice ae nv ce] 55)).heap.size := le_alloc hv2
        have hs3 : w5.heap.size ≤ u2w.heap.size := hv2
        refine hK _ _ ⟨⟨_, hb3⟩, rfl⟩ ?_
        clear hK
        generalize hw3 : u2w.alloc (.cells #[.slice ae nv ce] 55) = u3w at *
        clear hw3
        apply anyT_one 7
        · rfl
        · kernel_rfl
        · kernel_rfl
        intro K hK
        go_simp
        refine (bytes_any _ _ (n5 + 1) _ _ _ _ [vl] _ ho3.bs (bss_at hc3 (HE.out.below hb3)) ⟨by simp [tot]; omega⟩).mono ?_
        rintro en u4w ⟨a4, n4, k4, rfl, ho4, hb4⟩
        rw [bytes_one] at ho4
        have hbb4 := hb3.trans (hb4.mono hb3.size)
        have HP : Hid (RetB w w.heap.size (l ++ (Sst.lp e.key ++ Codec.enc e.seq ++ ([0] : List UInt8) ++ Sst.lp vl)) (.returned (.slice a4 n4 k4)) u4w) := Lib.hid ⟨_, _, _, rfl, by rw [show l ++ (Sst.lp e.key ++ Codec.enc e.seq ++ ([0] : List UInt8) ++ Sst.lp vl) = l ++ Sst.lp e.key ++ Codec.enc e.seq ++ ([0] : List UInt8) ++ (Codec.enc vl.length ++ vl) by unfold Sst.lp; simp]; exact ho4.mono (Nat.le_trans HB1.out.size hb3.size), HB1.out.trans (hbb4.mono HB1.out.size)⟩
        refine hK _ _ ⟨⟨_, hbb4⟩, rfl⟩ ?_
        clear hK
        refine anyT_done (by kernel_rfl) ?_
        simp only [opsAt, List.filterMap_cons, List.filterMap_nil, List.getElem?_cons_zero, List.getElem?_cons_succ]
        clear ho4 hb4 hbb4
        go_wp2
        go_ret
        rw [HX.out]
        exact HP.out
      · go_simp
        have hc5 := cell_new u1w (.slice ae nv ce) 55
        have hb5 := hb1.alloc (le1 hb1.size) (.cells #[.slice ae nv ce] 55)
        have ho5 := ho1.alloc (.cells #[.slice ae nv ce] 55)
        have hz5 : w4.heap.size ≤ (u1w.alloc (.cells #[.slice ae nv ce] 55)).heap.size := le_alloc hz1
        have hv5 : w5.heap.size ≤ (u1w.alloc (.cells #[.slice ae nv ce] 55)).heap.size := le_alloc hv1
        have hs5 : w5.heap.size ≤ u1w.heap.size := hv1
        have hbs5 := hbs1.below (below_alloc1 u1w (.cells #[.slice ae nv ce] 55))
        refine hK _ _ ⟨⟨_, hb5⟩, rfl⟩ ?_
        clear hK
        generalize hw5 : u1w.alloc (.cells #[.slice ae nv ce] 55) = u5w at *
        clear hw5
        apply anyT_one 3
        · rfl
        · kernel_rfl
        · kernel_rfl
        intro K hK
        refine step_app_own _ _ rfl w4.heap.size rfl ho5 rfl hbs5 (by omega) hz5 ?_
        intro a6 k6 u6w ho6 hb6 hev6
        have hbb6 := hb5.trans (hb6.mono HG.out)
        have hz6 : w4.heap.size ≤ u6w.heap.size := Nat.le_trans hz5 hb6.size
        have hv6 : w5.heap.size ≤ u6w.heap.size := Nat.le_trans hv5 hb6.size
        have hc6 := cell_evol hev6 hc5 (fun x hx e => by have h1 := ha5 x hx; have h2 := hs5; omega)
        refine hK _ _ ⟨⟨_, hbb6⟩, rfl⟩ ?_
        clear hK hb6 hev6
        apply anyT_one 7
        · rfl
        · kernel_rfl
        · kernel_rfl
        intro K hK
        go_simp
        refine (bytes_any _ _ (n5 + 1) _ _ _ _ [vl] _ ho6.bs (bss_at hc6 (HE.out.below hbb6)) ⟨by simp [tot]; omega⟩).mono ?_
        rintro en u7w ⟨a7, n7, k7, rfl, ho7, hb7⟩
        rw [bytes_one] at ho7
        have hbb7 := hbb6.trans (hb7.mono hbb6.size)
        have HP : Hid (RetB w w.heap.size (l ++ (Sst.lp e.key ++ Codec.enc e.seq ++ ([0] : List UInt8) ++ Sst.lp vl)) (.returned (.slice a7 n7 k7)) u7w) := Lib.hid ⟨_, _, _, rfl, by rw [show l ++ (Sst.lp e.key ++ Codec.enc e.seq ++ ([0] : List UInt8) ++ Sst.lp vl) = l ++ Sst.lp e.key ++ Codec.enc e.seq ++ ([0] : List UInt8) ++ (Codec.enc vl.length ++ vl) by unfold Sst.lp; simp]; exact ho7.mono (Nat.le_trans HB1.out.size hbb6.size), HB1.out.trans (hbb7.mono HB1.out.size)⟩
        refine hK _ _ ⟨⟨_, hbb7⟩, rfl⟩ ?_
        clear hK
        refine anyT_done (by kernel_rfl) ?_
        simp only [opsAt, List.filterMap_cons, List.filterMap_nil, List.getElem?_cons_zero, List.getElem?_cons_succ]
        clear ho7 hb7 hbb7
        go_wp2
        go_ret
        rw [HX.out]
        exact HP.out
    · go_simp
      have hc8 := cell_new wD (.slice ae nv ce) 55
      have hb8 := HBD.out.alloc (le1 HBD.out.size) (.cells #[.slice ae nv ce] 55)
      have ho8 := HOD.out.alloc (.cells #[.slice ae nv ce] 55)
      have hz8 : w4.heap.size ≤ (wD.alloc (.cells #[.slice ae nv ce] 55)).heap.size := le_alloc HGB.out
      have hv8 : w5.heap.size ≤ (wD.alloc (.cells #[.slice ae nv ce] 55)).heap.size := le_alloc HVD
      have hs8 : w5.heap.size ≤ wD.heap.size := HVD
      refine hK _ _ ⟨⟨_, hb8⟩, rfl⟩ ?_
      clear hK
      generalize hw8 : wD.alloc (.cells #[.slice ae nv ce] 55) = u8w at *
      clear hw8
      apply anyT_one 2
      · rfl
      · kernel_rfl
      · kernel_rfl
      intro K hK
      go_simp
      have hbs9 : Bs (u8w.alloc (.cells #[.int .u8 0] 5)) (some ⟨u8w.heap.size, 0, none⟩) 1 1 ([0] : List UInt8) := Bs.one _ 0
      have hb9 := hb8.alloc (le1 hb8.size) (.cells #[.int .u8 0] 5)
      have ho9 := ho8.alloc (.cells #[.int .u8 0] 5)
      have hz9 : w4.heap.size ≤ (u8w.alloc (.cells #[.int .u8 0] 5)).heap.size := le_alloc hz8
      have hv9 : w5.heap.size ≤ (u8w.alloc (.cells #[.int .u8 0] 5)).heap.size := le_alloc hv8
      have hc9 := cell_later (below_alloc1 u8w (.cells #[.int .u8 0] 5)) hc8
      refine hK _ _ ⟨⟨_, hb9⟩, rfl⟩ ?_
      clear hK
      generalize u8w.alloc (.cells #[.int .u8 0] 5) = u9w at *
      apply anyT_one 3
      · rfl
      · kernel_rfl
      · kernel_rfl
      intro K hK
      refine step_app_own _ _ rfl w4.heap.size rfl ho9 rfl hbs9 (by omega) hz9 ?_
      intro a10 k10 u10w ho10 hb10 hev10
      have hbb10 := hb9.trans (hb10.mono HG.out)
      have hz10 : w4.heap.size ≤ u10w.heap.size := Nat.le_trans hz9 hb10.size
      have hv10 : w5.heap.size ≤ u10w.heap.size := Nat.le_trans hv9 hb10.size
      have hc10 := cell_evol hev10 hc9 (fun x hx e => by have h1 := ha5 x hx; have h2 := hs8; omega)
      refine hK _ _ ⟨⟨_, hbb10⟩, rfl⟩ ?_
      clear hK hb10 hev10
      apply anyT_one 7
      · rfl
      · kernel_rfl
      · kernel_rfl
      intro K hK
      go_simp
      refine (bytes_any _ _ (n5 + 1) _ _ _ _ [vl] _ ho10.bs (bss_at hc10 (HE.out.below hbb10)) ⟨by simp [tot]; omega⟩).mono ?_
      rintro en u11w ⟨a11, n11, k11, rfl, ho11, hb11⟩
      rw [bytes_one] at ho11
      have hbb11 := hbb10.trans (hb11.mono hbb10.size)
      have HP : Hid (RetB w w.heap.size (l ++ (Sst.lp e.key ++ Codec.enc e.seq ++ ([0] : List UInt8) ++ Sst.lp vl)) (.returned (.slice a11 n11 k11)) u11w) := Lib.hid ⟨_, _, _, rfl, by rw [show l ++ (Sst.lp e.key ++ Codec.enc e.seq ++ ([0] : List UInt8) ++ Sst.lp vl) = l ++ Sst.lp e.key ++ Codec.enc e.seq ++ ([0] : List UInt8) ++ (Codec.enc vl.length ++ vl) by unfold Sst.lp; simp]; exact ho11.mono (Nat.le_trans HB1.out.size hbb10.size), HB1.out.trans (hbb11.mono HB1.out.size)⟩
      refine hK _ _ ⟨⟨_, hbb11⟩, rfl⟩ ?_
      clear hK
      refine anyT_done (by kernel_rfl) ?_
      simp only [opsAt, List.filterMap_cons, List.filterMap_nil, List.getElem?_cons_zero, List.getElem?_cons_succ]
      clear ho11 hb11 hbb11
      go_wp2
      go_ret
      rw [HX.out]
      exact HP.out
  · obtain rfl : gn = [1] := HZ.out
    go_wp2_with fail
    clear HZ c2 c3
    have HBD : Hid (Below w1.heap.size w1 w5.drew) := Lib.hid (HB5'.out.trans ((Below.refl _ _).drew.mono HB5'.out.size))
    have HOD : Hid (Own w5.drew w4.heap.size a5 n5 k5 (l ++ Sst.lp e.key ++ Codec.enc e.seq)) := Lib.hid (HO5.out.below (Below.refl _ _).drew)
    have ha5 : ∀ x, a5 = some x → x.block < w5.heap.size := fun x hx => (HO5.out.new x hx).2
    refine wp_region_steps [8] 8 8 (by kernel_rfl) (by kernel_rfl) rfl (fun W' => ∃ V : BW w1, W' = V.w) ?_
    refine anyT_pull [0, 1, 4, 5] 8 4 (by intro c a d v w h; cases d <;> exact h) (by kernel_rfl) ⟨⟨w5.drew, HBD.out⟩, rfl⟩ ?_
    simp only [opsAt, List.filterMap_cons, List.filterMap_nil, List.getElem?_cons_zero, List.getElem?_cons_succ]
    iterate 4
      apply held_step
      · kernel_rfl
      · rintro _ ⟨V, rfl⟩
        have m3 := BW.cell b3 V
        go_simp
        rfl
    refine held_nil ?_
    have HGB : Hid (w4.heap.size ≤ w5.drew.heap.size) := Lib.hid HGE.out
    have HVD : w5.heap.size ≤ w5.drew.heap.size := Nat.le_refl _
    generalize w5.drew = wD at *
    refine anyT_two 2 6 rfl rfl (by kernel_rfl) (by kernel_rfl) (by kernel_rfl) (fun K hK => ?_) (fun K hK => ?_)
    · go_simp
      have hbs1 : Bs (wD.alloc (.cells #[.int .u8 1] 5)) (some ⟨wD.heap.size, 0, none⟩) 1 1 ([1] : List UInt8) := Bs.one _ 1
      have hb1 := HBD.out.alloc (le1 HBD.out.size) (.cells #[.int .u8 1] 5)
      have ho1 := HOD.out.alloc (.cells #[.int .u8 1] 5)
      have hz1 : w4.heap.size ≤ (wD.alloc (.cells #[.int .u8 1] 5)).heap.size := le_alloc HGB.out
      have hv1 : w5.heap.size ≤ (wD.alloc (.cells #[.int .u8 1] 5)).heap.size := le_alloc HVD
      refine hK _ _ ⟨⟨_, hb1⟩, rfl⟩ ?_
      clear hK
      generalize wD.alloc (.cells #[.int .u8 1] 5) = u1w at *
      refine anyT_two 3 6 rfl rfl (by kernel_rfl) (by kernel_rfl) (by kernel_rfl) (fun K hK => ?_) (fun K hK => ?_)
      · refine step_app_own _ _ rfl w4.heap.size rfl ho1 rfl hbs1 (by omega) hz1 ?_
        intro a2 k2 u2w ho2 hb2 hev2
        have hbb2 := hb1.trans (hb2.mono HG.out)
        have hz2 : w4.heap.size ≤ u2w.heap.size := Nat.le_trans hz1 hb2.size
        have hv2 : w5.heap.size ≤ u2w.heap.size := Nat.le_trans hv1 hb2.size
        refine hK _ _ ⟨⟨_, hbb2⟩, rfl⟩ ?_
        clear hK hb2 hev2
        apply anyT_one 6
        · rfl
        · kernel_rfl
        · kernel_rfl
        intro K hK
        go_simp
        have hc3 := cell_new u2w (.slice ae nv ce) 55
        have hb3 := hbb2.alloc (le1 hbb2.size) (.cells #[.slice ae nv ce] 55)
        have ho3 := ho2.alloc (.cells #[.slice ae nv ce] 55)
        have hz3 : w4.heap.size ≤ (u2w.alloc (.cells #[.slice ae nv ce] 55)).heap.size := le_alloc hz2
        have hv3 : w5.heap.size ≤ (u2w.alloc (.cells #[.slice ae nv ce] 55)).heap.size := le_alloc hv2
        have hs3 : w5.heap.size ≤ u2w.heap.size := hv2
        refine hK _ _ ⟨⟨_, hb3⟩, rfl⟩ ?_
        clear hK
        generalize hw3 : u2w.alloc (.cells #[.slice ae nv ce] 55) = u3w at *
        clear hw3
        apply anyT_one 7
        · rfl
        · kernel_rfl
        · kernel_rfl
        intro K hK
        go_simp
        refine (bytes_any _ _ (n5 + 1) _ _ _ _ [vl] _ ho3.bs (bss_at hc3 (HE.out.below hb3)) ⟨by simp [tot]; omega⟩).mono ?_
        rintro en u4w ⟨a4, n4, k4, rfl, ho4, hb4⟩
        rw [bytes_one] at ho4
        have hbb4 := hb3.trans (hb4.mono hb3.size)
        have HP : Hid (RetB w w.heap.size (l ++ (Sst.lp e.key ++ Codec.enc e.seq ++ ([1] : List UInt8) ++ Sst.lp vl)) (.returned (.slice a4 n4 k4)) u4w) := Lib.hid ⟨_, _, _, rfl, by rw [show l ++ (Sst.lp e.key ++ Codec.enc e.seq ++ ([1] : List UInt8) ++ Sst.lp vl) = l ++ Sst.lp e.key ++ Codec.enc e.seq ++ ([1] : List UInt8) ++ (Codec.enc vl.length ++ vl) by unfold Sst.lp; simp]; exact ho4.mono (Nat.le_trans HB1.out.size hb3.size), HB1.out.trans (hbb4.mono HB1.out.size)⟩
        refine hK _ _ ⟨⟨_, hbb4⟩, rfl⟩ ?_
        clear hK
        refine anyT_done (by kernel_rfl) ?_
        simp only [opsAt, List.filterMap_cons, List.filterMap_nil, List.getElem?_cons_zero, List.getElem?_cons_succ]
        clear ho4 hb4 hbb4
        go_wp2
        go_ret
        rw [HX.out]
        exact HP.out
      · go_simp
        have hc5 := cell_new u1w (.slice ae nv ce) 55
        have hb5 := hb1.alloc (le1 hb1.size) (.cells #[.slice ae nv ce] 55)
        have ho5 := ho1.alloc (.cells #[.slice ae nv ce] 55)
        have hz5 : w4.heap.size ≤ (u1w.alloc (.cells #[.slice ae nv ce] 55)).heap.size := le_alloc hz1
        have hv5 : w5.heap.size ≤ (u1w.alloc (.cells #[.slice ae nv ce] 55)).heap.size := le_alloc hv1
        have hs5 : w5.heap.size ≤ u1w.heap.size := hv1
        have hbs5 := hbs1.below (below_alloc1 u1w (.cells #[.slice ae nv ce] 55))
        refine hK _ _ ⟨⟨_, hb5⟩, rfl⟩ ?_
        clear hK
        generalize hw5 : u1w.alloc (.cells #[.slice ae nv ce] 55) = u5w at *
        clear hw5
        apply anyT_one 3
        · rfl
        · kernel_rfl
        · kernel_rfl
        intro K hK
        refine step_app_own _ _ rfl w4.heap.size rfl ho5 rfl hbs5 (by omega) hz5 ?_
        intro a6 k6 u6w ho6 hb6 hev6
        have hbb6 := hb5.trans (hb6.mono HG.out)
        have hz6 : w4.heap.size ≤ u6w.heap.size := Nat.le_trans hz5 hb6.size
        have hv6 : w5.heap.size ≤ u6w.heap.size := Nat.le_trans hv5 hb6.size
        have hc6 := cell_evol hev6 hc5 (fun x hx e => by have h1 := ha5 x hx; have h2 := hs5; omega)
        refine hK _ _ ⟨⟨_, hbb6⟩, rfl⟩ ?_
        clear hK hb6 hev6
        apply anyT_one 7
        · rfl
        · kernel_rfl
        · kernel_rfl
        intro K hK
        go_simp
        refine (bytes_any _ _ (n5 + 1) _ _ _ _ [vl] _ ho6.bs (bss_at hc6 (HE.out.below hbb6)) ⟨by simp [tot]; omega⟩).mono ?_
        rintro en u7w ⟨a7, n7, k7, rfl, ho7, hb7⟩
        rw [bytes_one] at ho7
        have hbb7 := hbb6.trans (hb7.mono hbb6.size)
        have HP : Hid (RetB w w.heap.size (l ++ (Sst.lp e.key ++ Codec.enc e.seq ++ ([1] : List UInt8) ++ Sst.lp vl)) (.returned (.slice a7 n7 k7)) u7w) := Lib.hid ⟨_, _, _, rfl, by rw [show l ++ (Sst.lp e.key ++ Codec.enc e.seq ++ ([1] : List UInt8) ++ Sst.lp vl) = l ++ Sst.lp e.key ++ Codec.enc e.seq ++ ([1] : List UInt8) ++ (Codec.enc vl.length ++ vl) by unfold Sst.lp; simp]; exact ho7.mono (Nat.le_trans HB1.out.size hbb6.size), HB1.out.trans (hbb7.mono HB1.out.size)⟩
        refine hK _ _ ⟨⟨_, hbb7⟩, rfl⟩ ?_
        clear hK
        refine anyT_done (by kernel_rfl) ?_
        simp only [opsAt, List.filterMap_cons, List.filterMap_nil, List.getElem?_cons_zero, List.getElem?_cons_succ]
        clear ho7 hb7 hbb7
        go_wp2
        go_ret
        rw [HX.out]
        exact HP.out
    · go_simp
      have hc8 := cell_new wD (.slice ae nv ce) 55
      have hb8 := HBD.out.alloc (le1 HBD.out.size) (.cells #[.slice ae nv ce] 55)
      have ho8 := HOD.out.alloc (.cells #[.slice ae nv ce] 55)
      have hz8 : w4.heap.size ≤ (wD.alloc (.cells #[.slice ae nv ce] 55)).heap.size := le_alloc HGB.out
      have hv8 : w5.heap.size ≤ (wD.alloc (.cells #[.slice ae nv ce] 55)).heap.size := le_alloc HVD
      have hs8 : w5.heap.size ≤ wD.heap.size := HVD
      refine hK _ _ ⟨⟨_, hb8⟩, rfl⟩ ?_
      clear hK
      generalize hw8 : wD.alloc (.cells #[.slice ae nv ce] 55) = u8w at *
      clear hw8
      apply anyT_one 2
      · rfl
      · kernel_rfl
      · kernel_rfl
      intro K hK
      go_simp
      have hbs9 : Bs (u8w.alloc (.cells #[.int .u8 1] 5)) (some ⟨u8w.heap.size, 0, none⟩) 1 1 ([1] : List UInt8) := Bs.one _ 1
      have hb9 := hb8.alloc (le1 hb8.size) (.cells #[.int .u8 1] 5)
      have ho9 := ho8.alloc (.cells #[.int .u8 1] 5)
      have hz9 : w4.heap.size ≤ (u8w.alloc (.cells #[.int .u8 1] 5)).heap.size := le_alloc hz8
      have hv9 : w5.heap.size ≤ (u8w.alloc (.cells #[.int .u8 1] 5)).heap.size := le_alloc hv8
      have hc9 := cell_later (below_alloc1 u8w (.cells #[.int .u8 1] 5)) hc8
      refine hK _ _ ⟨⟨_, hb9⟩, rfl⟩ ?_
      clear hK
      generalize u8w.alloc (.cells #[.int .u8 1] 5) = u9w at *
      apply anyT_one 3
      · rfl
      · kernel_rfl
      · kernel_rfl
      intro K hK
      refine step_app_own _ _ rfl w4.heap.size rfl ho9 rfl hbs9 (by omega) hz9 ?_
      intro a10 k10 u10w ho10 hb10 hev10
      have hbb10 := hb9.trans (hb10.mono HG.out)
      have hz10 : w4.heap.size ≤ u10w.heap.size := Nat.le_trans hz9 hb10.size
      have hv10 : w5.heap.size ≤ u10w.heap.size := Nat.le_trans hv9 hb10.size
      have hc10 := cell_evol hev10 hc9 (fun x hx e => by have h1 := ha5 x hx; have h2 := hs8; omega)
      refine hK _ _ ⟨⟨_, hbb10⟩, rfl⟩ ?_
      clear hK hb10 hev10
      apply anyT_one 7
      · rfl
      · kernel_rfl
      · kernel_rfl
      intro K hK
      go_simp
      refine (bytes_any _ _ (n5 + 1) _ _ _ _ [vl] _ ho10.bs (bss_at hc10 (HE.out.below hbb10)) ⟨by simp [tot]; omega⟩).mono ?_
      rintro en u11w ⟨a11, n11, k11, rfl, ho11, hb11⟩
      rw [bytes_one] at ho11
      have hbb11 := hbb10.trans (hb11.mono hbb10.size)
      have HP : Hid (RetB w w.heap.size (l ++ (Sst.lp e.key ++ Codec.enc e.seq ++ ([1] : List UInt8) ++ Sst.lp vl)) (.returned (.slice a11 n11 k11)) u11w) := Lib.hid ⟨_, _, _, rfl, by rw [show l ++ (Sst.lp e.key ++ Codec.enc e.seq ++ ([1] : List UInt8) ++ Sst.lp vl) = l ++ Sst.lp e.key ++ Codec.enc e.seq ++ ([1] : List UInt8) ++ (Codec.enc vl.length ++ vl) by unfold Sst.lp; simp]; exact ho11.mono (Nat.le_trans HB1.out.size hbb10.size), HB1.out.trans (hbb11.mono HB1.out.size)⟩
      refine hK _ _ ⟨⟨_, hbb11⟩, rfl⟩ ?_
      clear hK
      refine anyT_done (by kernel_rfl) ?_
      simp only [opsAt, List.filterMap_cons, List.filterMap_nil, List.getElem?_cons_zero, List.getElem?_cons_succ]
      clear ho11 hb11 hbb11
      go_wp2
      go_ret
      rw [HX.out]
      exact HP.out
end Go.Proofs.Ytchdmjnhjonddaa
