/- Sorted tables: bytes of strings; low, an entry's bytes. -/
import Derived.Test.YtjigfinpbdglnaaGreatDoorZScG
import Derived.Test.YtjigfinpbdglnaaGreatDoorZCgD
import Derived.Lib.ConvBytes
import Derived.Deep.DeepCutAuto
set_option linter.unusedVariables false
set_option linter.unusedSimpArgs false
section
set_option maxRecDepth 100000
set_option linter.unusedVariables false
set_option linter.unusedSimpArgs false
namespace Go.Proofs.YtjigfinpbdglnaaGreatDoor
open Go.RowKit

@[go_sem] theorem bstr_size (s : List UInt8) : (bstr s).size = s.length := by simp [bstr, ByteArray.size]
/-- The room of a string's bytes; the world behind them. -/
def strCap (w : World) (s : List UInt8) : Nat := grownCap w s.length 0 5
def strW (w : World) (s : List UInt8) : World := Lib.bytesWorld w 5 (bstr s)
@[go_sem] theorem str_conv (w : World) (s : List UInt8) : (convert 9 22 (.string (bstr s))).run Tryz.prog w = .ok (.slice (some ⟨w.heap.size, 0, none⟩) s.length (strCap w s)) (strW w s) := by
  have := Lib.run_convert_string_bytes (P := Tryz.prog) w 9 22 5 (bstr s) Tryz.underlying9 Tryz.underlying22 Tryz.underlying5
  rw [bstr_size] at this
  exact this
theorem str_below (w : World) (s : List UInt8) : Below w.heap.size w (strW w s) := by
  refine ⟨?_, ?_, ?_, ?_, fun b hb => Lib.bytesWorld_at_old w _ _ b hb⟩
  · unfold strW Lib.bytesWorld World.freeze; split <;> rfl
  · unfold strW Lib.bytesWorld World.freeze; split <;> rfl
  · unfold strW Lib.bytesWorld World.freeze; split <;> rfl
  · unfold strW; rw [Lib.bytesWorld_size]; omega
theorem str_bs (w : World) (s : List UInt8) (hs : s.length ≤ maxLen) : Bs (strW w s) (some ⟨w.heap.size, 0, none⟩) s.length (strCap w s) s := by
  refine ⟨rfl, grownCap_ge _ _ _ _, grownCap_le_maxLen _ _ _ _ hs, fun j v hj => ⟨w.heap.size, 0, rfl, ?_⟩⟩
  have hjl : j < s.length := by
    have := (List.getElem?_eq_some_iff.1 hj).1
    simpa [vs] using this
  rw [Nat.zero_add]
  refine (Lib.bytesWorld_cell w _ (bstr s) j (by rw [bstr_size]; exact hjl)).trans ?_
  simp [vs, hjl] at hj
  rw [← hj]
  simp [bstr, n8, List.getD_eq_getElem?_getD, hjl]
theorem bytes_one (x : List UInt8) : Codec.bytes [x] = Codec.enc x.length ++ x := by unfold Codec.bytes; simp
/-! Plain. -/
def Sst.lp (x : List UInt8) : List UInt8 := Codec.enc x.length ++ x
def Sst.gone (b : Bool) : List UInt8 := if b = true then [1] else [0]
def Sst.ent (e : Ent) : List UInt8 := Sst.lp e.key ++ Codec.enc e.seq ++ Sst.gone e.gone ++ Sst.lp e.val
set_option maxHeartbeats 400000 in
theorem slow_any (B : Nat) (a : Option Addr) (n c : Nat) (l : List UInt8) (v k : Nat) (w : World) (hB : B ≤ w.heap.size) (h : Own w B a n c l) (hn : n + k ≤ 140737488355328) :
    Calls Tryz.prog 44 #[.slice a n c, .int .u64 v, .int .i64 k] w (RetE w B a (l ++ Codec.low k v)) := by
  have HN := Lib.hid hn
  have hk : k ≤ 9223372036854775806 := by omega
  clear hn
  go_enter Tryz.func44, Tryz.ntmps44
  go_wp2
  go_loopw [0, 1, 8] (fun s x i wr => ∃ (a' : Option Addr) (c' v' m : Nat) (p : List UInt8), m ≤ k ∧ i = .int .i64 m ∧ s = .slice a' (n + m) c' ∧ x = .int .u64 v' ∧ Own wr B a' (n + m) c' (l ++ p) ∧ Codec.low k v = p ++ Codec.low (k - m) v' ∧ p.length = m ∧ Below B w wr ∧ Evol w a wr a') (fun _ _ i _ => k - (intOf i).toNat)
  case atStart => exact ⟨a, c, v, 0, [], by omega, rfl, rfl, rfl, by simpa using h, rfl, rfl, Below.refl _ _, Evol.refl _ _⟩
  case round =>
    obtain ⟨a', c', v', m, p, hm, rfl, rfl, rfl, happ, he, hp, hb, hev⟩ := hrel
    have HE := Lib.hid he; have HP := Lib.hid hp
    have hbz := Nat.le_trans hB hb.size
    clear he hp
    by_cases hlt : m < k
    · go_wp2_with (at_builtin; refine app_own rfl _ _ rfl B rfl (happ.alloc _) rfl (Bs.one _ _) (by have := HN.out; omega) (le_alloc hbz) ?_; intro a'' c'' w' h1 h2 h3)
      have HG := low_step hlt HE.out HP.out hb h1 (((Below.refl _ _).alloc hbz _).trans h2) (hev.trans ((Evol.alloc _ _ _).trans h3))
      clear h1 h2 h3 happ
      go_roundw
      case rel => exact ⟨_, _, _, m + 1, _, by omega, by go_num, rfl, by go_num, HG⟩
      case measure => simp [intOf]; omega
    · obtain rfl : m = k := by omega
      go_wp2
      go_ret
      refine ⟨_, _, _, rfl, ?_, hb, hev⟩
      have := HE.out
      simp [Codec.low] at this
      rw [this]; exact happ

/-- append of bytes to a row of the call's own, as one operation. -/
theorem step_app_own {w : World} {o : Oper} {a : Act} {K : Act → World → Prop} {Q : Exit → Act → World → Prop} (s x : Operand) (ho : o.op = .call { callee := .builtin .append, args := #[s, x], argTypes := #[22, 22] })
    (B : Nat) {aq : Option Addr} {n c : Nat} {l : List UInt8} (hs : a.eval s = .slice aq n c) (hown : Own w B aq n c l)
    {ax : Option Addr} {m cx : Nat} {p : List UInt8} (hx : a.eval x = .slice ax m cx) (hr : Bs w ax m cx p) (hb : n + m ≤ 140737488355328) (hB : B ≤ w.heap.size)
    (h : ∀ a' c' w', Own w' B a' (n + m) c' (l ++ p) → Below B w w' → Evol w aq w' a' → K (a.put o.dst (.slice a' (n + m) c')) w') : o.wp Tryz.prog a w K Q := by
  obtain ⟨i, hi, h0, h1, h2⟩ := info_parts info8
  obtain ⟨a', c', w', hr', g1, g2⟩ := run_append_own' (P := Tryz.prog) w B 22 o.type 5 i (.int .u8 0) 1 1 Tryz.underlying22 hi h0 h1 h2 rfl (by decide) aq n c (vs l) hown ax m cx (vs p) (by rw [vs_len, hr.1]; simp) hr.2.2.2 (vs_one p) (by omega) (by simp only [maxLen]; omega) hB
  unfold Oper.wp execOp
  simp only [ho, resolve, invoke, builtin, Sem.run_bind, Sem.run_pure, Result.andThen_ok, List.map_toArray, List.map_cons, List.map_nil, hs, hx, hr']
  rw [← vs_append] at g1
  exact h _ _ _ g1 (g2.below hB (fun x hx => by subst hx; exact (World.ownsRow.lt hown x.block rfl).1)) g2
theorem bss_at {w : World} {s : Nat} {a : Option Addr} {n c : Nat} {l : List UInt8} (hc : w.cell? ⟨s, 0, none⟩ = some (.slice a n c)) (h : Bs w a n c l) : Bss w (some ⟨s, 0, none⟩) 1 1 [l] := by
  refine ⟨rfl, Nat.le_refl _, by simp [maxLen], fun i hi => ?_⟩
  obtain rfl : i = 0 := by omega
  exact ⟨s, 0, a, n, c, rfl, hc, h⟩
theorem cell_evol {w w' : World} {a a' : Option Addr} {s o : Nat} {v : Value} (h : Evol w a w' a') (hc : w.cell? ⟨s, o, none⟩ = some v) (hne : ∀ x, a = some x → x.block ≠ s) : w'.cell? ⟨s, o, none⟩ = some v :=
  (World.cell?_of_block (h.1.block s (World.block_lt_of_cell? _ _ hc) (fun e => by
    cases a with
    | none => cases e
    | some x => exact hne x rfl (by simpa using e.symm)))).trans hc
theorem cell_new (w : World) (v : Value) (t : TypeId) : (w.alloc (.cells #[v] t)).cell? ⟨w.heap.size, 0, none⟩ = some v := (cell_of_row _ _ 0 _ _ _ (heap_alloc_new w _)).trans rfl
theorem ent_box {w : World} {k : Nat} (hk : k = w.heap.size) (e : Ent) (a : Option Addr) (c : Nat) : EntAt (w.alloc (.cells #[.string (bstr e.key), .int .u64 e.seq, .bool e.gone, .slice a e.val.length c] 37)) k 0 e a c := by
  subst hk
  have h := heap_alloc_new w (.cells #[.string (bstr e.key), .int .u64 e.seq, .bool e.gone, .slice a e.val.length c] 37)
  exact ⟨(cell_of_row _ _ 0 _ _ _ h).trans rfl, (cell_of_row _ _ 1 _ _ _ h).trans rfl, (cell_of_row _ _ 2 _ _ _ h).trans rfl, (cell_of_row _ _ 3 _ _ _ h).trans rfl⟩
set_option maxHeartbeats 4000000 in
theorem sent_any (a : Option Addr) (n c : Nat) (l : List UInt8) (e : Ent) (ae : Option Addr) (ce : Nat) (w : World) (h : Bs w a n c l) (he : Bs w ae e.val.length ce e.val) (hs : U64 e.seq) (hn : n + e.key.length + e.val.length ≤ 1000000000) :
    Calls Tryz.prog 40 #[.slice a n c, ev e ae ce] w (RetB w w.heap.size (l ++ Sst.ent e)) := by
  have hb1 := below_alloc1 w (.cells #[.string (bstr e.key), .int .u64 e.seq, .bool e.gone, .slice ae e.val.length ce] 37)
  have hat := ent_box (w := w) rfl e ae ce
  have HX : Hid (Sst.ent e = Sst.lp e.key ++ Codec.enc e.seq ++ Sst.gone e.gone ++ Sst.lp e.val) := Lib.hid rfl
  unfold ev
  obtain ⟨w1, hw1⟩ : ∃ w1, w.alloc (.cells #[.string (bstr e.key), .int .u64 e.seq, .bool e.gone, .slice ae e.val.length ce] 37) = w1 := ⟨_, rfl⟩
  rw [hw1] at hb1 hat
  have HB1 := Lib.hid hb1
  have HW1 := Lib.hid hw1
  have HA := Lib.hid (h.below hb1)
  have HE := Lib.hid (he.below hb1)
  have hkl : e.key.length ≤ 1000000000 := by omega
  have hel := Codec.enc_len10 hs.lt
  clear hw1 hb1 h he
  go_enter Tryz.func40, Tryz.ntmps40
  go_upto_region 1 with fail
  rw [HW1.out]
  have c0 := hat.key
  have c1 := hat.seq
  refine wp_region_order [] [0, 1, 2, 6, 7] [3, 4, 5, 8] [9] 9 (by intro c a d v w h; cases d <;> exact h) (by kernel_rfl) (by kernel_rfl) (fun W' => ∃ V : BW w1, W' = V.w) ⟨⟨w1.drew, (Below.refl _ _).drew⟩, rfl⟩ ?_
  simp only [opsAt, List.filterMap_cons, List.filterMap_nil, List.getElem?_cons_zero, List.getElem?_cons_succ]
  refine held_nil ?_
  iterate 5
    apply held_step
    · rfl
    · rintro _ ⟨V, rfl⟩
      have m0 := BW.cell c0 V
      have m1 := BW.cell c1 V
      go_simp
      rfl
  refine held_nil ?_
  have HBC : Below w1.heap.size w1 w1.drew := (Below.refl _ _).drew
  refine walkS_step rfl (fun K hK => ?_)
  go_simp
  have hS : Bs (strW w1.drew e.key) (some ⟨w1.heap.size, 0, none⟩) e.key.length (strCap w1.drew e.key) e.key := str_bs w1.drew e.key (by simp only [maxLen]; omega)
  have HB2 : Below w1.heap.size w1 (strW w1.drew e.key) := HBC.trans (str_below w1.drew e.key)
  refine hK _ _ ⟨⟨strW w1.drew e.key, HB2⟩, rfl⟩ ?_
  clear hK
  generalize strW w1.drew e.key = w2 at *
  generalize strCap w1.drew e.key = sc at *
  refine walkS_step rfl (fun K hK => ?_)
  go_simp
  have hSS := Bss.one hS
  have HB3 : Below w1.heap.size w1 (w2.alloc (.cells #[.slice (some ⟨w1.heap.size, 0, none⟩) e.key.length sc] 22)) := HB2.alloc HB2.size _
  refine hK _ _ ⟨⟨_, HB3⟩, rfl⟩ ?_
  clear hK
  refine walkS_step rfl (fun K hK => ?_)
  go_simp
  refine (bytes_any a _ n c _ _ l [e.key] _ (HA.out.below HB3) hSS ⟨by simp [tot]; omega⟩).mono ?_
  rintro en w4 ⟨a4, n4, k4, rfl, ho4, hb4⟩
  rw [bytes_one] at ho4
  have HB4 := HB3.trans (hb4.mono HB3.size)
  refine hK _ _ ⟨⟨w4, HB4⟩, rfl⟩ ?_
  clear hK
  have hn4 : n4 ≤ n + e.key.length + 10 := by
    have h1 := ho4.bs.1
    have h2 := Codec.enc_len10 (v := e.key.length) (by omega)
    simp only [List.length_append] at h1
    have h3 := HA.out.1
    omega
  refine walkS_step rfl (fun K hK => ?_)
  go_simp
  refine (number_any a4 n4 k4 _ e.seq _ ho4.bs hs ⟨by omega⟩).mono ?_
  rintro en w5 ⟨a5, n5, k5, rfl, ho5, hb5⟩
  have HB5 := HB4.trans (hb5.mono HB4.size)
  refine hK _ _ ⟨⟨w5, HB5⟩, rfl⟩ ?_
  clear hK
  refine walkS_nil ?_
  have hn5 : n5 ≤ n + e.key.length + 20 := by
    have h1 := ho5.bs.1
    have h2 := ho4.bs.1
    have h3 := HA.out.1
    have h4 := Codec.enc_len10 (v := e.key.length) (by omega)
    simp only [List.length_append] at h1 h2
    omega
  have HO5 : Hid (Own w5 w4.heap.size a5 n5 k5 (l ++ Sst.lp e.key ++ Codec.enc e.seq)) := Lib.hid ho5
  have HB5' := Lib.hid HB5
  have HG : Hid (w1.heap.size ≤ w4.heap.size) := Lib.hid HB4.size
  have HGW := hb5.size
  have c2 := cell_later HB5 hat.gone
  have c3 := cell_later HB5 hat.val
  have HE5 := Lib.hid (HE.out.below HB5)
  clear ho4 hb4 ho5 hb5 HB2 HB3 HB4 HB5 HBC hS hSS c0 c1
  have HZ : Hid (Sst.gone e.gone = if e.gone = true then [1] else [0]) := Lib.hid rfl
  generalize Sst.gone e.gone = gn at *
  generalize hgo : e.gone = go at *
  generalize hva : e.val = vl at *
  generalize hvn : vl.length = nv at *
  have b3 := hat.val
  have HGE : Hid (w4.heap.size ≤ w5.heap.size) := Lib.hid HGW
  have le1 : ∀ {a b : Nat}, a ≤ b → a ≤ b := fun h => h
  cases go
  · obtain rfl : gn = [0] := HZ.out
    go_wp2_with fail
    clear HZ c2 c3
    have HBD : Hid (Below w1.heap.size w1 w5.drew) := Lib.hid (HB5'.out.trans ((Below.refl _ _).drew.mono HB5'.out.size))
    have HOD : Hid (Own w5.drew w4.heap.size a5 n5 k5 (l ++ Sst.lp e.key ++ Codec.enc e.seq)) := Lib.hid (HO5.out.below (Below.refl _ _).drew)
    have ha5 : ∀ x, a5 = some x → x.block < w5.heap.size := fun x hx => (HO5.out.new x hx).2
    refine wp_region_steps [8] 8 8 (by kernel_rfl) (by kernel_rfl) rfl (fun W' => ∃ V : BW w1, W' = V.w) ?_
    refine anyT_pull [0, 1, 4, 5] 8 4 (by intro c a d v w h; cases d <;> exact h) (by kernel_rfl) ⟨⟨w5.drew, HBD.out⟩, rfl⟩ ?_
    simp only [opsAt, List.filterMap_cons, List.filterMap_nil, List.getElem?_cons_zero, List.getElem?_cons_succ]
    iterate 4
      apply held_step
      · kernel_rfl
      · rintro _ ⟨V, rfl⟩
        have m3 := BW.cell b3 V
        go_simp
        rfl
    refine held_nil ?_
    have HGB : Hid (w4.heap.size ≤ w5.drew.heap.size) := Lib.hid HGE.out
    have HVD : w5.heap.size ≤ w5.drew.heap.size := Nat.le_refl _
    generalize w5.drew = wD at *
    refine anyT_two 2 6 rfl rfl (by kernel_rfl) (by kernel_rfl) (by kernel_rfl) (fun K hK => ?_) (fun K hK => ?_)
    · go_simp
      have hbs1 : Bs (wD.alloc (.cells #[.int .u8 0] 5)) (some ⟨wD.heap.size, 0, none⟩) 1 1 ([0] : List UInt8) := Bs.one _ 0
      have hb1 := HBD.out.alloc (le1 HBD.out.size) (.cells #[.int .u8 0] 5)
      have ho1 := HOD.out.alloc (.cells #[.int .u8 0] 5)
      have hz1 : w4.heap.size ≤ (wD.alloc (.cells #[.int .u8 0] 5)).heap.size := le_alloc HGB.out
      have hv1 : w5.heap.size ≤ (wD.alloc (.cells #[.int .u8 0] 5)).heap.size := le_alloc HVD
      refine hK _ _ ⟨⟨_, hb1⟩, rfl⟩ ?_
      clear hK
      generalize wD.alloc (.cells #[.int .u8 0] 5) = u1w at *
      refine anyT_two 3 6 rfl rfl (by kernel_rfl) (by kernel_rfl) (by kernel_rfl) (fun K hK => ?_) (fun K hK => ?_)
      · refine step_app_own _ _ rfl w4.heap.size rfl ho1 rfl hbs1 (by omega) hz1 ?_
        intro a2 k2 u2w ho2 hb2 hev2
        have hbb2 := hb1.trans (hb2.mono HG.out)
        have hz2 : w4.heap.size ≤ u2w.heap.size := Nat.le_trans hz1 hb2.size
        have hv2 : w5.heap.size ≤ u2w.heap.size := Nat.le_trans hv1 hb2.size
        refine hK _ _ ⟨⟨_, hbb2⟩, rfl⟩ ?_
        clear hK hb2 hev2
        apply anyT_one 6
        · rfl
        · kernel_rfl
        · kernel_rfl
        intro K hK
        go_simp
        have hc3 := cell_new u2w (.slice ae nv ce) 22
        have hb3 := hbb2.alloc (le1 hbb2.size) (.cells #[.slice ae nv ce] 22)
        have ho3 := ho2.alloc (.cells #[.slice ae nv ce] 22)
        have hz3 : w4.heap.size ≤ (u2w.alloc (.cells #[.slice ae nv ce] 22)).heap.size := le_alloc hz2
        have hv3 : w5.heap.size ≤ (u2w.alloc (.cells #[.slice ae nv ce] 22)).heap.size := le_alloc hv2
        have hs3 : w5.heap.size ≤ u2w.heap.size := hv2
        refine hK _ _ ⟨⟨_, hb3⟩, rfl⟩ ?_
        clear hK
        generalize hw3 : u2w.alloc (.cells #[.slice ae nv ce] 22) = u3w at *
        clear hw3
        apply anyT_one 7
        · rfl
        · kernel_rfl
        · kernel_rfl
        intro K hK
        go_simp
        refine (bytes_any _ _ (n5 + 1) _ _ _ _ [vl] _ ho3.bs (bss_at hc3 (HE.out.below hb3)) ⟨by simp [tot]; omega⟩).mono ?_
        rintro en u4w ⟨a4, n4, k4, rfl, ho4, hb4⟩
        rw [bytes_one] at ho4
        have hbb4 := hb3.trans (hb4.mono hb3.size)
        have HP : Hid (RetB w w.heap.size (l ++ (Sst.lp e.key ++ Codec.enc e.seq ++ ([0] : List UInt8) ++ Sst.lp vl)) (.returned (.slice a4 n4 k4)) u4w) := Lib.hid ⟨_, _, _, rfl, by rw [show l ++ (Sst.lp e.key ++ Codec.enc e.seq ++ ([0] : List UInt8) ++ Sst.lp vl) = l ++ Sst.lp e.key ++ Codec.enc e.seq ++ ([0] : List UInt8) ++ (Codec.enc vl.length ++ vl) by unfold Sst.lp; simp]; exact ho4.mono (Nat.le_trans HB1.out.size hb3.size), HB1.out.trans (hbb4.mono HB1.out.size)⟩
        refine hK _ _ ⟨⟨_, hbb4⟩, rfl⟩ ?_
        clear hK
        refine anyT_done (by kernel_rfl) ?_
        simp only [opsAt, List.filterMap_cons, List.filterMap_nil, List.getElem?_cons_zero, List.getElem?_cons_succ]
        clear ho4 hb4 hbb4
        go_wp2
        go_ret
        rw [HX.out]
        exact HP.out
      · go_simp
        have hc5 := cell_new u1w (.slice ae nv ce) 22
        have hb5 := hb1.alloc (le1 hb1.size) (.cells #[.slice ae nv ce] 22)
        have ho5 := ho1.alloc (.cells #[.slice ae nv ce] 22)
        have hz5 : w4.heap.size ≤ (u1w.alloc (.cells #[.slice ae nv ce] 22)).heap.size := le_alloc hz1
        have hv5 : w5.heap.size ≤ (u1w.alloc (.cells #[.slice ae nv ce] 22)).heap.size := le_alloc hv1
        have hs5 : w5.heap.size ≤ u1w.heap.size := hv1
        have hbs5 := hbs1.below (below_alloc1 u1w (.cells #[.slice ae nv ce] 22))
        refine hK _ _ ⟨⟨_, hb5⟩, rfl⟩ ?_
        clear hK
        generalize hw5 : u1w.alloc (.cells #[.slice ae nv ce] 22) = u5w at *
        clear hw5
        apply anyT_one 3
        · rfl
        · kernel_rfl
        · kernel_rfl
        intro K hK
        refine step_app_own _ _ rfl w4.heap.size rfl ho5 rfl hbs5 (by omega) hz5 ?_
        intro a6 k6 u6w ho6 hb6 hev6
        have hbb6 := hb5.trans (hb6.mono HG.out)
        have hz6 : w4.heap.size ≤ u6w.heap.size := Nat.le_trans hz5 hb6.size
        have hv6 : w5.heap.size ≤ u6w.heap.size := Nat.le_trans hv5 hb6.size
        have hc6 := cell_evol hev6 hc5 (fun x hx e => by have h1 := ha5 x hx; have h2 := hs5; omega)
        refine hK _ _ ⟨⟨_, hbb6⟩, rfl⟩ ?_
        clear hK hb6 hev6
        apply anyT_one 7
        · rfl
        · kernel_rfl
        · kernel_rfl
        intro K hK
        go_simp
        refine (bytes_any _ _ (n5 + 1) _ _ _ _ [vl] _ ho6.bs (bss_at hc6 (HE.out.below hbb6)) ⟨by simp [tot]; omega⟩).mono ?_
        rintro en u7w ⟨a7, n7, k7, rfl, ho7, hb7⟩
        rw [bytes_one] at ho7
        have hbb7 := hbb6.trans (hb7.mono hbb6.size)
        have HP : Hid (RetB w w.heap.size (l ++ (Sst.lp e.key ++ Codec.enc e.seq ++ ([0] : List UInt8) ++ Sst.lp vl)) (.returned (.slice a7 n7 k7)) u7w) := Lib.hid ⟨_, _, _, rfl, by rw [show l ++ (Sst.lp e.key ++ Codec.enc e.seq ++ ([0] : List UInt8) ++ Sst.lp vl) = l ++ Sst.lp e.key ++ Codec.enc e.seq ++ ([0] : List UInt8) ++ (Codec.enc vl.length ++ vl) by unfold Sst.lp; simp]; exact ho7.mono (Nat.le_trans HB1.out.size hbb6.size), HB1.out.trans (hbb7.mono HB1.out.size)⟩
        refine hK _ _ ⟨⟨_, hbb7⟩, rfl⟩ ?_
        clear hK
        refine anyT_done (by kernel_rfl) ?_
        simp only [opsAt, List.filterMap_cons, List.filterMap_nil, List.getElem?_cons_zero, List.getElem?_cons_succ]
        clear ho7 hb7 hbb7
        go_wp2
        go_ret
        rw [HX.out]
        exact HP.out
    · go_simp
      have hc8 := cell_new wD (.slice ae nv ce) 22
      have hb8 := HBD.out.alloc (le1 HBD.out.size) (.cells #[.slice ae nv ce] 22)
      have ho8 := HOD.out.alloc (.cells #[.slice ae nv ce] 22)
      have hz8 : w4.heap.size ≤ (wD.alloc (.cells #[.slice ae nv ce] 22)).heap.size := le_alloc HGB.out
      have hv8 : w5.heap.size ≤ (wD.alloc (.cells #[.slice ae nv ce] 22)).heap.size := le_alloc HVD
      have hs8 : w5.heap.size ≤ wD.heap.size := HVD
      refine hK _ _ ⟨⟨_, hb8⟩, rfl⟩ ?_
      clear hK
      generalize hw8 : wD.alloc (.cells #[.slice ae nv ce] 22) = u8w at *
      clear hw8
      apply anyT_one 2
      · rfl
      · kernel_rfl
      · kernel_rfl
      intro K hK
      go_simp
      have hbs9 : Bs (u8w.alloc (.cells #[.int .u8 0] 5)) (some ⟨u8w.heap.size, 0, none⟩) 1 1 ([0] : List UInt8) := Bs.one _ 0
      have hb9 := hb8.alloc (le1 hb8.size) (.cells #[.int .u8 0] 5)
      have ho9 := ho8.alloc (.cells #[.int .u8 0] 5)
      have hz9 : w4.heap.size ≤ (u8w.alloc (.cells #[.int .u8 0] 5)).heap.size := le_alloc hz8
      have hv9 : w5.heap.size ≤ (u8w.alloc (.cells #[.int .u8 0] 5)).heap.size := le_alloc hv8
      have hc9 := cell_later (below_alloc1 u8w (.cells #[.int .u8 0] 5)) hc8
      refine hK _ _ ⟨⟨_, hb9⟩, rfl⟩ ?_
      clear hK
      generalize u8w.alloc (.cells #[.int .u8 0] 5) = u9w at *
      apply anyT_one 3
      · rfl
      · kernel_rfl
      · kernel_rfl
      intro K hK
      refine step_app_own _ _ rfl w4.heap.size rfl ho9 rfl hbs9 (by omega) hz9 ?_
      intro a10 k10 u10w ho10 hb10 hev10
      have hbb10 := hb9.trans (hb10.mono HG.out)
      have hz10 : w4.heap.size ≤ u10w.heap.size := Nat.le_trans hz9 hb10.size
      have hv10 : w5.heap.size ≤ u10w.heap.size := Nat.le_trans hv9 hb10.size
      have hc10 := cell_evol hev10 hc9 (fun x hx e => by have h1 := ha5 x hx; have h2 := hs8; omega)
      refine hK _ _ ⟨⟨_, hbb10⟩, rfl⟩ ?_
      clear hK hb10 hev10
      apply anyT_one 7
      · rfl
      · kernel_rfl
      · kernel_rfl
      intro K hK
      go_simp
      refine (bytes_any _ _ (n5 + 1) _ _ _ _ [vl] _ ho10.bs (bss_at hc10 (HE.out.below hbb10)) ⟨by simp [tot]; omega⟩).mono ?_
      rintro en u11w ⟨a11, n11, k11, rfl, ho11, hb11⟩
      rw [bytes_one] at ho11
      have hbb11 := hbb10.trans (hb11.mono hbb10.size)
      have HP : Hid (RetB w w.heap.size (l ++ (Sst.lp e.key ++ Codec.enc e.seq ++ ([0] : List UInt8) ++ Sst.lp vl)) (.returned (.slice a11 n11 k11)) u11w) := Lib.hid ⟨_, _, _, rfl, by rw [show l ++ (Sst.lp e.key ++ Codec.enc e.seq ++ ([0] : List UInt8) ++ Sst.lp vl) = l ++ Sst.lp e.key ++ Codec.enc e.seq ++ ([0] : List UInt8) ++ (Codec.enc vl.length ++ vl) by unfold Sst.lp; simp]; exact ho11.mono (Nat.le_trans HB1.out.size hbb10.size), HB1.out.trans (hbb11.mono HB1.out.size)⟩
      refine hK _ _ ⟨⟨_, hbb11⟩, rfl⟩ ?_
      clear hK
      refine anyT_done (by kernel_rfl) ?_
      simp only [opsAt, List.filterMap_cons, List.filterMap_nil, List.getElem?_cons_zero, List.getElem?_cons_succ]
      clear ho11 hb11 hbb11
      go_wp2
      go_ret
      rw [HX.out]
      exact HP.out
  · obtain rfl : gn = [1] := HZ.out
    go_wp2_with fail
    clear HZ c2 c3
    have HBD : Hid (Below w1.heap.size w1 w5.drew) := Lib.hid (HB5'.out.trans ((Below.refl _ _).drew.mono HB5'.out.size))
    have HOD : Hid (Own w5.drew w4.heap.size a5 n5 k5 (l ++ Sst.lp e.key ++ Codec.enc e.seq)) := Lib.hid (HO5.out.below (Below.refl _ _).drew)
    have ha5 : ∀ x, a5 = some x → x.block < w5.heap.size := fun x hx => (HO5.out.new x hx).2
    refine wp_region_steps [8] 8 8 (by kernel_rfl) (by kernel_rfl) rfl (fun W' => ∃ V : BW w1, W' = V.w) ?_
    refine anyT_pull [0, 1, 4, 5] 8 4 (by intro c a d v w h; cases d <;> exact h) (by kernel_rfl) ⟨⟨w5.drew, HBD.out⟩, rfl⟩ ?_
    simp only [opsAt, List.filterMap_cons, List.filterMap_nil, List.getElem?_cons_zero, List.getElem?_cons_succ]
    iterate 4
      apply held_step
      · kernel_rfl
      · rintro _ ⟨V, rfl⟩
        have m3 := BW.cell b3 V
        go_simp
        rfl
    refine held_nil ?_
    have HGB : Hid (w4.heap.size ≤ w5.drew.heap.size) := Lib.hid HGE.out
    have HVD : w5.heap.size ≤ w5.drew.heap.size := Nat.le_refl _
    generalize w5.drew = wD at *
    refine anyT_two 2 6 rfl rfl (by kernel_rfl) (by kernel_rfl) (by kernel_rfl) (fun K hK => ?_) (fun K hK => ?_)
    · go_simp
      have hbs1 : Bs (wD.alloc (.cells #[.int .u8 1] 5)) (some ⟨wD.heap.size, 0, none⟩) 1 1 ([1] : List UInt8) := Bs.one _ 1
      have hb1 := HBD.out.alloc (le1 HBD.out.size) (.cells #[.int .u8 1] 5)
      have ho1 := HOD.out.alloc (.cells #[.int .u8 1] 5)
      have hz1 : w4.heap.size ≤ (wD.alloc (.cells #[.int .u8 1] 5)).heap.size := le_alloc HGB.out
      have hv1 : w5.heap.size ≤ (wD.alloc (.cells #[.int .u8 1] 5)).heap.size := le_alloc HVD
      refine hK _ _ ⟨⟨_, hb1⟩, rfl⟩ ?_
      clear hK
      generalize wD.alloc (.cells #[.int .u8 1] 5) = u1w at *
      refine anyT_two 3 6 rfl rfl (by kernel_rfl) (by kernel_rfl) (by kernel_rfl) (fun K hK => ?_) (fun K hK => ?_)
      · refine step_app_own _ _ rfl w4.heap.size rfl ho1 rfl hbs1 (by omega) hz1 ?_
        intro a2 k2 u2w ho2 hb2 hev2
        have hbb2 := hb1.trans (hb2.mono HG.out)
        have hz2 : w4.heap.size ≤ u2w.heap.size := Nat.le_trans hz1 hb2.size
        have hv2 : w5.heap.size ≤ u2w.heap.size := Nat.le_trans hv1 hb2.size
        refine hK _ _ ⟨⟨_, hbb2⟩, rfl⟩ ?_
        clear hK hb2 hev2
        apply anyT_one 6
        · rfl
        · kernel_rfl
        · kernel_rfl
        intro K hK
        go_simp
        have hc3 := cell_new u2w (.slice ae nv ce) 22
        have hb3 := hbb2.alloc (le1 hbb2.size) (.cells #[.slice ae nv ce] 22)
        have ho3 := ho2.alloc (.cells #[.slice ae nv ce] 22)
        have hz3 : w4.heap.size ≤ (u2w.alloc (.cells #[.slice ae nv ce] 22)).heap.size := le_alloc hz2
        have hv3 : w5.heap.size ≤ (u2w.alloc (.cells #[.slice ae nv ce] 22)).heap.size := le_alloc hv2
        have hs3 : w5.heap.size ≤ u2w.heap.size := hv2
        refine hK _ _ ⟨⟨_, hb3⟩, rfl⟩ ?_
        clear hK
        generalize hw3 : u2w.alloc (.cells #[.slice ae nv ce] 22) = u3w at *
        clear hw3
        apply anyT_one 7
        · rfl
        · kernel_rfl
        · kernel_rfl
        intro K hK
        go_simp
        refine (bytes_any _ _ (n5 + 1) _ _ _ _ [vl] _ ho3.bs (bss_at hc3 (HE.out.below hb3)) ⟨by simp [tot]; omega⟩).mono ?_
        rintro en u4w ⟨a4, n4, k4, rfl, ho4, hb4⟩
        rw [bytes_one] at ho4
        have hbb4 := hb3.trans (hb4.mono hb3.size)
        have HP : Hid (RetB w w.heap.size (l ++ (Sst.lp e.key ++ Codec.enc e.seq ++ ([1] : List UInt8) ++ Sst.lp vl)) (.returned (.slice a4 n4 k4)) u4w) := Lib.hid ⟨_, _, _, rfl, by rw [show l ++ (Sst.lp e.key ++ Codec.enc e.seq ++ ([1] : List UInt8) ++ Sst.lp vl) = l ++ Sst.lp e.key ++ Codec.enc e.seq ++ ([1] : List UInt8) ++ (Codec.enc vl.length ++ vl) by unfold Sst.lp; simp]; exact ho4.mono (Nat.le_trans HB1.out.size hb3.size), HB1.out.trans (hbb4.mono HB1.out.size)⟩
        refine hK _ _ ⟨⟨_, hbb4⟩, rfl⟩ ?_
        clear hK
        refine anyT_done (by kernel_rfl) ?_
        simp only [opsAt, List.filterMap_cons, List.filterMap_nil, List.getElem?_cons_zero, List.getElem?_cons_succ]
        clear ho4 hb4 hbb4
        go_wp2
        go_ret
        rw [HX.out]
        exact HP.out
      · go_simp
        have hc5 := cell_new u1w (.slice ae nv ce) 22
        have hb5 := hb1.alloc (le1 hb1.size) (.cells #[.slice ae nv ce] 22)
        have ho5 := ho1.alloc (.cells #[.slice ae nv ce] 22)
        have hz5 : w4.heap.size ≤ (u1w.alloc (.cells #[.slice ae nv ce] 22)).heap.size := le_alloc hz1
        have hv5 : w5.heap.size ≤ (u1w.alloc (.cells #[.slice ae nv ce] 22)).heap.size := le_alloc hv1
        have hs5 : w5.heap.size ≤ u1w.heap.size := hv1
        have hbs5 := hbs1.below (below_alloc1 u1w (.cells #[.slice ae nv ce] 22))
        refine hK _ _ ⟨⟨_, hb5⟩, rfl⟩ ?_
        clear hK
        generalize hw5 : u1w.alloc (.cells #[.slice ae nv ce] 22) = u5w at *
        clear hw5
        apply anyT_one 3
        · rfl
        · kernel_rfl
        · kernel_rfl
        intro K hK
        refine step_app_own _ _ rfl w4.heap.size rfl ho5 rfl hbs5 (by omega) hz5 ?_
        intro a6 k6 u6w ho6 hb6 hev6
        have hbb6 := hb5.trans (hb6.mono HG.out)
        have hz6 : w4.heap.size ≤ u6w.heap.size := Nat.le_trans hz5 hb6.size
        have hv6 : w5.heap.size ≤ u6w.heap.size := Nat.le_trans hv5 hb6.size
        have hc6 := cell_evol hev6 hc5 (fun x hx e => by have h1 := ha5 x hx; have h2 := hs5; omega)
        refine hK _ _ ⟨⟨_, hbb6⟩, rfl⟩ ?_
        clear hK hb6 hev6
        apply anyT_one 7
        · rfl
        · kernel_rfl
        · kernel_rfl
        intro K hK
        go_simp
        refine (bytes_any _ _ (n5 + 1) _ _ _ _ [vl] _ ho6.bs (bss_at hc6 (HE.out.below hbb6)) ⟨by simp [tot]; omega⟩).mono ?_
        rintro en u7w ⟨a7, n7, k7, rfl, ho7, hb7⟩
        rw [bytes_one] at ho7
        have hbb7 := hbb6.trans (hb7.mono hbb6.size)
        have HP : Hid (RetB w w.heap.size (l ++ (Sst.lp e.key ++ Codec.enc e.seq ++ ([1] : List UInt8) ++ Sst.lp vl)) (.returned (.slice a7 n7 k7)) u7w) := Lib.hid ⟨_, _, _, rfl, by rw [show l ++ (Sst.lp e.key ++ Codec.enc e.seq ++ ([1] : List UInt8) ++ Sst.lp vl) = l ++ Sst.lp e.key ++ Codec.enc e.seq ++ ([1] : List UInt8) ++ (Codec.enc vl.length ++ vl) by unfold Sst.lp; simp]; exact ho7.mono (Nat.le_trans HB1.out.size hbb6.size), HB1.out.trans (hbb7.mono HB1.out.size)⟩
        refine hK _ _ ⟨⟨_, hbb7⟩, rfl⟩ ?_
        clear hK
        refine anyT_done (by kernel_rfl) ?_
        simp only [opsAt, List.filterMap_cons, List.filterMap_nil, List.getElem?_cons_zero, List.getElem?_cons_succ]
        clear ho7 hb7 hbb7
        go_wp2
        go_ret
        rw [HX.out]
        exact HP.out
    · go_simp
      have hc8 := cell_new wD (.slice ae nv ce) 22
      have hb8 := HBD.out.alloc (le1 HBD.out.size) (.cells #[.slice ae nv ce] 22)
      have ho8 := HOD.out.alloc (.cells #[.slice ae nv ce] 22)
      have hz8 : w4.heap.size ≤ (wD.alloc (.cells #[.slice ae nv ce] 22)).heap.size := le_alloc HGB.out
      have hv8 : w5.heap.size ≤ (wD.alloc (.cells #[.slice ae nv ce] 22)).heap.size := le_alloc HVD
      have hs8 : w5.heap.size ≤ wD.heap.size := HVD
      refine hK _ _ ⟨⟨_, hb8⟩, rfl⟩ ?_
      clear hK
      generalize hw8 : wD.alloc (.cells #[.slice ae nv ce] 22) = u8w at *
      clear hw8
      apply anyT_one 2
      · rfl
      · kernel_rfl
      · kernel_rfl
      intro K hK
      go_simp
      have hbs9 : Bs (u8w.alloc (.cells #[.int .u8 1] 5)) (some ⟨u8w.heap.size, 0, none⟩) 1 1 ([1] : List UInt8) := Bs.one _ 1
      have hb9 := hb8.alloc (le1 hb8.size) (.cells #[.int .u8 1] 5)
      have ho9 := ho8.alloc (.cells #[.int .u8 1] 5)
      have hz9 : w4.heap.size ≤ (u8w.alloc (.cells #[.int .u8 1] 5)).heap.size := le_alloc hz8
      have hv9 : w5.heap.size ≤ (u8w.alloc (.cells #[.int .u8 1] 5)).heap.size := le_alloc hv8
      have hc9 := cell_later (below_alloc1 u8w (.cells #[.int .u8 1] 5)) hc8
      refine hK _ _ ⟨⟨_, hb9⟩, rfl⟩ ?_
      clear hK
      generalize u8w.alloc (.cells #[.int .u8 1] 5) = u9w at *
      apply anyT_one 3
      · rfl
      · kernel_rfl
      · kernel_rfl
      intro K hK
      refine step_app_own _ _ rfl w4.heap.size rfl ho9 rfl hbs9 (by omega) hz9 ?_
      intro a10 k10 u10w ho10 hb10 hev10
      have hbb10 := hb9.trans (hb10.mono HG.out)
      have hz10 : w4.heap.size ≤ u10w.heap.size := Nat.le_trans hz9 hb10.size
      have hv10 : w5.heap.size ≤ u10w.heap.size := Nat.le_trans hv9 hb10.size
      have hc10 := cell_evol hev10 hc9 (fun x hx e => by have h1 := ha5 x hx; have h2 := hs8; omega)
      refine hK _ _ ⟨⟨_, hbb10⟩, rfl⟩ ?_
      clear hK hb10 hev10
      apply anyT_one 7
      · rfl
      · kernel_rfl
      · kernel_rfl
      intro K hK
      go_simp
      refine (bytes_any _ _ (n5 + 1) _ _ _ _ [vl] _ ho10.bs (bss_at hc10 (HE.out.below hbb10)) ⟨by simp [tot]; omega⟩).mono ?_
      rintro en u11w ⟨a11, n11, k11, rfl, ho11, hb11⟩
      rw [bytes_one] at ho11
      have hbb11 := hbb10.trans (hb11.mono hbb10.size)
      have HP : Hid (RetB w w.heap.size (l ++ (Sst.lp e.key ++ Codec.enc e.seq ++ ([1] : List UInt8) ++ Sst.lp vl)) (.returned (.slice a11 n11 k11)) u11w) := Lib.hid ⟨_, _, _, rfl, by rw [show l ++ (Sst.lp e.key ++ Codec.enc e.seq ++ ([1] : List UInt8) ++ Sst.lp vl) = l ++ Sst.lp e.key ++ Codec.enc e.seq ++ ([1] : List UInt8) ++ (Codec.enc vl.length ++ vl) by unfold Sst.lp; simp]; exact ho11.mono (Nat.le_trans HB1.out.size hbb10.size), HB1.out.trans (hbb11.mono HB1.out.size)⟩
      refine hK _ _ ⟨⟨_, hbb11⟩, rfl⟩ ?_
      clear hK
      refine anyT_done (by kernel_rfl) ?_
      simp only [opsAt, List.filterMap_cons, List.filterMap_nil, List.getElem?_cons_zero, List.getElem?_cons_succ]
      clear ho11 hb11 hbb11
      go_wp2
      go_ret
      rw [HX.out]
      exact HP.out
end Go.Proofs.YtjigfinpbdglnaaGreatDoor
end

section
set_option maxRecDepth 100000
set_option linter.unusedVariables false
set_option linter.unusedSimpArgs false
namespace Go.Proofs.YtjigfinpbdglnaaGreatDoor
open Go.RowKit

set_option maxHeartbeats 400000 in
theorem refbytes_e (B : Nat) (a ax : Option Addr) (n c m cx : Nat) (l x : List UInt8) (w : World) (hB : B ≤ w.heap.size) (h : AppB w B a n c l) (hx : Bs w ax m cx x) (hne : 0 < m → ∀ y z, ax = some y → a = some z → y.block ≠ z.block) (hn : Fits (n + m + 10)) :
    Calls Tryz.prog 68 #[.slice a n c, .slice ax m cx] w (RetE w B a (l ++ (Codec.enc m ++ x))) := by
  have hle := hx.le.1
  have hu : U64 m := ⟨by have := hn.le; omega⟩
  have hf : Fits n := ⟨by have := hn.le; omega⟩
  go_enter Tryz.func68, Tryz.ntmps68
  go_wp2_with fail
  refine (refnumber_any B _ _ _ l _ _ hB h hu hf).mono ?_
  rintro e w1 ⟨a1, n1, c1, rfl, ho, hb, hev⟩
  have hx1 := hx.evol hev hne
  have hroom : n1 + m ≤ 140737488355328 := by
    have := ho.bs.1; have := hn.le; have := h.bs.1; have := Codec.enc_len10 hu.lt; simp only [List.length_append] at *; omega
  go_wp2_with (at_builtin; refine app_own rfl _ _ rfl B rfl ho rfl hx1 hroom (Nat.le_trans hB hb.size) ?_; intro a'' c'' w' h1 h2 h3)
  go_ret
  exact ⟨_, _, _, rfl, by rw [← List.append_assoc]; exact h1, hb.trans h2, hev.trans h3⟩


set_option maxHeartbeats 400000 in
theorem refframe_e (B : Nat) (a ax : Option Addr) (n c m cx : Nat) (l x : List UInt8) (w : World) (hB : B ≤ w.heap.size) (h : AppB w B a n c l) (hx : Bs w ax m cx x) (hne : 0 < m → ∀ y z, ax = some y → a = some z → y.block ≠ z.block) (hn : Fits (n + m + 20)) :
    Calls Tryz.prog 32 #[.slice a n c, .slice ax m cx] w (RetE w B a (l ++ Codec.frame x)) := by
  have hle := hx.le.1
  have hu : U64 m := ⟨by have := hn.le; omega⟩
  have hf : Fits n := ⟨by have := hn.le; omega⟩
  have HX := Lib.hid hx.1
  go_enter Tryz.func32, Tryz.ntmps32
  go_wp2_with fail
  refine (refnumber_any B _ _ _ l _ _ hB h hu hf).mono ?_
  rintro e w1 ⟨a1, n1, c1, rfl, ho, hb, hev⟩
  have hx1 := hx.evol hev hne
  have hl1 : n1 + m + 4 ≤ 140737488355328 := by
    have := ho.bs.1; have := hn.le; have := h.bs.1; have := Codec.enc_len10 hu.lt; simp only [List.length_append] at *; omega
  go_wp2_with fail
  refine (refsum_any _ _ _ x _ hx1).mono ?_
  rintro e w2 ⟨rfl, rfl⟩
  go_wp2_with fail
  refine (four_any B _ _ _ _ _ _ (Nat.le_trans hB hb.size) ho (by omega)).mono ?_
  rintro e w2 ⟨a2, n2, c2, rfl, ho2, hb2, hev2⟩
  have hx2 := hx.evol (hev.trans hev2) hne
  have hl2 : n2 + m ≤ 140737488355328 := by
    have h1 := ho2.bs.1; have h2 := ho.bs.1
    rw [List.length_append, h2] at h1
    have : (Codec.four (Codec.sum x)).length = 4 := rfl
    omega
  go_wp2_with (at_builtin; refine app_own rfl _ _ rfl B rfl ho2 rfl hx2 hl2 (Nat.le_trans hB (Nat.le_trans hb.size hb2.size)) ?_; intro a'' c'' w' h1 h2 h3)
  go_ret
  refine ⟨_, _, _, rfl, ?_, (hb.trans hb2).trans h2, (hev.trans hev2).trans h3⟩
  unfold Codec.frame
  rw [HX.out]
  simpa [List.append_assoc] using h1

set_option maxHeartbeats 4000000 in
theorem rent_any (B : Nat) (a : Option Addr) (n c : Nat) (l : List UInt8) (e : Ent) (ae : Option Addr) (ce : Nat) (w : World) (hB : B ≤ w.heap.size) (h : Own w B a n c l) (he : Bs w ae e.val.length ce e.val) (hne : 0 < e.val.length → ∀ y z, ae = some y → a = some z → y.block ≠ z.block) (hs : U64 e.seq) (hn : n + e.key.length + e.val.length ≤ 1000000000) :
    Calls Tryz.prog 31 #[.slice a n c, ev e ae ce] w (RetE w B a (l ++ Sst.ent e)) := by
  have hb1 := below_alloc1 w (.cells #[.string (bstr e.key), .int .u64 e.seq, .bool e.gone, .slice ae e.val.length ce] 37)
  have hev1 := Evol.alloc w a (.cells #[.string (bstr e.key), .int .u64 e.seq, .bool e.gone, .slice ae e.val.length ce] 37)
  have hat := ent_box (w := w) rfl e ae ce
  have HX : Hid (Sst.ent e = Sst.lp e.key ++ Codec.enc e.seq ++ Sst.gone e.gone ++ Sst.lp e.val) := Lib.hid rfl
  unfold ev
  obtain ⟨w1, hw1⟩ : ∃ w1, w.alloc (.cells #[.string (bstr e.key), .int .u64 e.seq, .bool e.gone, .slice ae e.val.length ce] 37) = w1 := ⟨_, rfl⟩
  rw [hw1] at hb1 hat hev1
  have HB1 := Lib.hid (hb1.mono hB)
  have HEV1 := Lib.hid hev1
  have HW1 := Lib.hid hw1
  have HA := Lib.hid (h.below hb1)
  have HE := Lib.hid he
  have HNE := Lib.hid hne
  have ha := fun x (hx : a = some x) => (h.new x hx).2
  have HAB := Lib.hid (fun x (hx : a = some x) => Nat.ne_of_lt (ha x hx))
  have hwb : B ≤ w1.heap.size := Nat.le_trans hB hb1.size
  have hkl : e.key.length ≤ 1000000000 := by omega
  have hel := Codec.enc_len10 hs.lt
  have HLN := Lib.hid h.bs.1
  have HAT := Lib.hid hat
  have HLT : Hid (∀ x, a = some x → x.block < w1.heap.size) := Lib.hid (fun x hx => Nat.lt_of_lt_of_le (ha x hx) hb1.size)
  clear hw1 hb1 h he hev1 hne ha hat
  go_enter Tryz.func31, Tryz.ntmps31
  go_upto_region 1 with fail
  rw [HW1.out]
  have c0 := HAT.out.key
  go_wp2_with fail
  have hS : Bs (strW w1 e.key) (some ⟨w1.heap.size, 0, none⟩) e.key.length (strCap w1 e.key) e.key := str_bs w1 e.key (by simp only [maxLen]; omega)
  have HB2 := Lib.hid (HB1.out.trans ((str_below w1 e.key).mono hwb))
  have HEV2 := Lib.hid (HEV1.out.trans (Evol.of_below (str_below w1 e.key)))
  have HEVS : Hid (Evol w1 a (strW w1 e.key) a) := Lib.hid (Evol.of_below (str_below w1 e.key))
  have HA2 := Lib.hid (HA.out.below (str_below w1 e.key))
  have hwb2 : B ≤ (strW w1 e.key).heap.size := Nat.le_trans hwb (str_below w1 e.key).size
  generalize strW w1 e.key = w2 at *
  generalize strCap w1 e.key = sc at *
  refine (refbytes_e B a _ n c e.key.length sc l e.key _ hwb2 HA2.out.app hS (fun _ y z hy hz => by cases hy; have := HLT.out z hz; simp only; omega) ⟨by omega⟩).mono ?_
  rintro en w3 ⟨a3, n3, k3, rfl, ho3, hb3, hev3⟩
  have HB3 := Lib.hid (HB2.out.trans hb3)
  have HEV3 := Lib.hid (HEV2.out.trans hev3)
  have HEVX := Lib.hid (HEVS.out.trans hev3)
  have HO3 : Hid (Own w3 B a3 n3 k3 (l ++ Sst.lp e.key)) := Lib.hid ho3
  have hn3 : n3 ≤ n + e.key.length + 10 := by
    have h1 := ho3.bs.1
    have h2 := Codec.enc_len10 (v := e.key.length) (by omega)
    have h3 := HLN.out
    simp only [List.length_append] at h1
    omega
  have hw3 : B ≤ w3.heap.size := Nat.le_trans hwb2 hb3.size
  have c1 := cell_evol HEVX.out HAT.out.seq HAB.out
  clear c0 hS ho3 hb3 hev3
  go_wp2_with fail
  refine (refnumber_any B a3 n3 k3 _ e.seq w3 hw3 HO3.out.app hs ⟨by omega⟩).mono ?_
  rintro en w4 ⟨a4, n4, k4, rfl, ho4, hb4, hev4⟩
  have HB4 := Lib.hid (HB3.out.trans hb4)
  have HEV4 := Lib.hid (HEV3.out.trans hev4)
  have HEVY := Lib.hid (HEVX.out.trans hev4)
  have HO4 := Lib.hid ho4
  have hw4 : B ≤ w4.heap.size := Nat.le_trans hw3 hb4.size
  have hn4 : n4 ≤ n + e.key.length + 20 := by
    have h1 := ho4.bs.1
    have h2 := HO3.out.bs.1
    simp only [List.length_append] at h1 h2
    omega
  clear c1 ho4 hb4 hev4
  have c2 := cell_evol HEVY.out HAT.out.gone HAB.out
  have HZ : Hid (Sst.gone e.gone = if e.gone = true then [1] else [0]) := Lib.hid rfl
  generalize Sst.gone e.gone = gn at *
  generalize hgo : e.gone = go at *
  cases go
  · obtain rfl : gn = [0] := HZ.out
    go_wp2_with (at_builtin; refine app_own rfl _ _ rfl B rfl (HO4.out.alloc _) rfl (Bs.one _ (0 : UInt8)) (by omega) (le_alloc hw4) ?_; intro a5 k5 w5 h5 hb5 hev5; have HO5 := Lib.hid h5; have HB5 := Lib.hid (HB4.out.trans (((Below.refl _ _).alloc hw4 _).trans hb5)); have HEV5 := Lib.hid (HEV4.out.trans ((Evol.alloc _ _ _).trans hev5)); have hw5 : B ≤ w5.heap.size := Nat.le_trans (le_alloc hw4) hb5.size; have c3 := cell_evol (HEVY.out.trans ((Evol.alloc _ _ _).trans hev5)) HAT.out.val HAB.out; clear h5 hb5 hev5)
    refine (refbytes_e B a5 ae (n4 + 1) k5 e.val.length ce _ e.val w5 hw5 HO5.out.app (HE.out.evol HEV5.out HNE.out) (fun h0 y z hy hz => by
      rcases HEV5.out.2 z hz with k | k
      · cases a with
        | none => cases k
        | some x =>
          have h1 := HNE.out h0 y x hy rfl
          simp only [Option.map_some, Option.some.injEq] at k
          omega
      · have := HE.out.old h0 y hy
        omega) ⟨by omega⟩).mono ?_
    rintro en w6 ⟨a6, n6, k6, rfl, ho6, hb6, hev6⟩
    have HP : Hid (RetE w B a (l ++ Sst.ent e) (.returned (.slice a6 n6 k6)) w6) := Lib.hid ⟨_, _, _, rfl, by
      rw [HX.out]
      rw [show l ++ (Sst.lp e.key ++ Codec.enc e.seq ++ [0] ++ Sst.lp e.val) = l ++ Sst.lp e.key ++ Codec.enc e.seq ++ [0] ++ (Codec.enc e.val.length ++ e.val) by unfold Sst.lp; simp]
      exact ho6, HB5.out.trans hb6, HEV5.out.trans hev6⟩
    clear ho6 hb6 hev6 c3
    go_wp2
    go_ret
    exact HP.out
  · obtain rfl : gn = [1] := HZ.out
    go_wp2_with (at_builtin; refine app_own rfl _ _ rfl B rfl (HO4.out.alloc _) rfl (Bs.one _ (1 : UInt8)) (by omega) (le_alloc hw4) ?_; intro a5 k5 w5 h5 hb5 hev5; have HO5 := Lib.hid h5; have HB5 := Lib.hid (HB4.out.trans (((Below.refl _ _).alloc hw4 _).trans hb5)); have HEV5 := Lib.hid (HEV4.out.trans ((Evol.alloc _ _ _).trans hev5)); have hw5 : B ≤ w5.heap.size := Nat.le_trans (le_alloc hw4) hb5.size; have c3 := cell_evol (HEVY.out.trans ((Evol.alloc _ _ _).trans hev5)) HAT.out.val HAB.out; clear h5 hb5 hev5)
    refine (refbytes_e B a5 ae (n4 + 1) k5 e.val.length ce _ e.val w5 hw5 HO5.out.app (HE.out.evol HEV5.out HNE.out) (fun h0 y z hy hz => by
      rcases HEV5.out.2 z hz with k | k
      · cases a with
        | none => cases k
        | some x =>
          have h1 := HNE.out h0 y x hy rfl
          simp only [Option.map_some, Option.some.injEq] at k
          omega
      · have := HE.out.old h0 y hy
        omega) ⟨by omega⟩).mono ?_
    rintro en w6 ⟨a6, n6, k6, rfl, ho6, hb6, hev6⟩
    have HP : Hid (RetE w B a (l ++ Sst.ent e) (.returned (.slice a6 n6 k6)) w6) := Lib.hid ⟨_, _, _, rfl, by
      rw [HX.out]
      rw [show l ++ (Sst.lp e.key ++ Codec.enc e.seq ++ [1] ++ Sst.lp e.val) = l ++ Sst.lp e.key ++ Codec.enc e.seq ++ [1] ++ (Codec.enc e.val.length ++ e.val) by unfold Sst.lp; simp]
      exact ho6, HB5.out.trans hb6, HEV5.out.trans hev6⟩
    clear ho6 hb6 hev6 c3
    go_wp2
    go_ret
    exact HP.out
end Go.Proofs.YtjigfinpbdglnaaGreatDoor
end

section
set_option maxRecDepth 100000
set_option linter.unusedVariables false
set_option linter.unusedSimpArgs false
namespace Go.Proofs.YtjigfinpbdglnaaGreatDoor
open Go.RowKit

/-! eight -/
theorem low_snoc : ∀ (k v : Nat), Codec.low (k + 1) v = Codec.low k v ++ [UInt8.ofNat (v / 256 ^ k)]
  | 0, v => by simp [Codec.low]
  | k + 1, v => by
    have h := low_snoc k (v / 256)
    rw [show Codec.low (k + 1 + 1) v = UInt8.ofNat v :: Codec.low (k + 1) (v / 256) from rfl, h]
    rw [show Codec.low (k + 1) v = UInt8.ofNat v :: Codec.low k (v / 256) from rfl, List.cons_append, Nat.div_div_eq_div_mul, Nat.pow_succ, Nat.mul_comm]
/-! Rows whose elements are plain cells. -/
structure Cel (α : Type) where
  f : α → List Value
  s : Nat
  len : ∀ x, (f x).length = s
  one : ∀ x, ∀ u ∈ f x, u.oneCell' = true
theorem flat_at {α : Type} [Inhabited α] (C : Cel α) : ∀ (l : List α) (i j : Nat), i < l.length → j < C.s → (l.flatMap C.f)[i * C.s + j]? = (C.f (nth l i))[j]?
  | [], i, j, h, _ => by simp at h
  | x :: l, 0, j, _, hj => by
    rw [List.flatMap_cons, Nat.zero_mul, Nat.zero_add, List.getElem?_append_left (by rw [C.len]; exact hj)]
    rfl
  | x :: l, i + 1, j, h, hj => by
    rw [List.flatMap_cons, List.getElem?_append_right (by rw [C.len, Nat.succ_mul]; omega), C.len, show (i + 1) * C.s + j - C.s = i * C.s + j by rw [Nat.succ_mul]; omega, flat_at C l i j (by simpa using h) hj]
    rfl
theorem flat_len {α : Type} (C : Cel α) (l : List α) : (l.flatMap C.f).length = l.length * C.s := by
  induction l with
  | nil => simp
  | cons x l ih => rw [List.flatMap_cons, List.length_append, ih, C.len, List.length_cons, Nat.succ_mul]; omega
def Acc {α : Type} (C : Cel α) (T : TypeId) (w : World) (B : Nat) (a : Option Addr) (n c : Nat) (l : List α) : Prop := l.length = n ∧ w.ownsRow B T C.s (.slice a n c) n (l.flatMap C.f)
theorem Acc.nil {α : Type} (C : Cel α) (T : TypeId) (w : World) (B : Nat) : Acc C T w B none 0 0 [] := ⟨rfl, World.ownsRow_nil w B _ _⟩
theorem Acc.below {α : Type} {C : Cel α} {T : TypeId} {w w' : World} {B : Nat} {a : Option Addr} {n c : Nat} {l : List α} (h : Acc C T w B a n c l) (k : Below w.heap.size w w') : Acc C T w' B a n c l := ⟨h.1, own_below h.2 k⟩
theorem Acc.mono {α : Type} {C : Cel α} {T : TypeId} {w : World} {B B' : Nat} {a : Option Addr} {n c : Nat} {l : List α} (h : Acc C T w B a n c l) (k : B' ≤ B) : Acc C T w B' a n c l := ⟨h.1, own_mono h.2 k⟩
theorem Acc.new {α : Type} {C : Cel α} {T : TypeId} {w : World} {B : Nat} {a : Option Addr} {n c : Nat} {l : List α} (h : Acc C T w B a n c l) : ∀ z, a = some z → B ≤ z.block ∧ z.block < w.heap.size := by
  intro z hz
  subst hz
  exact World.ownsRow.lt h.2 z.block rfl
/-- A row of plain cells that is read. -/
def Rd {α : Type} [Inhabited α] (C : Cel α) (w : World) (a : Option Addr) (n c : Nat) (l : List α) : Prop := l.length = n ∧ n ≤ c ∧ c ≤ maxLen ∧ ∀ i, i < n → ∃ b off, a = some ⟨b, off, none⟩ ∧ ∀ j v, (C.f (nth l i))[j]? = some v → w.cell? ⟨b, off + i * C.s + j, none⟩ = some v
theorem Rd.below {α : Type} [Inhabited α] {C : Cel α} {w w' : World} {a : Option Addr} {n c : Nat} {l : List α} (h : Rd C w a n c l) (k : Below w.heap.size w w') : Rd C w' a n c l :=
  ⟨h.1, h.2.1, h.2.2.1, fun i hi => by obtain ⟨b, off, e, g⟩ := h.2.2.2 i hi; exact ⟨b, off, e, fun j v hj => cell_later k (g j v hj)⟩⟩
theorem Acc.rd {α : Type} [Inhabited α] {C : Cel α} {T : TypeId} {w : World} {B : Nat} {a : Option Addr} {n c : Nat} {l : List α} (hs : 0 < C.s) (h : Acc C T w B a n c l) : Rd C w a n c l := by
  refine ⟨h.1, (own_cap h.2).2.1, (own_cap h.2).2.2, fun i hi => ?_⟩
  have hr := Row.of_own h.2
  have hil : i < l.length := by rw [h.1]; exact hi
  have h0 : ∃ v0, (C.f (nth l i))[0]? = some v0 := ⟨_, List.getElem?_eq_getElem (by rw [C.len]; exact hs)⟩
  obtain ⟨v0, h0⟩ := h0
  obtain ⟨b, off, rfl, _⟩ := hr (i * C.s + 0) v0 (by rw [flat_at C l i 0 hil hs]; exact h0)
  refine ⟨b, off, rfl, fun j v hj => ?_⟩
  have hjs : j < C.s := by have := (List.getElem?_eq_some_iff.1 hj).1; rw [C.len] at this; exact this
  obtain ⟨b', off', e, g⟩ := hr (i * C.s + j) v (by rw [flat_at C l i j hil hjs]; exact hj)
  cases e
  rw [Nat.add_assoc]
  exact g
section
variable {α : Type} {w : World} {ops : Array Oper} {rest : List Oper} {o : Oper} {a : Act} {Q : Exit → Act → World → Prop}
/-- append of one element. -/
theorem app_cel (C : Cel α) (hgd : Region.wanted o (yielded ops a.tmps) = true) (s x : Operand) (t T : TypeId) (ho : o.op = .call { callee := .builtin .append, args := #[s, x], argTypes := #[t, t] })
    (ht : Tryz.prog.underlying t = some (.slice T)) {z : Value} {by_ : Nat} (hi : (Tryz.prog.info? T).map (fun i => (i.zero, i.size, i.bytes)) = some (some z, C.s, by_)) (hz : z.cells.size = C.s) (hs0 : 0 < C.s) (hby : by_ ≤ 100)
    (B : Nat) {aq : Option Addr} {n c : Nat} {l : List α} (hs : a.eval s = .slice aq n c) (hacc : Acc C T w B aq n c l)
    {k : Nat} {e : α} (hx : a.eval x = .slice (some ⟨k, 0, none⟩) 1 1) (hcell : ∀ j v, (C.f e)[j]? = some v → w.cell? ⟨k, j, none⟩ = some v) (hb : n ≤ 1000000000) (hB : B ≤ w.heap.size)
    (h : ∀ a' c' w', Acc C T w' B a' (n + 1) c' (l ++ [e]) → Below B w w' → Evol w aq w' a' → wpList Tryz.prog ops Q rest (a.put o.dst (.slice a' (n + 1) c')) w') : wpList Tryz.prog ops Q (o :: rest) a w := by
  obtain ⟨i, hi', h0, h1, h2⟩ := info_parts hi
  have hr : Row w (some ⟨k, 0, none⟩) (C.f e) := fun j v hj => ⟨k, 0, rfl, by rw [Nat.zero_add]; exact hcell j v hj⟩
  refine wpList_app_own hgd s x t ho B T i z C.s by_ ht hi' h0 h1 h2 hz hs0 aq n c (l.flatMap C.f) hs hacc.2 (some ⟨k, 0, none⟩) 1 1 (C.f e) hx hr (by rw [C.len]; omega) (C.one e) ?_ (by simp only [maxLen]; omega) hB ?_
  · have := Nat.mul_le_mul (show n + 1 ≤ 1000000001 by omega) hby
    omega
  intro a' c' w' g1 g2
  exact h a' c' w' ⟨by simp [hacc.1], by rw [List.flatMap_append]; simpa using g1⟩ (g2.below hB (fun x hx => by subst hx; exact (World.ownsRow.lt hacc.2 x.block rfl).1)) g2
end
/-- A block: its first key, where it begins, how long it is. -/
structure Bk where
  first : List UInt8
  pos : Nat
  len : Nat
instance : Inhabited Bk := ⟨⟨[], 0, 0⟩⟩
def celB : Cel Bk := ⟨fun b => [.string (bstr b.first), .int .i64 b.pos, .int .i64 b.len], 3, fun _ => rfl, fun x u hu => by
  simp only [List.mem_cons, List.not_mem_nil, or_false] at hu
  rcases hu with rfl | rfl | rfl <;> rfl⟩
def celR : Cel Bk := ⟨fun b => [.int .i64 b.pos, .int .i64 b.len, .string (bstr b.first)], 3, fun _ => rfl, fun x u hu => by
  simp only [List.mem_cons, List.not_mem_nil, or_false] at hu
  rcases hu with rfl | rfl | rfl <;> rfl⟩
theorem infoBk : (Tryz.prog.info? 93).map (fun i => (i.zero, i.size, i.bytes)) = some (some (.agg #[.string ByteArray.empty, .int .i64 0, .int .i64 0]), 3, 32) := by kernel_rfl
theorem infoBr : (Tryz.prog.info? 76).map (fun i => (i.zero, i.size, i.bytes)) = some (some (.agg #[.int .i64 0, .int .i64 0, .string ByteArray.empty]), 3, 32) := by kernel_rfl
/-! The index, plain. -/
def Sst.ix (b : Bk) : List UInt8 := Sst.lp b.first ++ Codec.enc b.pos ++ Codec.enc b.len
def Sst.index (l : List Bk) : List UInt8 := (l.map Sst.ix).flatten
theorem index_snoc (l : List Bk) {i : Nat} (hi : i < l.length) : Sst.index (l.take (i + 1)) = Sst.index (l.take i) ++ Sst.ix (nth l i) := by
  unfold Sst.index; rw [take_snoc l hi]; simp
/-- Blocks that are not too great. -/
def BkOk (l : List Bk) : Prop := ∀ b ∈ l, b.first.length ≤ 100000 ∧ b.pos ≤ 1000000000 ∧ b.len ≤ 1000000000
theorem BkOk.at {l : List Bk} (h : BkOk l) {i : Nat} (hi : i < l.length) : (nth l i).first.length ≤ 100000 ∧ (nth l i).pos ≤ 1000000000 ∧ (nth l i).len ≤ 1000000000 := by rw [nth_eq _ hi]; exact h _ (List.getElem_mem _)
theorem ix_len {b : Bk} (h : b.first.length ≤ 100000 ∧ b.pos ≤ 1000000000 ∧ b.len ≤ 1000000000) : (Sst.ix b).length ≤ 100030 := by
  have h1 := Codec.enc_len10 (v := b.first.length) (by omega)
  have h2 := Codec.enc_len10 (v := b.pos) (by omega)
  have h3 := Codec.enc_len10 (v := b.len) (by omega)
  unfold Sst.ix Sst.lp
  simp only [List.length_append]
  omega
theorem index_len {l : List Bk} (h : BkOk l) : ∀ i, i ≤ l.length → (Sst.index (l.take i)).length ≤ i * 100030
  | 0, _ => by simp [Sst.index]
  | i + 1, hi => by
    rw [index_snoc l (by omega), List.length_append]
    have h1 := index_len h i (by omega)
    have h2 := ix_len (h.at (i := i) (by omega))
    omega
end Go.Proofs.YtjigfinpbdglnaaGreatDoor
end

section
set_option maxRecDepth 100000
set_option linter.unusedVariables false
set_option linter.unusedSimpArgs false
namespace Go.Proofs.YtjigfinpbdglnaaGreatDoor
open Go.RowKit

set_option maxHeartbeats 1000000 in
theorem reight_any (B : Nat) (a : Option Addr) (n c : Nat) (l : List UInt8) (v : Nat) (w : World) (hB : B ≤ w.heap.size) (h : Own w B a n c l) (hn : n ≤ 1000000000) (hv : v ≤ 1000000000) :
    Calls Tryz.prog 71 #[.slice a n c, .int .i64 v] w (RetE w B a (l ++ Codec.low 8 v)) := by
  go_enter Tryz.func71, Tryz.ntmps71
  go_wp2_with fail
  go_loopw [0, 5] (fun s i wr => ∃ (a' : Option Addr) (c' m : Nat), m ≤ 8 ∧ i = .int .i64 m ∧ s = .slice a' (n + m) c' ∧ Hid (Own wr B a' (n + m) c' (l ++ Codec.low m v)) ∧ Hid (Below B w wr) ∧ Hid (Evol w a wr a')) (fun _ i _ => 8 - (intOf i).toNat)
  case atStart => exact ⟨a, c, 0, by omega, rfl, rfl, Lib.hid (by simpa [Codec.low] using h), Lib.hid (Below.refl _ _), Lib.hid (Evol.refl _ _)⟩
  case round =>
    obtain ⟨a', c', m, hm, rfl, rfl, HO, HB, HE⟩ := hrel
    have hbz := Nat.le_trans hB HB.out.size
    by_cases hlt : m < 8
    · have t1 : decide (m < 8) = true := decide_eq_true hlt
      have hbyte : (v : Int) / 2 ^ (8 * m) % 256 = n8 (UInt8.ofNat (v / 256 ^ m)) := by
        unfold n8
        rw [UInt8.toNat_ofNat', show (256 : Nat) ^ m = 2 ^ (8 * m) by rw [Nat.pow_mul]]
        simp
      have HQ : Hid (Bs (wr.alloc (.cells #[.int .u8 ((v : Int) / 2 ^ (8 * m) % 256)] 5)) (some ⟨wr.heap.size, 0, none⟩) 1 1 [UInt8.ofNat (v / 256 ^ m)]) := Lib.hid (by rw [hbyte]; exact Bs.one _ _)
      clear hbyte
      go_wp2_with (at_builtin; refine app_own rfl _ _ rfl B rfl (HO.out.alloc _) rfl HQ.out (by omega) (le_alloc hbz) ?_; intro a1 c1 w1 h1 h2 h3; have H1 := Lib.hid h1; have H2 := Lib.hid (HB.out.trans (((Below.refl _ _).alloc hbz _).trans h2)); have H3 := Lib.hid (HE.out.trans ((Evol.alloc _ _ _).trans h3)); clear h1 h2 h3)
      go_roundw
      case rel => exact ⟨a1, c1, m + 1, by omega, by go_num, rfl, by rw [low_snoc, ← List.append_assoc]; exact H1, H2, H3⟩
      case measure => simp [intOf]; omega
    · obtain rfl : m = 8 := by omega
      go_wp2
      go_ret
      exact ⟨_, _, _, rfl, HO.out, HB.out, HE.out⟩
/-- The cells of a block that is read. -/
theorem Rd.bk {w : World} {a : Option Addr} {n c : Nat} {l : List Bk} (h : Rd celB w a n c l) {i : Nat} (hi : i < n) : ∃ b off, a = some ⟨b, off, none⟩ ∧ w.cell? ⟨b, off + i * 3, none⟩ = some (.string (bstr (nth l i).first)) ∧ w.cell? ⟨b, off + i * 3 + 1, none⟩ = some (.int .i64 (nth l i).pos) ∧ w.cell? ⟨b, off + i * 3 + 2, none⟩ = some (.int .i64 (nth l i).len) := by
  obtain ⟨b, off, e, g⟩ := h.2.2.2 i hi
  exact ⟨b, off, e, g 0 _ rfl, g 1 _ rfl, g 2 _ rfl⟩
theorem Rd.br {w : World} {a : Option Addr} {n c : Nat} {l : List Bk} (h : Rd celR w a n c l) {i : Nat} (hi : i < n) : ∃ b off, a = some ⟨b, off, none⟩ ∧ w.cell? ⟨b, off + i * 3, none⟩ = some (.int .i64 (nth l i).pos) ∧ w.cell? ⟨b, off + i * 3 + 1, none⟩ = some (.int .i64 (nth l i).len) ∧ w.cell? ⟨b, off + i * 3 + 2, none⟩ = some (.string (bstr (nth l i).first)) := by
  obtain ⟨b, off, e, g⟩ := h.2.2.2 i hi
  exact ⟨b, off, e, g 0 _ rfl, g 1 _ rfl, g 2 _ rfl⟩
theorem Rd.le {α : Type} [Inhabited α] {C : Cel α} {w : World} {a : Option Addr} {n c : Nat} {l : List α} (h : Rd C w a n c l) : n ≤ 9223372036854775807 ∧ c ≤ 9223372036854775807 := by
  have := h.2.1; have := h.2.2.1; simp only [maxLen] at *; omega
set_option maxHeartbeats 4000000 in
theorem rindex_any (B : Nat) (a : Option Addr) (n c : Nat) (l : List Bk) (w : World) (hB : B ≤ w.heap.size) (h : Rd celR w a n c l) (hok : BkOk l) (hn : n ≤ 1000000) :
    Calls Tryz.prog 56 #[.slice a n c] w (RetB w w.heap.size (Sst.index l)) := by
  have hle := h.le.1
  have HN := Lib.hid h.1
  have HL := Lib.hid h
  have HOK := Lib.hid hok
  clear h hok
  go_enter Tryz.func56, Tryz.ntmps56
  go_wp2_with fail
  go_loopw [3, 4] (fun s i wr => ∃ (a' : Option Addr) (m c' k : Nat), k ≤ n ∧ m ≤ k * 100030 ∧ i = .int .i64 k ∧ s = .slice a' m c' ∧ Hid (Own wr w.heap.size a' m c' (Sst.index (l.take k))) ∧ Hid (Below w.heap.size w wr)) (fun _ i _ => n - (intOf i).toNat)
  case atStart => exact ⟨none, 0, 0, 0, by omega, by omega, rfl, rfl, Lib.hid (Own.nil _ _), Lib.hid (Below.refl _ _)⟩
  case round =>
    obtain ⟨a', m, c', k, hk, hm, rfl, rfl, HO, HB⟩ := hrel
    by_cases hlt : k < n
    case neg =>
      obtain rfl : n = k := by omega
      go_wp2
      go_ret
      have e1 : l.take n = l := by rw [← HN.out, List.take_length]
      exact ⟨_, _, _, rfl, by rw [← e1]; exact HO.out, HB.out⟩
    obtain ⟨b, off, rfl, g0, g1, g2⟩ := HL.out.br hlt
    have hsz := HOK.out.at (i := k) (by rw [HN.out]; exact hlt)
    have HSN := Lib.hid (index_snoc l (i := k) (by rw [HN.out]; exact hlt))
    have HIX := Lib.hid (ix_len hsz)
    have HGET := Lib.hid (fun W (hb : Below w.heap.size w W) => And.intro (cell_later hb g0) (And.intro (cell_later hb g1) (cell_later hb g2)))
    have hmb : m ≤ 100030000000 := by omega
    have HOL := Lib.hid (fun x (hx : a' = some x) => (HO.out.new x hx).2)
    have hbz : w.heap.size ≤ wr.heap.size := HB.out.size
    have htin : decide (k < n) = true := decide_eq_true hlt
    clear g0 g1 g2
    have HIE : Hid (Sst.ix (nth l k) = Sst.lp (nth l k).first ++ Codec.enc (nth l k).pos ++ Codec.enc (nth l k).len) := Lib.hid rfl
    generalize Sst.ix (nth l k) = ixk at *
    generalize nth l k = x at *
    obtain ⟨fk, pk, lk⟩ := x
    dsimp only at *
    obtain ⟨hs1, hs2, hs3⟩ := hsz
    have c2 := (HGET.out wr HB.out).2.2
    go_wp2_with fail
    clear c2
    have hS : Bs (strW wr fk) (some ⟨wr.heap.size, 0, none⟩) fk.length (strCap wr fk) fk := str_bs wr fk (by simp only [maxLen]; omega)
    have HB2 := Lib.hid (HB.out.trans ((str_below wr fk).mono hbz))
    have HO2 := Lib.hid (HO.out.below (str_below wr fk))
    generalize strW wr fk = w2 at *
    generalize strCap wr fk = sc at *
    refine (refbytes_e w.heap.size a' _ m c' fk.length sc _ fk w2 HB2.out.size HO2.out.app hS (fun _ y z hy hz => by cases hy; have := HOL.out z hz; simp only; omega) ⟨by omega⟩).mono ?_
    rintro en w3 ⟨a3, n3, k3, rfl, ho3, hb3, hev3⟩
    have HB3 := Lib.hid (HB2.out.trans hb3)
    have HO3 := Lib.hid ho3
    have hn3 : n3 ≤ m + 100010 := by
      have h1 := ho3.bs.1
      have h2 := Codec.enc_len10 (v := fk.length) (by omega)
      have h3 := HO.out.bs.1
      simp only [List.length_append] at h1
      omega
    clear hS ho3 hb3 hev3
    have c0 := (HGET.out w3 HB3.out).1
    go_wp2_with fail
    clear c0
    refine (refnumber_any w.heap.size a3 n3 k3 _ pk w3 HB3.out.size HO3.out.app ⟨by omega⟩ ⟨by omega⟩).mono ?_
    rintro en w4 ⟨a4, n4, k4, rfl, ho4, hb4, hev4⟩
    have HB4 := Lib.hid (HB3.out.trans hb4)
    have HO4 := Lib.hid ho4
    have hn4 : n4 ≤ m + 100020 := by
      have h1 := ho4.bs.1
      have h2 := Codec.enc_len10 (v := pk) (by omega)
      have h3 := HO3.out.bs.1
      simp only [List.length_append] at h1 h3
      omega
    clear ho4 hb4 hev4
    have c1 := (HGET.out w4 HB4.out).2.1
    go_wp2_with fail
    clear c1
    refine (refnumber_any w.heap.size a4 n4 k4 _ lk w4 HB4.out.size HO4.out.app ⟨by omega⟩ ⟨by omega⟩).mono ?_
    rintro en w5 ⟨a5, n5, k5, rfl, ho5, hb5, hev5⟩
    have HB5 := Lib.hid (HB4.out.trans hb5)
    have HO5 : Hid (Own w5 w.heap.size a5 n5 k5 (Sst.index (l.take (k + 1)))) := Lib.hid (by
      rw [HSN.out, HIE.out]
      unfold Sst.lp
      simpa [List.append_assoc] using ho5)
    have hn5 : n5 ≤ (k + 1) * 100030 := by
      have h1 := HO5.out.bs.1
      have h2 := index_len HOK.out (k + 1) (by rw [HN.out]; omega)
      omega
    clear ho5 hb5 hev5
    go_wp2
    go_roundw
    case rel => exact ⟨a5, n5, k5, k + 1, by omega, hn5, by go_num, rfl, HO5, HB5⟩
    case measure => simp [intOf]; omega
set_option maxHeartbeats 4000000 in
theorem sindex_any (a : Option Addr) (n c : Nat) (l : List Bk) (w : World) (h : Rd celB w a n c l) (hok : BkOk l) (hn : n ≤ 1000000) :
    Calls Tryz.prog 42 #[.slice a n c] w (RetB w w.heap.size (Sst.index l)) := by
  have hle := h.le.1
  have HN := Lib.hid h.1
  have HL := Lib.hid h
  have HOK := Lib.hid hok
  clear h hok
  go_enter Tryz.func42, Tryz.ntmps42
  go_wp2_with fail
  go_loopw [3, 8] (fun s i wr => ∃ (a' : Option Addr) (m c' k : Nat), k ≤ n ∧ m ≤ k * 100030 ∧ i = .int .i64 k ∧ s = .slice a' m c' ∧ Hid (Own wr w.heap.size a' m c' (Sst.index (l.take k))) ∧ Hid (Below w.heap.size w wr)) (fun _ i _ => n - (intOf i).toNat)
  case atStart => exact ⟨none, 0, 0, 0, by omega, by omega, rfl, rfl, Lib.hid (Own.nil _ _), Lib.hid (Below.refl _ _)⟩
  case round =>
    obtain ⟨a', m, c', k, hk, hm, rfl, rfl, HO, HB⟩ := hrel
    by_cases hlt : k < n
    case neg =>
      obtain rfl : n = k := by omega
      go_wp2
      go_ret
      have e1 : l.take n = l := by rw [← HN.out, List.take_length]
      exact ⟨_, _, _, rfl, by rw [← e1]; exact HO.out, HB.out⟩
    obtain ⟨b, off, rfl, g0, g1, g2⟩ := (HL.out.below HB.out).bk hlt
    have hsz := HOK.out.at (i := k) (by rw [HN.out]; exact hlt)
    have HSN := Lib.hid (index_snoc l (i := k) (by rw [HN.out]; exact hlt))
    have HIX := Lib.hid (ix_len hsz)
    have hmb : m ≤ 100030000000 := by omega
    have htin : decide (k < n) = true := decide_eq_true hlt
    have HIE : Hid (Sst.ix (nth l k) = Sst.lp (nth l k).first ++ Codec.enc (nth l k).pos ++ Codec.enc (nth l k).len) := Lib.hid rfl
    generalize Sst.ix (nth l k) = ixk at *
    generalize nth l k = x at *
    obtain ⟨fk, pk, lk⟩ := x
    dsimp only at *
    obtain ⟨hs1, hs2, hs3⟩ := hsz
    have hat := heap_alloc_new wr (.cells #[.string (bstr fk), .int .i64 pk, .int .i64 lk] 93)
    obtain ⟨w1, hw1⟩ : ∃ w1, wr.alloc (.cells #[.string (bstr fk), .int .i64 pk, .int .i64 lk] 93) = w1 := ⟨_, rfl⟩
    have hb1 : Below wr.heap.size wr w1 := by rw [← hw1]; exact below_alloc1 _ _
    rw [hw1] at hat
    have c0 : w1.cell? ⟨wr.heap.size, 0, none⟩ = some (.string (bstr fk)) := (cell_of_row _ _ 0 _ _ _ hat).trans rfl
    have c1 : w1.cell? ⟨wr.heap.size, 1, none⟩ = some (.int .i64 pk) := (cell_of_row _ _ 1 _ _ _ hat).trans rfl
    have c2 : w1.cell? ⟨wr.heap.size, 2, none⟩ = some (.int .i64 lk) := (cell_of_row _ _ 2 _ _ _ hat).trans rfl
    have HW1 := Lib.hid hw1
    have HB1 := Lib.hid (HB.out.trans (hb1.mono HB.out.size))
    have HO1 := Lib.hid (HO.out.below hb1)
    have hwp : IntKind.u64.wrap (pk : Int) = (pk : Int) := by rw [IntKind.wrap_u64]; omega
    have hwl : IntKind.u64.wrap (lk : Int) = (lk : Int) := by rw [IntKind.wrap_u64]; omega
    clear hat hw1 hb1
    go_upto_region 5 with fail
    rw [HW1.out]
    clear g0 g1 g2
    refine wp_region_order [] [0, 1, 2, 6, 7, 8, 10, 11, 12] [3, 4, 5, 9, 13] [14] 14 (by intro c a d v w h; cases d <;> exact h) (by kernel_rfl) (by kernel_rfl) (fun W' => ∃ V : BW w1, W' = V.w) ⟨⟨w1.drew, (Below.refl _ _).drew⟩, rfl⟩ ?_
    simp only [opsAt, List.filterMap_cons, List.filterMap_nil, List.getElem?_cons_zero, List.getElem?_cons_succ]
    refine held_nil ?_
    iterate 9
      apply held_step
      · rfl
      · rintro _ ⟨V, rfl⟩
        have m0 := BW.cell c0 V
        have m1 := BW.cell c1 V
        have m2 := BW.cell c2 V
        go_simp
        rfl
    refine held_nil ?_
    have HBC : Below w1.heap.size w1 w1.drew := (Below.refl _ _).drew
    generalize hwd : w1.drew = wD at *
    have hwds : wD.heap.size = w1.heap.size := by rw [← hwd]; rfl
    clear hwd
    refine walkS_step rfl (fun K hK => ?_)
    go_simp
    have hS : Bs (strW wD fk) (some ⟨w1.heap.size, 0, none⟩) fk.length (strCap wD fk) fk := by rw [← hwds]; exact str_bs wD fk (by simp only [maxLen]; omega)
    have HB2 : Below w1.heap.size w1 (strW wD fk) := HBC.trans ((str_below wD fk).mono (Nat.le_of_eq hwds.symm))
    refine hK _ _ ⟨⟨strW wD fk, HB2⟩, rfl⟩ ?_
    clear hK
    generalize strW wD fk = w2 at *
    generalize strCap wD fk = sc at *
    refine walkS_step rfl (fun K hK => ?_)
    go_simp
    have hSS := Bss.one hS
    have HB3 : Below w1.heap.size w1 (w2.alloc (.cells #[.slice (some ⟨w1.heap.size, 0, none⟩) fk.length sc] 22)) := HB2.alloc HB2.size _
    refine hK _ _ ⟨⟨_, HB3⟩, rfl⟩ ?_
    clear hK
    refine walkS_step rfl (fun K hK => ?_)
    go_simp
    refine (bytes_any a' _ m c' _ _ _ [fk] _ (HO1.out.bs.below HB3) hSS ⟨by simp [tot]; omega⟩).mono ?_
    rintro en w4 ⟨a4, n4, k4, rfl, ho4, hb4⟩
    rw [bytes_one] at ho4
    have HB4 := HB3.trans (hb4.mono HB3.size)
    refine hK _ _ ⟨⟨w4, HB4⟩, rfl⟩ ?_
    clear hK
    have hn4 : n4 ≤ m + 100010 := by
      have h1 := ho4.bs.1
      have h2 := Codec.enc_len10 (v := fk.length) (by omega)
      have h3 := HO.out.bs.1
      simp only [List.length_append] at h1
      omega
    refine walkS_step rfl (fun K hK => ?_)
    go_simp
    refine (number_any a4 n4 k4 _ pk _ ho4.bs ⟨by omega⟩ ⟨by omega⟩).mono ?_
    rintro en w5 ⟨a5, n5, k5, rfl, ho5, hb5⟩
    have HB5 := HB4.trans (hb5.mono HB4.size)
    refine hK _ _ ⟨⟨w5, HB5⟩, rfl⟩ ?_
    clear hK
    have hn5 : n5 ≤ m + 100020 := by
      have h1 := ho5.bs.1
      have h2 := Codec.enc_len10 (v := pk) (by omega)
      have h3 := ho4.bs.1
      simp only [List.length_append] at h1 h3
      omega
    refine walkS_step rfl (fun K hK => ?_)
    go_simp
    refine (number_any a5 n5 k5 _ lk _ ho5.bs ⟨by omega⟩ ⟨by omega⟩).mono ?_
    rintro en w6 ⟨a6, n6, k6, rfl, ho6, hb6⟩
    have HB6 := HB5.trans (hb6.mono HB5.size)
    refine hK _ _ ⟨⟨w6, HB6⟩, rfl⟩ ?_
    clear hK
    refine walkS_nil ?_
    have HO6 : Hid (Own w6 w.heap.size a6 n6 k6 (Sst.index (l.take (k + 1)))) := Lib.hid (by
      rw [HSN.out, HIE.out]
      unfold Sst.lp
      simpa [List.append_assoc] using ho6.mono (Nat.le_trans HB1.out.size HB5.size))
    have HB7 := Lib.hid (HB1.out.trans (HB6.mono HB1.out.size))
    have hn6 : n6 ≤ (k + 1) * 100030 := by
      have h1 := HO6.out.bs.1
      have h2 := index_len HOK.out (k + 1) (by rw [HN.out]; omega)
      omega
    clear ho4 hb4 ho5 hb5 ho6 hb6 HB2 HB3 HB4 HB5 HB6 HBC hS hSS c0 c1 c2 hwp hwl hn4 hn5
    go_wp2
    go_roundw
    case rel => exact ⟨a6, n6, k6, k + 1, by omega, hn6, by go_num, rfl, HO6, HB7⟩
    case measure => simp [intOf]; omega
end Go.Proofs.YtjigfinpbdglnaaGreatDoor
end

section
set_option maxRecDepth 100000
set_option linter.unusedVariables false
set_option linter.unusedSimpArgs false
namespace Go.Proofs.YtjigfinpbdglnaaGreatDoor
open Go.RowKit

/-- Only the row at a may be another one. -/
structure Oth (a : Option Addr) (w w' : World) : Prop where
  os : w'.os = w.os
  tape : w'.tape = w.tape
  output : w'.output = w.output
  size : w.heap.size ≤ w'.heap.size
  block : ∀ b, b < w.heap.size → (∀ x, a = some x → x.block ≠ b) → w'.heap[b]? = w.heap[b]?
theorem Oth.refl (a : Option Addr) (w : World) : Oth a w w := ⟨rfl, rfl, rfl, Nat.le_refl _, fun _ _ _ => rfl⟩
theorem Oth.of_below {a : Option Addr} {w w' : World} (h : Below w.heap.size w w') : Oth a w w' := ⟨h.os, h.tape, h.output, h.size, fun b hb _ => h.block b hb⟩
theorem Oth.trans {a : Option Addr} {w w1 w2 : World} (h : Oth a w w1) (k : Oth a w1 w2) : Oth a w w2 :=
  ⟨k.os.trans h.os, k.tape.trans h.tape, k.output.trans h.output, Nat.le_trans h.size k.size, fun b hb hn => (k.block b (Nat.lt_of_lt_of_le hb h.size) hn).trans (h.block b hb hn)⟩
theorem Oth.set {a : Option Addr} {w w1 : World} (h : Oth a w w1) {p x : Addr} (ha : a = some x) (hp : p.block = x.block) (v : Value) : Oth a w (w1.setCell p v) :=
  ⟨h.os, h.tape, h.output, by rw [World.size_setCell]; exact h.size, fun b hb hn => (Below.heap_setCell _ _ _ _ (by rw [hp]; exact fun e => hn x ha e.symm)).trans (h.block b hb hn)⟩
theorem Oth.below {a : Option Addr} {w w' : World} {n : Nat} (h : Oth a w w') (hn : n ≤ w.heap.size) (ha : ∀ x, a = some x → n ≤ x.block) : Below n w w' :=
  ⟨h.os, h.tape, h.output, h.size, fun b hb => h.block b (by omega) (fun x hx e => by have := ha x hx; omega)⟩
theorem Oth.evol {w w' : World} {a a' : Option Addr} (h : Evol w a w' a') : Oth a w w' :=
  ⟨h.1.os, h.1.tape, h.1.output, h.1.size, fun b hb hn => h.1.block b hb (fun e => by
    cases a with
    | none => cases e
    | some x => exact hn x rfl (by cases e; rfl))⟩
theorem Oth.grown {w w' : World} {g : Nat} (h : w.grownBy w' (some g)) : Oth (some ⟨g, 0, none⟩) w w' :=
  ⟨h.os, h.tape, h.output, h.size, fun b hb hn => h.block b hb (fun e => by cases e; exact hn _ rfl rfl)⟩
theorem heap_set {w : World} {bk j : Nat} {cs : Array Value} {t : TypeId} {v : Value} (h : w.heap[bk]? = some (.cells cs t (0, 0))) : (w.setCell ⟨bk, j, none⟩ v).heap[bk]? = some (.cells (cs.setIfInBounds j v) t (0, 0)) := by
  show (w.heap.modify bk _)[bk]? = _
  obtain ⟨hlt, hk⟩ := Array.getElem?_eq_some_iff.1 h
  rw [Array.getElem?_eq_getElem (by rw [Array.size_modify]; exact hlt), Array.getElem_modify_self, hk]
  rfl
theorem oth_setAt (w : World) (bk j : Nat) (v : Value) : Oth (some ⟨bk, 0, none⟩) w (w.setCell ⟨bk, j, none⟩ v) := (Oth.refl _ w).set (p := ⟨bk, j, none⟩) (x := ⟨bk, 0, none⟩) rfl rfl v
theorem set4 {w : World} {b : Nat} {t : TypeId} {x0 x1 x2 x3 : Value} (v0 v1 v2 v3 : Value) (h : w.heap[b]? = some (.cells #[x0, x1, x2, x3] t (0, 0))) :
    ((((w.setCell ⟨b, 0, none⟩ v0).setCell ⟨b, 1, none⟩ v1).setCell ⟨b, 2, none⟩ v2).setCell ⟨b, 3, none⟩ v3).heap[b]? = some (.cells #[v0, v1, v2, v3] t (0, 0)) ∧ Oth (some ⟨b, 0, none⟩) w ((((w.setCell ⟨b, 0, none⟩ v0).setCell ⟨b, 1, none⟩ v1).setCell ⟨b, 2, none⟩ v2).setCell ⟨b, 3, none⟩ v3) :=
  ⟨heap_set (heap_set (heap_set (heap_set h))), (((oth_setAt w b 0 v0).trans (oth_setAt _ b 1 v1)).trans (oth_setAt _ b 2 v2)).trans (oth_setAt _ b 3 v3)⟩
theorem cells4 {w : World} {b : Nat} {t : TypeId} {v0 v1 v2 v3 : Value} (h : w.heap[b]? = some (.cells #[v0, v1, v2, v3] t (0, 0))) :
    w.cell? ⟨b, 0, none⟩ = some v0 ∧ w.cell? ⟨b, 1, none⟩ = some v1 ∧ w.cell? ⟨b, 2, none⟩ = some v2 ∧ w.cell? ⟨b, 3, none⟩ = some v3 ∧ ∀ j, w.frozen? ⟨b, j, none⟩ = false :=
  ⟨(cell_of_row _ _ 0 _ _ _ h).trans rfl, (cell_of_row _ _ 1 _ _ _ h).trans rfl, (cell_of_row _ _ 2 _ _ _ h).trans rfl, (cell_of_row _ _ 3 _ _ _ h).trans rfl, fun j => by simp [World.frozen?, h]⟩
theorem arr_step {A : Array Value} {k j : Nat} {f : Nat → Nat} {v : Value} (h : ∀ j, j < k → A[j]? = some (.int .u64 (f j : Nat))) (hk : k < A.size) (hv : Value.int .u64 (f k : Nat) = v) (hj : j < k + 1) : (A.setIfInBounds k v)[j]? = some (.int .u64 (f j : Nat)) := by
  rw [Array.getElem?_setIfInBounds]
  split
  · rename_i e; subst e; first | rw [if_pos hk, hv] | rw [hv]
  · exact h j (by omega)
theorem arr4 {A : Array Value} {v0 v1 v2 v3 : Value} (h : A.size = 4) (h0 : A[0]? = some v0) (h1 : A[1]? = some v1) (h2 : A[2]? = some v2) (h3 : A[3]? = some v3) : A = #[v0, v1, v2, v3] := by
  apply Array.ext_getElem?
  intro i
  match i with
  | 0 => rw [h0]; rfl
  | 1 => rw [h1]; rfl
  | 2 => rw [h2]; rfl
  | 3 => rw [h3]; rfl
  | k + 4 => rw [Array.getElem?_eq_none (by omega), Array.getElem?_eq_none (by simp)]
def Sst.sa (s : List UInt8) : Nat := (Codec.sum s).toNat
def Sst.sb (s : List UInt8) : Nat := (Codec.sum (s ++ [1])).toNat
def Sst.spot (s : List UInt8) (m j : Nat) : Nat := (Sst.sa s + j * Sst.sb s) % m
theorem n32_toNat (x : UInt32) : n32 x = (x.toNat : Int) := rfl
theorem bss_two {w : World} {s : Nat} {a a' : Option Addr} {n c n' c' : Nat} {l l' : List UInt8} (hs : s = w.heap.size) (h : Bs w a n c l) (h' : Bs w a' n' c' l') : Bss (w.alloc (.cells #[.slice a n c, .slice a' n' c'] 22)) (some ⟨s, 0, none⟩) 2 2 [l, l'] := by
  subst hs
  have hh := heap_alloc_new w (.cells #[.slice a n c, .slice a' n' c'] 22)
  refine ⟨rfl, Nat.le_refl _, by simp [maxLen], fun i hi => ?_⟩
  obtain rfl | rfl : i = 0 ∨ i = 1 := by omega
  · exact ⟨w.heap.size, 0, a, n, c, rfl, (cell_of_row _ _ 0 _ _ _ hh).trans rfl, h.below (below_alloc1 _ _)⟩
  · exact ⟨w.heap.size, 0, a', n', c', rfl, (cell_of_row _ _ 1 _ _ _ hh).trans rfl, h'.below (below_alloc1 _ _)⟩
set_option maxHeartbeats 4000000 in
theorem places_any (s : List UInt8) (m : Nat) (w : World) (hm : 1 ≤ m) (hmb : m ≤ 1000000000) (hs : s.length ≤ 1000000000) :
    Calls Tryz.prog 36 #[.string (bstr s), .int .u64 m] w fun e w' => e = .returned (.agg #[.int .u64 (Sst.spot s m 0 : Nat), .int .u64 (Sst.spot s m 1 : Nat), .int .u64 (Sst.spot s m 2 : Nat), .int .u64 (Sst.spot s m 3 : Nat)]) ∧ Below w.heap.size w w' := by
  have hA := (Codec.sum s).toNat_lt
  have hB := (Codec.sum (s ++ [1])).toNat_lt
  have HSP : Hid (∀ j, Sst.spot s m j = ((Codec.sum s).toNat + j * (Codec.sum (s ++ [1])).toNat) % m) := Lib.hid (fun j => rfl)
  have HNA := Lib.hid (n32_toNat (Codec.sum s))
  have HNB := Lib.hid (n32_toNat (Codec.sum (s ++ [1])))
  go_enter Tryz.func36, Tryz.ntmps36
  go_upto_region 1 with fail
  have hr0 := heap_alloc_new w (.cells #[.int .u64 0, .int .u64 0, .int .u64 0, .int .u64 0] 82)
  obtain ⟨w0, hw0⟩ : ∃ w0, w.alloc (.cells #[.int .u64 0, .int .u64 0, .int .u64 0, .int .u64 0] 82) = w0 := ⟨_, rfl⟩
  have hb0 : Below w.heap.size w w0 := by rw [← hw0]; exact below_alloc1 _ _
  rw [hw0] at hr0 ⊢
  have HR0 := Lib.hid hr0
  have HB0 := Lib.hid hb0
  clear hr0 hb0 hw0
  go_wp2_with fail
  have hS : Bs (strW w0 s) (some ⟨w0.heap.size, 0, none⟩) s.length (strCap w0 s) s := str_bs w0 s (by simp only [maxLen]; omega)
  have hbs := str_below w0 s
  generalize strW w0 s = w1 at *
  generalize strCap w0 s = sc at *
  refine (sum_any _ 1 1 [s] _ (Bss.one hS)).mono ?_
  rintro e w2 ⟨rfl, hb2⟩
  rw [show ([s] : List (List UInt8)).flatten = s by simp, HNA.out]
  have HB2 : Hid (Below w0.heap.size w0 w2) := Lib.hid (hbs.trans ((below_alloc1 w1 _).trans (hb2.mono (le_alloc (Nat.le_refl _))) |>.mono hbs.size))
  clear hS hbs hb2
  generalize (Codec.sum s).toNat = A at *
  generalize hBN : (Codec.sum (s ++ [1])).toNat = Bn at *
  clear hBN
  go_wp2_with fail
  have hS : Bs (strW w2 s) (some ⟨w2.heap.size, 0, none⟩) s.length (strCap w2 s) s := str_bs w2 s (by simp only [maxLen]; omega)
  have hbs := str_below w2 s
  generalize strW w2 s = w3 at *
  generalize strCap w2 s = sc2 at *
  have h1 : Bs (w3.alloc (.cells #[.int .u8 1] 5)) (some ⟨w3.heap.size, 0, none⟩) 1 1 [1] := Bs.one w3 1
  have hS4 := hS.below (below_alloc1 w3 (.cells #[.int .u8 1] 5))
  have hb4 := hbs.trans ((below_alloc1 w3 (.cells #[.int .u8 1] 5)).mono hbs.size)
  refine (sum_any _ 2 2 [s, [1]] _ (bss_two (by first | rfl | simp) hS4 h1)).mono ?_
  rintro e w6 ⟨rfl, hb6⟩
  rw [show ([s, [1]] : List (List UInt8)).flatten = s ++ [1] by simp, HNB.out]
  have HB6 : Hid (Below w0.heap.size w0 w6) := Lib.hid (HB2.out.trans ((hb4.trans (((below_alloc1 _ _).trans (hb6.mono (le_alloc (Nat.le_refl _)))).mono hb4.size)).mono HB2.out.size))
  have hr6 := (HB6.out.block _ (Array.getElem?_eq_some_iff.1 HR0.out).1).trans HR0.out
  have HB6W := Lib.hid (HB0.out.trans (HB6.out.mono HB0.out.size))
  have HR6 := Lib.hid hr6
  clear hS hbs hb6 h1 hS4 hb4 hr6 HNA HNB HB2 HB6 HR0 HB0
  go_wp2_with fail
  go_loopw [19] (fun iv wr => ∃ (k : Nat) (Ar : Array Value), k ≤ 4 ∧ iv = .int .i64 k ∧ Hid (wr.heap[w.heap.size]? = some (.cells Ar 82 (0, 0)) ∧ Ar.size = 4 ∧ ∀ j, j < k → Ar[j]? = some (.int .u64 (Sst.spot s m j : Nat))) ∧ Hid (Below w.heap.size w wr)) (fun iv _ => 4 - (intOf iv).toNat)
  case atStart => exact ⟨0, _, Nat.zero_le _, rfl, Lib.hid ⟨HR6.out, rfl, fun j hj => by omega⟩, HB6W⟩
  case round =>
    obtain ⟨k, Ar, hk, rfl, HAR, HBR⟩ := hrel
    obtain ⟨g1, g2, g3⟩ := HAR.out
    by_cases hlt : k < 4
    · obtain ⟨v0, hv0⟩ : ∃ v, Ar[k]? = some v := ⟨_, Array.getElem?_eq_getElem (by omega)⟩
      have c1 : wr.cell? ⟨w.heap.size, k, none⟩ = some v0 := (cell_of_row _ _ k _ _ _ g1).trans hv0
      have c2 : wr.frozen? ⟨w.heap.size, k, none⟩ = false := by simp [World.frozen?, g1]
      obtain ⟨P, hP⟩ : ∃ P, P = k * Bn := ⟨_, rfl⟩
      have hPb : P ≤ 3 * 4294967296 := by
        have h1 : k * Bn ≤ 3 * Bn := Nat.mul_le_mul_right _ (by omega)
        omega
      have eP : (k : Int) * (Bn : Int) = (P : Int) := by rw [hP, Int.natCast_mul]
      obtain ⟨S, hS⟩ : ∃ S, S = (A + P) % m := ⟨_, rfl⟩
      have eS : ((A : Int) + (P : Int)) % (m : Int) = (S : Int) := by rw [hS, Int.natCast_emod, Int.natCast_add]
      have hm0 : ((m : Int) == 0) = false := by rw [beq_eq_false_iff_ne]; omega
      have HSK : Hid (Sst.spot s m k = S) := Lib.hid (by rw [HSP.out, hS, hP])
      have htk : decide (k < 4) = true := decide_eq_true hlt
      clear hP hS hv0 g1 g2 g3
      go_wp2
      go_roundw
      case rel => exact ⟨k + 1, Ar.setIfInBounds k (.int .u64 (S : Nat)), by omega, by go_num, Lib.hid ⟨heap_set HAR.out.1, by simp [HAR.out.2.1], fun j hj => arr_step HAR.out.2.2 (by rw [HAR.out.2.1]; omega) (by rw [HSK.out]) hj⟩, Lib.hid (HBR.out.setCell (p := ⟨w.heap.size, k, none⟩) (Nat.le_refl _) _)⟩
      case measure => simp [intOf]; omega
    · obtain rfl : k = 4 := by omega
      have e4 := arr4 g2 (g3 0 (by omega)) (g3 1 (by omega)) (g3 2 (by omega)) (g3 3 (by omega))
      subst e4
      have HG1 := Lib.hid g1
      obtain ⟨k0, k1, k2, k3, kf⟩ := cells4 g1
      clear g1 g2 g3
      generalize hs0 : Sst.spot s m 0 = s0 at *
      have HS0 := Lib.hid hs0
      clear hs0
      generalize hs1 : Sst.spot s m 1 = s1 at *
      have HS1 := Lib.hid hs1
      clear hs1
      generalize hs2 : Sst.spot s m 2 = s2 at *
      have HS2 := Lib.hid hs2
      clear hs2
      generalize hs3 : Sst.spot s m 3 = s3 at *
      have HS3 := Lib.hid hs3
      clear hs3
      go_wp2
      obtain ⟨hs, hoth⟩ := set4 (.int .u64 (s0 : Nat)) (.int .u64 (s1 : Nat)) (.int .u64 (s2 : Nat)) (.int .u64 (s3 : Nat)) HG1.out
      have hbb := HBR.out.trans (hoth.below HBR.out.size (fun x hx => by cases hx; exact Nat.le_refl _))
      generalize World.setCell _ _ _ = W9 at *
      obtain ⟨q0, q1, q2, q3, _⟩ := cells4 hs
      exact bodyPost_ret (v := .agg #[.int .u64 (s0 : Nat), .int .u64 (s1 : Nat), .int .u64 (s2 : Nat), .int .u64 (s3 : Nat)]) (by simp [results, Tryz.results36, go_sem, q0, q1, q2, q3]) rfl ⟨by rw [HS0.out, HS1.out, HS2.out, HS3.out], hbb⟩
end Go.Proofs.YtjigfinpbdglnaaGreatDoor
end
