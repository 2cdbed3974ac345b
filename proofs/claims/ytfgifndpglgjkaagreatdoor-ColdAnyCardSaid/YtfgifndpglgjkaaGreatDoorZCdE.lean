/- Cold stripes: a shard's file. -/
import Derived.Test.YtfgifndpglgjkaaGreatDoorZCdC
set_option linter.unusedVariables false
set_option linter.unusedSimpArgs false
set_option maxRecDepth 100000
set_option linter.unusedVariables false
set_option linter.unusedSimpArgs false
namespace Go.Proofs.YtfgifndpglgjkaaGreatDoor
open Go.RowKit

structure Cd.Full where
  bucket : List UInt8
  key : List UInt8
  version : Nat
  p : Cd.Ptr
  nodes : List Int
/-- Numbers that may be. -/
structure Cd.Full.Ok (q : Cd.Full) : Prop where
  v : U64 q.version
  s : U64 q.p.stripe
  k : Cd.I64 q.p.K
  m : Cd.I64 q.p.M
  z : Cd.I64 q.p.size
def Cd.pv (q : Cd.Full) (an : Option Addr) (nn cn : Nat) : Value := .agg #[.string (bstr q.bucket), .string (bstr q.key), .int .u64 q.version, .int .u64 q.p.stripe, .int .i64 q.p.K, .int .i64 q.p.M, .int .i64 q.p.size, .int .u32 (n32 q.p.sum), .slice an nn cn]
def Cd.pcells (q : Cd.Full) (an : Option Addr) (nn cn : Nat) : Array Value := #[.string (bstr q.bucket), .string (bstr q.key), .int .u64 q.version, .int .u64 q.p.stripe, .int .i64 q.p.K, .int .i64 q.p.M, .int .i64 q.p.size, .int .u32 (n32 q.p.sum), .slice an nn cn]
/-- A pointer in a box. -/
structure Cd.PAt (w : World) (b : Nat) (q : Cd.Full) (an : Option Addr) (nn cn : Nat) : Prop where
  c0 : w.cell? ⟨b, 0, none⟩ = some (.string (bstr q.bucket))
  c1 : w.cell? ⟨b, 1, none⟩ = some (.string (bstr q.key))
  c2 : w.cell? ⟨b, 2, none⟩ = some (.int .u64 q.version)
  c3 : w.cell? ⟨b, 3, none⟩ = some (.int .u64 q.p.stripe)
  c4 : w.cell? ⟨b, 4, none⟩ = some (.int .i64 q.p.K)
  c5 : w.cell? ⟨b, 5, none⟩ = some (.int .i64 q.p.M)
  c6 : w.cell? ⟨b, 6, none⟩ = some (.int .i64 q.p.size)
  c7 : w.cell? ⟨b, 7, none⟩ = some (.int .u32 (n32 q.p.sum))
  c8 : w.cell? ⟨b, 8, none⟩ = some (.slice an nn cn)
theorem Cd.PAt.below {w w' : World} {b : Nat} {q : Cd.Full} {an : Option Addr} {nn cn : Nat} (h : Cd.PAt w b q an nn cn) (k : Below w.heap.size w w') : Cd.PAt w' b q an nn cn :=
  ⟨cell_later k h.c0, cell_later k h.c1, cell_later k h.c2, cell_later k h.c3, cell_later k h.c4, cell_later k h.c5, cell_later k h.c6, cell_later k h.c7, cell_later k h.c8⟩
theorem Cd.PAt.new (w : World) (q : Cd.Full) (an : Option Addr) (nn cn : Nat) : Cd.PAt (w.alloc (.cells (Cd.pcells q an nn cn) 31)) w.heap.size q an nn cn := by
  have h := heap_alloc_new w (.cells (Cd.pcells q an nn cn) 31)
  exact ⟨(cell_of_row _ _ 0 _ _ _ h).trans rfl, (cell_of_row _ _ 1 _ _ _ h).trans rfl, (cell_of_row _ _ 2 _ _ _ h).trans rfl, (cell_of_row _ _ 3 _ _ _ h).trans rfl, (cell_of_row _ _ 4 _ _ _ h).trans rfl, (cell_of_row _ _ 5 _ _ _ h).trans rfl, (cell_of_row _ _ 6 _ _ _ h).trans rfl, (cell_of_row _ _ 7 _ _ _ h).trans rfl, (cell_of_row _ _ 8 _ _ _ h).trans rfl⟩
theorem Cd.PAt.belowAt {w w' : World} {b B : Nat} {q : Cd.Full} {an : Option Addr} {nn cn : Nat} (h : Cd.PAt w b q an nn cn) (k : Below B w w') (hb : b < B) : Cd.PAt w' b q an nn cn := by
  have e : ∀ j, w'.cell? ⟨b, j, none⟩ = w.cell? ⟨b, j, none⟩ := fun j => World.cell?_of_block (k.block b hb)
  exact ⟨(e 0).trans h.c0, (e 1).trans h.c1, (e 2).trans h.c2, (e 3).trans h.c3, (e 4).trans h.c4, (e 5).trans h.c5, (e 6).trans h.c6, (e 7).trans h.c7, (e 8).trans h.c8⟩
theorem u64_wrap (z : Int) : IntKind.u64.wrap z = ((Cd.u z : Nat) : Int) := by rw [IntKind.wrap_u64]; unfold Cd.u; omega
theorem u_u64 (z : Int) : U64 (Cd.u z) := ⟨by have := Cd.u_lt z; omega⟩
theorem four_n8 (c : UInt32) : (Codec.four c).map n8 = [n8 c.toUInt8, n8 (c >>> 8).toUInt8, n8 (c >>> 16).toUInt8, n8 (c >>> 24).toUInt8] := rfl
def Cd.fourV (c : UInt32) : Array Value := #[.int .u8 (n8 c.toUInt8), .int .u8 (n8 (c >>> 8).toUInt8), .int .u8 (n8 (c >>> 16).toUInt8), .int .u8 (n8 (c >>> 24).toUInt8)]
theorem cfour_any (c : UInt32) (w : World) : Calls Tryz.prog 35 #[.int .u32 (n32 c)] w fun e w' => e = .returned (.agg (Cd.fourV c)) ∧ Below w.heap.size w w' := by
  have hc := c.toNat_lt
  have e0 : IntKind.u8.wrap (n32 c) = n8 c.toUInt8 := by rw [IntKind.wrap_u8]; unfold n32 n8; rw [UInt32.toNat_toUInt8]; omega
  have q1 : n32 c / 256 = n32 (c >>> 8) := by unfold n32; rw [UInt32.toNat_shiftRight]; simp [Nat.shiftRight_eq_div_pow]
  have q2 : n32 c / 65536 = n32 (c >>> 16) := by unfold n32; rw [UInt32.toNat_shiftRight]; simp [Nat.shiftRight_eq_div_pow]
  have q3 : n32 c / 16777216 = n32 (c >>> 24) := by unfold n32; rw [UInt32.toNat_shiftRight]; simp [Nat.shiftRight_eq_div_pow]
  have q1' : n32 c / 2 ^ 8 = n32 (c >>> 8) := q1
  have q2' : n32 c / 2 ^ 16 = n32 (c >>> 16) := q2
  have q3' : n32 c / 2 ^ 24 = n32 (c >>> 24) := q3
  have e1 : ∀ x : UInt32, IntKind.u8.wrap (n32 x) = n8 x.toUInt8 := fun x => by rw [IntKind.wrap_u8]; unfold n32 n8; rw [UInt32.toNat_toUInt8]; omega
  have hb := below_alloc1 w (.cells #[.int .u8 0, .int .u8 0, .int .u8 0, .int .u8 0] 74)
  have HB := Lib.hid hb
  clear hb
  go_enter Tryz.func35, Tryz.ntmps35
  go_wp2
  have hr := heap_alloc_new w (.cells (Cd.fourV c) 74)
  have hb := below_alloc1 w (.cells (Cd.fourV c) 74)
  unfold Cd.fourV at hr hb
  generalize w.alloc (.cells #[.int .u8 (n8 c.toUInt8), .int .u8 (n8 (c >>> 8).toUInt8), .int .u8 (n8 (c >>> 16).toUInt8), .int .u8 (n8 (c >>> 24).toUInt8)] 74) = w1 at *
  have g0 := (cell_of_row _ _ 0 _ _ _ hr).trans rfl
  have g1 := (cell_of_row _ _ 1 _ _ _ hr).trans rfl
  have g2 := (cell_of_row _ _ 2 _ _ _ hr).trans rfl
  have g3 := (cell_of_row _ _ 3 _ _ _ hr).trans rfl
  exact bodyPost_ret (v := .agg (Cd.fourV c)) (by simp [results, Tryz.results35, go_sem, g0, g1, g2, g3, Cd.fourV]) rfl ⟨rfl, hb⟩
def Cd.nums (zs : List Int) : List UInt8 := zs.flatMap fun z => Codec.enc (Cd.u z)
theorem fourV_bs (w : World) (c : UInt32) : Bs (w.alloc (.cells (Cd.fourV c) 74)) (some ⟨w.heap.size, 0, none⟩) 4 4 (Codec.four c) := by
  refine ⟨rfl, Nat.le_refl _, by simp [maxLen], ?_⟩
  intro j v hv
  refine ⟨w.heap.size, 0, rfl, ?_⟩
  rw [cell_of_row _ _ _ (Cd.fourV c) _ _ (heap_alloc_new w _), Nat.zero_add]
  simpa [vs, Codec.four, Cd.fourV] using hv
theorem enc_le (v : Nat) (h : v < 18446744073709551616) : (Codec.enc v).length ≤ 10 := Codec.enc_len10 h
set_option maxHeartbeats 4000000 in
theorem file_any (q : Cd.Full) (an : Option Addr) (nn cn : Nat) (i : Int) (as_ : Option Addr) (ns cs : Nat) (s : List UInt8) (w : World) (hs : Bs w as_ ns cs s) (hq : q.Ok) (hi : Cd.I64 i) (hn : ns ≤ 100000000) :
    Calls Tryz.prog 13 #[Cd.pv q an nn cn, .int .i64 i, .slice as_ ns cs] w (RetB w w.heap.size (Cd.file q.p i s)) := by
  have hb0 := below_alloc1 w (.cells (Cd.pcells q an nn cn) 31)
  have hp0 := Cd.PAt.new w q an nn cn
  have HS : Hid (∀ W, Below w.heap.size w W → Bs W as_ ns cs s) := Lib.hid fun W k => hs.below k
  have HSN := Lib.hid hs.1
  have HQ := Lib.hid hq
  have HFI : Hid (Cd.file q.p i s = Codec.frame ((Codec.enc q.p.stripe ++ (Codec.enc (Cd.u i) ++ (Codec.enc (Cd.u q.p.K) ++ (Codec.enc (Cd.u q.p.M) ++ (Codec.enc (Cd.u q.p.size) ++ Codec.four q.p.sum))))) ++ (Codec.enc s.length ++ s))) := Lib.hid rfl
  have L0 := enc_le q.p.stripe hq.s.lt
  have L1 := enc_le (Cd.u i) (Cd.u_lt i)
  have L2 := enc_le (Cd.u q.p.K) (Cd.u_lt _)
  have L3 := enc_le (Cd.u q.p.M) (Cd.u_lt _)
  have L4 := enc_le (Cd.u q.p.size) (Cd.u_lt _)
  have U1 := u64_wrap i
  have U2 := u64_wrap q.p.K
  have U3 := u64_wrap q.p.M
  have U4 := u64_wrap q.p.size
  clear hs hq
  unfold Cd.pv
  go_enter Tryz.func13, Tryz.ntmps13
  go_upto_region 1 with fail
  unfold Cd.pcells at hb0 hp0
  generalize w.alloc (.cells #[.string (bstr q.bucket), .string (bstr q.key), .int .u64 q.version, .int .u64 q.p.stripe, .int .i64 q.p.K, .int .i64 q.p.M, .int .i64 q.p.size, .int .u32 (n32 q.p.sum), .slice an nn cn] 31) = w1 at *
  have HB1 := Lib.hid hb0
  have HP1 := Lib.hid hp0
  have c3 := hp0.c3
  clear hb0 hp0
  go_wp2_with fail
  refine (number_any none 0 0 [] q.p.stripe w1 (Bs.nil w1) HQ.out.s ⟨by omega⟩).mono ?_
  rintro e w2 ⟨a2, n2, k2, rfl, ho2, hb2⟩
  have HB2 := Lib.hid (HB1.out.trans (hb2.mono HB1.out.size))
  have HP2 := Lib.hid (HP1.out.below hb2)
  have HO2 := Lib.hid (ho2.mono HB1.out.size)
  have c4 := HP2.out.c4
  have c5 := HP2.out.c5
  have c6 := HP2.out.c6
  clear ho2 hb2 c3
  go_upto_region 3 with fail
  have hb3 := below_alloc1 w2 (.cells #[.int .i64 i, .int .i64 q.p.K, .int .i64 q.p.M, .int .i64 q.p.size] 3)
  have hr3 := heap_alloc_new w2 (.cells #[.int .i64 i, .int .i64 q.p.K, .int .i64 q.p.M, .int .i64 q.p.size] 3)
  generalize w2.alloc (.cells #[.int .i64 i, .int .i64 q.p.K, .int .i64 q.p.M, .int .i64 q.p.size] 3) = w3 at *
  have HB3 := Lib.hid (HB2.out.trans (hb3.mono HB2.out.size))
  have HP3 := Lib.hid (HP2.out.below hb3)
  have HO3 : Hid (Own w3 w.heap.size a2 n2 k2 (Codec.enc q.p.stripe)) := Lib.hid (HO2.out.below hb3)
  have HR3 : Hid (∀ W, Below w3.heap.size w3 W → W.cell? ⟨w2.heap.size, 0, none⟩ = some (.int .i64 i) ∧ W.cell? ⟨w2.heap.size, 1, none⟩ = some (.int .i64 q.p.K) ∧ W.cell? ⟨w2.heap.size, 2, none⟩ = some (.int .i64 q.p.M) ∧ W.cell? ⟨w2.heap.size, 3, none⟩ = some (.int .i64 q.p.size)) := Lib.hid fun W k =>
    ⟨cell_later k ((cell_of_row _ _ 0 _ _ _ hr3).trans rfl), cell_later k ((cell_of_row _ _ 1 _ _ _ hr3).trans rfl), cell_later k ((cell_of_row _ _ 2 _ _ _ hr3).trans rfl), cell_later k ((cell_of_row _ _ 3 _ _ _ hr3).trans rfl)⟩
  have HW3 : Hid (Below w3.heap.size w3 w3) := Lib.hid (Below.refl _ _)
  have hn2 : n2 ≤ 10 := by have := HO3.out.bs.1; omega
  clear hb3 hr3 c4 c5 c6 HO2 HP2 HB2
  refine wp_loop_rounds 5 ?_
  rw [rounds_succ]
  obtain ⟨r0, r1, r2, r3⟩ := HR3.out w3 HW3.out
  go_wp2_with fail
  refine (number_any a2 n2 k2 (Codec.enc q.p.stripe) (Cd.u (i)) w3 HO3.out.bs (u_u64 _) ⟨by omega⟩).mono ?_
  rintro e w4 ⟨a4, n4, k4, rfl, ho4, hb4⟩
  have HB4 := Lib.hid (HB3.out.trans (hb4.mono HB3.out.size))
  have HW4 := Lib.hid (HW3.out.trans (hb4.mono HW3.out.size))
  have HO4 := Lib.hid (ho4.mono HB3.out.size)
  have hn4 : n4 ≤ 20 := by
    have h1 := ho4.bs.1
    have h2 := HO3.out.bs.1
    rw [List.length_append] at h1
    omega
  clear ho4 hb4 r0 r1 r2 r3
  go_wp2_with fail
  rw [rounds_succ]
  obtain ⟨r0, r1, r2, r3⟩ := HR3.out w4 HW4.out
  go_wp2_with fail
  refine (number_any a4 n4 k4 ((Codec.enc q.p.stripe) ++ Codec.enc (Cd.u (i))) (Cd.u (q.p.K)) w4 HO4.out.bs (u_u64 _) ⟨by omega⟩).mono ?_
  rintro e w5 ⟨a5, n5, k5, rfl, ho5, hb5⟩
  have HB5 := Lib.hid (HB4.out.trans (hb5.mono HB4.out.size))
  have HW5 := Lib.hid (HW4.out.trans (hb5.mono HW4.out.size))
  have HO5 := Lib.hid (ho5.mono HB4.out.size)
  have hn5 : n5 ≤ 30 := by
    have h1 := ho5.bs.1
    have h2 := HO4.out.bs.1
    rw [List.length_append] at h1
    omega
  clear ho5 hb5 r0 r1 r2 r3
  go_wp2_with fail
  rw [rounds_succ]
  obtain ⟨r0, r1, r2, r3⟩ := HR3.out w5 HW5.out
  go_wp2_with fail
  refine (number_any a5 n5 k5 (((Codec.enc q.p.stripe) ++ Codec.enc (Cd.u (i))) ++ Codec.enc (Cd.u (q.p.K))) (Cd.u (q.p.M)) w5 HO5.out.bs (u_u64 _) ⟨by omega⟩).mono ?_
  rintro e w6 ⟨a6, n6, k6, rfl, ho6, hb6⟩
  have HB6 := Lib.hid (HB5.out.trans (hb6.mono HB5.out.size))
  have HW6 := Lib.hid (HW5.out.trans (hb6.mono HW5.out.size))
  have HO6 := Lib.hid (ho6.mono HB5.out.size)
  have hn6 : n6 ≤ 40 := by
    have h1 := ho6.bs.1
    have h2 := HO5.out.bs.1
    rw [List.length_append] at h1
    omega
  clear ho6 hb6 r0 r1 r2 r3
  go_wp2_with fail
  rw [rounds_succ]
  obtain ⟨r0, r1, r2, r3⟩ := HR3.out w6 HW6.out
  go_wp2_with fail
  refine (number_any a6 n6 k6 ((((Codec.enc q.p.stripe) ++ Codec.enc (Cd.u (i))) ++ Codec.enc (Cd.u (q.p.K))) ++ Codec.enc (Cd.u (q.p.M))) (Cd.u (q.p.size)) w6 HO6.out.bs (u_u64 _) ⟨by omega⟩).mono ?_
  rintro e w7 ⟨a7, n7, k7, rfl, ho7, hb7⟩
  have HB7 := Lib.hid (HB6.out.trans (hb7.mono HB6.out.size))
  have HW7 := Lib.hid (HW6.out.trans (hb7.mono HW6.out.size))
  have HO7 := Lib.hid (ho7.mono HB6.out.size)
  have hn7 : n7 ≤ 50 := by
    have h1 := ho7.bs.1
    have h2 := HO6.out.bs.1
    rw [List.length_append] at h1
    omega
  clear ho7 hb7 r0 r1 r2 r3
  go_wp2_with fail
  rw [rounds_succ]
  go_upto_region 7 with fail
  have HP7 := Lib.hid (HP3.out.below HW7.out)
  have c7 := HP7.out.c7
  go_wp2_with fail
  refine (cfour_any q.p.sum w7).mono ?_
  rintro e w8 ⟨rfl, hb8⟩
  dsimp only [Cd.fourV]
  go_upto_region 8 with fail
  have hF := fourV_bs w8 q.p.sum
  have hb9 := hb8.trans ((below_alloc1 w8 (.cells (Cd.fourV q.p.sum) 74)).mono hb8.size)
  unfold Cd.fourV at hF hb9
  generalize w8.alloc (.cells #[.int .u8 (n8 q.p.sum.toUInt8), .int .u8 (n8 (q.p.sum >>> 8).toUInt8), .int .u8 (n8 (q.p.sum >>> 16).toUInt8), .int .u8 (n8 (q.p.sum >>> 24).toUInt8)] 74) = w9 at *
  generalize w8.heap.size = g8 at *
  have HB9 := Lib.hid (HB7.out.trans (hb9.mono HB7.out.size))
  have HO9 := Lib.hid (HO7.out.below hb9)
  have HF9 := Lib.hid hF
  clear hb8 hb9 hF c7
  go_wp2_with (at_builtin; refine app_own rfl _ _ rfl w.heap.size rfl HO9.out rfl HF9.out (by omega) HB9.out.size ?_; intro a10 k10 w10 h10 hb10 _)
  have HB10 := Lib.hid (HB9.out.trans hb10)
  have hb11 := below_alloc1 w10 (.cells #[.slice as_ ns cs] 25)
  have HBS := Lib.hid (Bss.one (HS.out w10 HB10.out))
  have HO11 := Lib.hid (h10.below hb11)
  have HB11 := Lib.hid (HB10.out.trans (hb11.mono HB10.out.size))
  have hln := HSN.out
  have htot : tot [s] = s.length := by simp [tot]
  clear h10 hb10 hb11
  generalize w10.alloc (.cells #[.slice as_ ns cs] 25) = w11 at *
  refine (bytes_any a10 (some ⟨w10.heap.size, 0, none⟩) (n7 + 4) k10 1 1 _ [s] w11 HO11.out.bs HBS.out ⟨by rw [htot]; omega⟩).mono ?_
  rintro e w12 ⟨a12, n12, k12, rfl, ho12, hb12⟩
  have HB12 := Lib.hid (HB11.out.trans (hb12.mono HB11.out.size))
  have HO12 := Lib.hid ho12
  have hn12 : n12 ≤ ns + 100 := by
    have h1 := ho12.bs.1
    have h2 := HO11.out.bs.1
    have h3 := enc_le s.length (by omega)
    simp only [Codec.bytes, List.flatten_cons, List.flatten_nil, List.append_nil, List.length_append] at h1 h2
    omega
  clear ho12 hb12
  go_wp2_with fail
  refine (frame_any a12 n12 k12 _ w12 HO12.out.bs ⟨by omega⟩).mono ?_
  rintro e w13 ⟨a13, n13, k13, rfl, ho13, hb13⟩
  have HB13 := Lib.hid (HB12.out.trans (hb13.mono HB12.out.size))
  have HO13 := Lib.hid (ho13.mono HB12.out.size)
  clear ho13 hb13
  go_wp2
  go_ret
  refine ⟨a13, n13, k13, rfl, ?_, HB13.out⟩
  have h := HO13.out
  simp only [Codec.bytes, List.flatten_cons, List.flatten_nil, List.append_nil, List.append_assoc] at h
  rw [HFI.out]
  simpa only [List.append_assoc] using h
set_option maxHeartbeats 4000000 in
theorem rfile_any (q : Cd.Full) (an : Option Addr) (nn cn : Nat) (i : Int) (as_ : Option Addr) (ns cs : Nat) (s : List UInt8) (w : World) (hs : Bs w as_ ns cs s) (hq : q.Ok) (hi : Cd.I64 i) (hn : ns ≤ 100000000) :
    Calls Tryz.prog 14 #[Cd.pv q an nn cn, .int .i64 i, .slice as_ ns cs] w (RetB w w.heap.size (Cd.file q.p i s)) := by
  have hb0 := below_alloc1 w (.cells (Cd.pcells q an nn cn) 31)
  have hp0 := Cd.PAt.new w q an nn cn
  have HS : Hid (∀ W, Below w.heap.size w W → Bs W as_ ns cs s) := Lib.hid fun W k => hs.below k
  have HSN := Lib.hid hs.1
  have HSR : Hid (0 < ns → ∀ y, as_ = some y → y.block < w.heap.size) := Lib.hid fun h0 y hy => by
    obtain ⟨b, off, e, hc⟩ := hs.2.2.2.byte (i := 0) (by rw [hs.1]; exact h0)
    rw [hy] at e
    cases e
    exact World.block_lt_of_cell? _ _ hc
  have HQ := Lib.hid hq
  have HFI : Hid (Cd.file q.p i s = Codec.frame ((Codec.enc q.p.stripe ++ (Codec.enc (Cd.u i) ++ (Codec.enc (Cd.u q.p.K) ++ (Codec.enc (Cd.u q.p.M) ++ (Codec.enc (Cd.u q.p.size) ++ Codec.four q.p.sum))))) ++ (Codec.enc s.length ++ s))) := Lib.hid rfl
  have L0 := enc_le q.p.stripe hq.s.lt
  have L1 := enc_le (Cd.u i) (Cd.u_lt i)
  have L2 := enc_le (Cd.u q.p.K) (Cd.u_lt _)
  have L3 := enc_le (Cd.u q.p.M) (Cd.u_lt _)
  have L4 := enc_le (Cd.u q.p.size) (Cd.u_lt _)
  have U1 := u64_wrap i
  have U2 := u64_wrap q.p.K
  have U3 := u64_wrap q.p.M
  have U4 := u64_wrap q.p.size
  clear hs hq
  unfold Cd.pv
  go_enter Tryz.func14, Tryz.ntmps14
  go_upto_region 1 with fail
  unfold Cd.pcells at hb0 hp0
  generalize w.alloc (.cells #[.string (bstr q.bucket), .string (bstr q.key), .int .u64 q.version, .int .u64 q.p.stripe, .int .i64 q.p.K, .int .i64 q.p.M, .int .i64 q.p.size, .int .u32 (n32 q.p.sum), .slice an nn cn] 31) = w1 at *
  have HBW := Lib.hid hb0
  have HB1 : Hid (Below w1.heap.size w1 w1) := Lib.hid (Below.refl _ _)
  have HP1 := Lib.hid hp0
  have c3 := hp0.c3
  clear hb0 hp0
  go_wp2_with fail
  refine (refnumber_any w1.heap.size none 0 0 [] q.p.stripe w1 (Nat.le_refl _) (Own.nil _ _).app HQ.out.s ⟨by omega⟩).mono ?_
  rintro e w2 ⟨a2, n2, k2, rfl, ho2, hb2, _⟩
  have HB2 := Lib.hid (HB1.out.trans hb2)
  have HP2 := Lib.hid (HP1.out.below HB2.out)
  have HO2 := Lib.hid ho2
  have hn2 : n2 ≤ 10 := by
    have h1 := ho2.bs.1
    simp only [List.length_append, List.length_nil] at h1
    omega
  clear ho2 hb2
  have c4 := HP2.out.c4
  have c5 := HP2.out.c5
  have c6 := HP2.out.c6
  have c7 := HP2.out.c7
  clear c7
  clear c4 c5 c6
  go_wp2_with fail
  refine (refnumber_any w1.heap.size a2 n2 k2 _ (Cd.u (i)) w2 HB2.out.size HO2.out.app (u_u64 _) ⟨by omega⟩).mono ?_
  rintro e w3 ⟨a3, n3, k3, rfl, ho3, hb3, _⟩
  have HB3 := Lib.hid (HB2.out.trans hb3)
  have HP3 := Lib.hid (HP1.out.below HB3.out)
  have HO3 := Lib.hid ho3
  have hn3 : n3 ≤ 20 := by
    have h1 := ho3.bs.1
    have h2 := HO2.out.bs.1
    simp only [List.length_append, List.length_nil] at h2
    simp only [List.length_append, List.length_nil] at h1
    omega
  clear ho3 hb3
  have c4 := HP3.out.c4
  have c5 := HP3.out.c5
  have c6 := HP3.out.c6
  have c7 := HP3.out.c7
  clear c7
  clear c5 c6
  go_wp2_with fail
  refine (refnumber_any w1.heap.size a3 n3 k3 _ (Cd.u (q.p.K)) w3 HB3.out.size HO3.out.app (u_u64 _) ⟨by omega⟩).mono ?_
  rintro e w4 ⟨a4, n4, k4, rfl, ho4, hb4, _⟩
  have HB4 := Lib.hid (HB3.out.trans hb4)
  have HP4 := Lib.hid (HP1.out.below HB4.out)
  have HO4 := Lib.hid ho4
  have hn4 : n4 ≤ 30 := by
    have h1 := ho4.bs.1
    have h2 := HO3.out.bs.1
    simp only [List.length_append, List.length_nil] at h2
    simp only [List.length_append, List.length_nil] at h1
    omega
  clear ho4 hb4
  have c4 := HP4.out.c4
  have c5 := HP4.out.c5
  have c6 := HP4.out.c6
  have c7 := HP4.out.c7
  clear c7
  clear c4 c6
  go_wp2_with fail
  refine (refnumber_any w1.heap.size a4 n4 k4 _ (Cd.u (q.p.M)) w4 HB4.out.size HO4.out.app (u_u64 _) ⟨by omega⟩).mono ?_
  rintro e w5 ⟨a5, n5, k5, rfl, ho5, hb5, _⟩
  have HB5 := Lib.hid (HB4.out.trans hb5)
  have HP5 := Lib.hid (HP1.out.below HB5.out)
  have HO5 := Lib.hid ho5
  have hn5 : n5 ≤ 40 := by
    have h1 := ho5.bs.1
    have h2 := HO4.out.bs.1
    simp only [List.length_append, List.length_nil] at h2
    simp only [List.length_append, List.length_nil] at h1
    omega
  clear ho5 hb5
  have c4 := HP5.out.c4
  have c5 := HP5.out.c5
  have c6 := HP5.out.c6
  have c7 := HP5.out.c7
  clear c7
  clear c4 c5
  go_wp2_with fail
  refine (refnumber_any w1.heap.size a5 n5 k5 _ (Cd.u (q.p.size)) w5 HB5.out.size HO5.out.app (u_u64 _) ⟨by omega⟩).mono ?_
  rintro e w6 ⟨a6, n6, k6, rfl, ho6, hb6, _⟩
  have HB6 := Lib.hid (HB5.out.trans hb6)
  have HP6 := Lib.hid (HP1.out.below HB6.out)
  have HO6 := Lib.hid ho6
  have hn6 : n6 ≤ 50 := by
    have h1 := ho6.bs.1
    have h2 := HO5.out.bs.1
    simp only [List.length_append, List.length_nil] at h2
    simp only [List.length_append, List.length_nil] at h1
    omega
  clear ho6 hb6
  have c4 := HP6.out.c4
  have c5 := HP6.out.c5
  have c6 := HP6.out.c6
  have c7 := HP6.out.c7
  clear c4 c5 c6
  go_wp2_with fail
  refine (four_any w1.heap.size a6 n6 k6 _ q.p.sum w6 HB6.out.size HO6.out (by omega)).mono ?_
  rintro e w7 ⟨a7, n7, k7, rfl, ho7, hb7, _⟩
  have HB7 := Lib.hid (HB6.out.trans hb7)
  have HO7 := Lib.hid ho7
  have hn7 : n7 ≤ 60 := by
    have h1 := ho7.bs.1
    have h2 := HO6.out.bs.1
    have h4 : (Codec.four q.p.sum).length = 4 := rfl
    simp only [List.length_append, List.length_nil] at h1 h2
    omega
  clear ho7 hb7 c7
  go_wp2_with fail
  refine (refbytes_any w1.heap.size a7 as_ n7 k7 ns cs _ s w7 HB7.out.size HO7.out.app (HS.out w7 (HBW.out.trans (HB7.out.mono HBW.out.size))) (fun h0 y z hy hz e => by have h1 := HSR.out h0 y hy; have h2 := (HO7.out.new z hz).1; have h3 := HBW.out.size; omega) ⟨by omega⟩).mono ?_
  rintro e w8 ⟨a8, n8, k8, rfl, ho8, hb8⟩
  have HB8 := Lib.hid (HB7.out.trans hb8)
  have HO8 := Lib.hid ho8
  have hn8 : n8 ≤ ns + 100 := by
    have h1 := ho8.bs.1
    have h2 := HO7.out.bs.1
    have h3 := enc_le ns (by omega)
    have h5 := HSN.out
    simp only [List.length_append, List.length_nil] at h1 h2
    omega
  clear ho8 hb8
  go_wp2_with fail
  refine (refframe_any w1.heap.size none a8 0 0 n8 k8 [] _ w8 HB8.out.size (Own.nil _ _).app HO8.out.bs (fun _ y z _ hz => by cases hz) ⟨by omega⟩).mono ?_
  rintro e w9 ⟨a9, n9, k9, rfl, ho9, hb9⟩
  have HB9 := Lib.hid (HB8.out.trans hb9)
  have HO9 := Lib.hid ho9
  have HSE : Hid (Codec.enc ns = Codec.enc s.length) := Lib.hid (by rw [HSN.out])
  clear ho9 hb9
  go_wp2
  go_ret
  refine ⟨a9, n9, k9, rfl, ?_, HBW.out.trans (HB9.out.mono HBW.out.size)⟩
  have h := HO9.out.mono HBW.out.size
  rw [HSE.out] at h
  simp only [List.append_assoc, List.nil_append] at h
  rw [HFI.out]
  simpa only [List.append_assoc] using h
end Go.Proofs.YtfgifndpglgjkaaGreatDoor
