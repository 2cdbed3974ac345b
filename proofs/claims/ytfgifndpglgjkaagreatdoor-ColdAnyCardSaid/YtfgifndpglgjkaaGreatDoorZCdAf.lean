/- Cold stripes: ColdAny, walked. -/
import Derived.Test.YtfgifndpglgjkaaGreatDoorZCdAd
import Derived.StillTailTactics
set_option linter.unusedVariables false
set_option linter.unusedSimpArgs false
set_option maxRecDepth 100000
set_option linter.unusedVariables false
set_option linter.unusedSimpArgs false
namespace Go.Proofs.YtfgifndpglgjkaaGreatDoor
open Go.RowKit Go.Deep

theorem bit_xor (y : UInt8) (r : Nat) : bits .xor .u8 (n8 y) ((2 : Int) ^ r % 256) = n8 (y ^^^ UInt8.ofNat (2 ^ r)) := by
  have e : (2 : Int) ^ r % 256 = n8 (UInt8.ofNat (2 ^ r)) := by
    unfold n8
    rw [UInt8.toNat_ofNat']
    simp
  rw [e, xor8]
theorem own_lit0 (w : World) : Own (w.alloc (.cells #[] 5)) w.heap.size (some ⟨w.heap.size, 0, none⟩) 0 0 [] :=
  ⟨rfl, .inr ⟨w.heap.size, 0, #[], rfl, Nat.le_refl _, heap_alloc_new w _, Nat.le_refl _, by simp [maxLen], rfl, rfl⟩⟩
theorem own_belowAt {w w' : World} {N B e s n c g : Nat} {cs : List Value} (h : w.ownsRow B e s (.slice (some ⟨g, 0, none⟩) n c) n cs) (hb : Below N w w') (hg : g < N) : w'.ownsRow B e s (.slice (some ⟨g, 0, none⟩) n c) n cs := by
  refine ⟨h.1, ?_⟩
  rcases h.2 with ⟨h1, _⟩ | ⟨g', cap, cur, h1, h2, h3, h4⟩
  · cases h1
  · cases h1
    exact .inr ⟨g, c, cur, rfl, h2, (hb.block g hg).trans h3, h4⟩
theorem FRow.belowAt {w w' : World} {N B n c g : Nat} {bl : Nat → Nat} {fs : List (List UInt8)} (h : FRow w B (some ⟨g, 0, none⟩) n c bl fs) (hb : Below N w w') (hg : g < N) (hN : ∀ i, i < n → bl i < N) (hs : w.heap.size ≤ w'.heap.size) : FRow w' B (some ⟨g, 0, none⟩) n c bl fs := by
  obtain ⟨cs, h1, h2⟩ := h.row
  refine ⟨h.len, ⟨cs, own_belowAt h1 hb hg, fun i hi => ?_⟩, h.lo, fun i hi => Nat.lt_of_lt_of_le (h.hi i hi) hs, h.apart⟩
  rcases h2 i hi with ⟨cf, g1, g2⟩ | g
  · exact .inl ⟨cf, g1, own_belowAt g2 hb (hN i hi)⟩
  · exact .inr g
/-- Where the play stands: files, which are bad. -/
structure Cd.St (q : Cd.Full) (K M : Nat) (d : List UInt8) (w0 wr : World) (gF cF gG n : Nat) (bl : Nat → Nat) (fs : List (List UInt8)) (G : List Nat) : Prop where
  row : FRow wr w0.heap.size (some ⟨gF, 0, none⟩) n cF bl fs
  gone : rowTo wr gG 4 n (fun j => .bool (decide (j ∈ G)))
  files : Cd.Files q K M d G fs
  nd : G.Nodup
  few : ∀ g ∈ G, g < n
  below : Below w0.heap.size w0 wr
  lowF : w0.heap.size ≤ gF
  gF : gF < gG
  gB : ∀ i, i < n → bl i < gG
  short : ∀ i, i < n → (nth fs i).length ≤ 3000
theorem Cd.St.low {q : Cd.Full} {K M : Nat} {d : List UInt8} {w0 wr : World} {gF cF gG n : Nat} {bl : Nat → Nat} {fs : List (List UInt8)} {G : List Nat} (h : Cd.St q K M d w0 wr gF cF gG n bl fs G) : w0.heap.size ≤ gG := Nat.le_trans h.lowF (Nat.le_of_lt h.gF)
/-- One more is marked. -/
structure Cd.Mk (q : Cd.Full) (K M : Nat) (d : List UInt8) (w0 wr : World) (gF cF gG n : Nat) (bl : Nat → Nat) (fs : List (List UInt8)) (G : List Nat) (x : Nat) : Prop where
  row : FRow wr w0.heap.size (some ⟨gF, 0, none⟩) n cF bl fs
  gone : rowTo wr gG 4 n (fun j => .bool (decide (j ∈ G ++ [x])))
  files : Cd.Files q K M d G fs
  nd : G.Nodup
  few : ∀ g ∈ G, g < n
  below : Below w0.heap.size w0 wr
  lowF : w0.heap.size ≤ gF
  gF : gF < gG
  gB : ∀ i, i < n → bl i < gG
  short : ∀ i, i < n → (nth fs i).length ≤ 3000
  hx : x < n
  hg : x ∉ G
theorem Cd.St.mark {q : Cd.Full} {K M : Nat} {d : List UInt8} {w0 wr : World} {gF cF gG n : Nat} {bl : Nat → Nat} {fs : List (List UInt8)} {G : List Nat} (h : Cd.St q K M d w0 wr gF cF gG n bl fs G) {x : Nat} (hx : x < n) (hg : x ∉ G) : Cd.Mk q K M d w0 (wr.setCell ⟨gG, x, none⟩ (.bool true)) gF cF gG n bl fs G x := by
  have hb : Below gG wr (wr.setCell ⟨gG, x, none⟩ (.bool true)) := (Below.refl gG wr).setCell (p := ⟨gG, x, none⟩) (Nat.le_refl _) _
  refine ⟨h.row.belowAt hb h.gF h.gB (by rw [World.size_setCell]; exact Nat.le_refl _), (h.gone.set x (.bool true)).congr fun j hj => ?_, h.files, h.nd, h.few, h.below.trans (hb.mono h.low), h.lowF, h.gF, h.gB, h.short, hx, hg⟩
  by_cases e : j = x
  · rw [if_pos e, decide_eq_true (by rw [e]; simp)]
  · rw [if_neg e]
    congr 1
    rw [decide_eq_decide]
    simp [e]
section
variable {q : Cd.Full} {K M : Nat} {d : List UInt8} {w0 wr : World} {gF cF gG n : Nat} {bl : Nat → Nat} {fs : List (List UInt8)} {G : List Nat} {x : Nat}
theorem Cd.Mk.later {w' : World} (h : Cd.Mk q K M d w0 wr gF cF gG n bl fs G x) (hb : Below wr.heap.size wr w') : Cd.Mk q K M d w0 w' gF cF gG n bl fs G x :=
  ⟨h.row.below hb, h.gone.below hb, h.files, h.nd, h.few, h.below.trans (hb.mono h.below.size), h.lowF, h.gF, h.gB, h.short, h.hx, h.hg⟩
theorem Cd.St.later {w' : World} (h : Cd.St q K M d w0 wr gF cF gG n bl fs G) (hb : Below wr.heap.size wr w') : Cd.St q K M d w0 w' gF cF gG n bl fs G :=
  ⟨h.row.below hb, h.gone.below hb, h.files, h.nd, h.few, h.below.trans (hb.mono h.below.size), h.lowF, h.gF, h.gB, h.short⟩
theorem Cd.Mk.few' (h : Cd.Mk q K M d w0 wr gF cF gG n bl fs G x) : ∀ g ∈ G ++ [x], g < n := fun g hm => by
  rcases List.mem_append.1 hm with h9 | h9
  · exact h.few g h9
  · rw [List.mem_singleton.1 h9]; exact h.hx
theorem Cd.Mk.nil (h : Cd.Mk q K M d w0 wr gF cF gG n bl fs G x) (hn : n = K + M) :
    Cd.St q K M d w0 (wr.setCell ⟨gF, x, none⟩ (.slice none 0 0)) gF cF gG n bl (fs.set x []) (G ++ [x]) :=
  ⟨h.row.setNil h.hx, h.gone.setOther (fun e => by have := h.gF; dsimp only at e; omega) _, h.files.nil (by have := h.hx; omega), nodup_more h.nd h.hg, h.few', h.below.setCell (p := ⟨gF, x, none⟩) h.lowF _, h.lowF, h.gF, h.gB, fun i hi => by
    have hl := h.row.len
    have := h.hx
    rw [nth_set (by omega) (by omega)]
    split
    · simp
    · exact h.short i hi⟩
theorem Cd.Mk.turn {k : Nat} {v : UInt8} (h : Cd.Mk q K M d w0 wr gF cF gG n bl fs G x) (hn : n = K + M) (hk : k < (nth fs x).length) (hv : v ≠ nth (nth fs x) k) :
    Cd.St q K M d w0 (wr.setCell ⟨bl x, k, none⟩ (.int .u8 (n8 v))) gF cF gG n bl (fs.set x ((nth fs x).set k v)) (G ++ [x]) :=
  ⟨h.row.turn h.hx hk, h.gone.setOther (fun e => by have := h.gB x h.hx; dsimp only at e; omega) _, h.files.turn (by have := h.hx; omega) h.hg hk (by rw [← nth_eq _ hk]; exact hv), nodup_more h.nd h.hg, h.few', h.below.setCell (p := ⟨bl x, k, none⟩) (h.row.lo x h.hx) _, h.lowF, h.gF, h.gB, fun i hi => by
    have hl := h.row.len
    have := h.hx
    rw [nth_set (by omega) (by omega)]
    split
    · rw [List.length_set]; exact h.short x h.hx
    · exact h.short i hi⟩
end
theorem tmod_in (z m : Int) (hm : 0 < m) : -m < Int.tmod z m ∧ Int.tmod z m < m := by
  rw [Int.tmod_eq_emod]
  have h1 := Int.emod_nonneg z (b := m) (by omega)
  have h2 := Int.emod_lt_of_pos z (b := m) hm
  split <;> omega
set_option maxHeartbeats 32000000 in
theorem coldAny_walk (ad : Option Addr) (nd cd : Nat) (d : List UInt8) (k m : Int) (ab : Option Addr) (nb cb : Nat) (bad : List Int) (ar : Option Addr) (nr cr : Nat) (rs : List Int) (w : World) (hd : Bs w ad nd cd d) (hk : I64 k) (hm : I64 m) (hbad : Is w ab nb cb bad) (hrs : Is w ar nr cr rs) (hc : Cst w) :
    Calls Tryz.prog 5 #[.slice ad nd cd, .int .i64 k, .int .i64 m, .slice ab nb cb, .slice ar nr cr] w fun e w' => e = .returned (.bool true) ∧ Below w.heap.size w w' := by
  have hle := hd.le.1
  have hle2 := hbad.le
  have hle3 := hrs.le
  have HDD : Hid (∀ W, Below w.heap.size w W → Bs W ad nd cd d) := Lib.hid fun W k => hd.below k
  have HBAD : Hid (∀ W, Below w.heap.size w W → Is W ab nb cb bad) := Lib.hid fun W k => hbad.below k
  have HRS : Hid (∀ W, Below w.heap.size w W → Is W ar nr cr rs) := Lib.hid fun W k => hrs.below k
  have HDL := Lib.hid hd.1
  have HC := Lib.hid hc
  have HKN := Lib.hid (known_any w hc)
  obtain ⟨hk1, hk2⟩ := hk
  obtain ⟨hm1, hm2⟩ := hm
  clear hd hc hbad hrs
  go_enter Tryz.func5, Tryz.ntmps5
  go_wp2_with fail
  refine HKN.out.mono ?_
  rintro e w1 ⟨rfl, hb1⟩
  have HB1 := Lib.hid hb1
  clear hb1 HKN
  by_cases x0 : k < 1
  · have t0 : decide (k < (1 : Int)) = true := decide_eq_true (by omega)
    go_wp2
    go_ret
    exact ⟨rfl, HB1.out⟩
  have t0 : decide (k < (1 : Int)) = false := decide_eq_false (by omega)
  by_cases x1 : m < 0
  · have t1 : decide (m < (0 : Int)) = true := decide_eq_true (by omega)
    go_wp2
    go_ret
    exact ⟨rfl, HB1.out⟩
  have t1 : decide (m < (0 : Int)) = false := decide_eq_false (by omega)
  by_cases x2 : 10 < k
  · have t2 : decide ((10 : Int) < k) = true := decide_eq_true (by omega)
    go_wp2
    go_ret
    exact ⟨rfl, HB1.out⟩
  have t2 : decide ((10 : Int) < k) = false := decide_eq_false (by omega)
  by_cases x3 : 8 < m
  · have t3 : decide ((8 : Int) < m) = true := decide_eq_true (by omega)
    go_wp2
    go_ret
    exact ⟨rfl, HB1.out⟩
  have t3 : decide ((8 : Int) < m) = false := decide_eq_false (by omega)
  by_cases x4 : 2000 < nd
  · have t4 : decide ((2000 : Int) < (nd : Int)) = true := decide_eq_true (by omega)
    have t4b : decide (2000 < nd) = true := decide_eq_true x4
    go_wp2
    go_ret
    exact ⟨rfl, HB1.out⟩
  have t4 : decide ((2000 : Int) < (nd : Int)) = false := decide_eq_false (by omega)
  have t4b : decide (2000 < nd) = false := decide_eq_false x4
  by_cases x5 : 40 < nb
  · have t5 : decide ((40 : Int) < (nb : Int)) = true := decide_eq_true (by omega)
    have t5b : decide (40 < nb) = true := decide_eq_true x5
    go_wp2
    go_ret
    exact ⟨rfl, HB1.out⟩
  have t5 : decide ((40 : Int) < (nb : Int)) = false := decide_eq_false (by omega)
  have t5b : decide (40 < nb) = false := decide_eq_false x5
  obtain ⟨K, rfl⟩ : ∃ K : Nat, k = (K : Int) := ⟨k.toNat, by omega⟩
  obtain ⟨M, rfl⟩ : ∃ M : Nat, m = (M : Int) := ⟨m.toNat, by omega⟩
  have hK1 : 1 ≤ K := by omega
  have hK8 : K ≤ 10 := by omega
  have hM6 : M ≤ 8 := by omega
  have hnd : nd ≤ 2000 := by omega
  have hnb : nb ≤ 40 := by omega
  obtain ⟨n, hn⟩ : ∃ n, n = K + M := ⟨_, rfl⟩
  have hn18 : n ≤ 18 := by omega
  have hn0 : 0 < n := by omega
  have HN := Lib.hid hn
  have eKM : (K : Int) + (M : Int) = (n : Int) := by omega
  clear hn hk1 hk2 hm1 hm2
  go_upto_region 7 with fail
  clear x0 x1 x2 x3 x4 x5 t0 t1 t2 t3 t4 t4b t5 t5b
  go_loopw [11, 12] (fun av iv wr => ∃ (j : Nat) (a : Option Addr) (c : Nat), j ≤ n ∧ iv = .int .i64 j ∧ av = .slice a j c ∧ Hid (AccI wr w1.heap.size a j c (Cd.nds j)) ∧ Hid (Below w1.heap.size w1 wr)) (fun _ iv _ => n - (intOf iv).toNat)
  case atStart => exact ⟨0, none, 0, by omega, rfl, rfl, Lib.hid (AccI.nil _ _), Lib.hid (Below.refl _ _)⟩
  case round =>
  obtain ⟨j, a, c, hj, rfl, rfl, HA, HB⟩ := hrel
  by_cases hlt : j < n
  · have t1 : decide ((j : Int) < (n : Int)) = true := decide_eq_true (by omega)
    have t2 : decide (j < n) = true := decide_eq_true hlt
    obtain ⟨r, hr⟩ : ∃ r, r = j % 16 := ⟨_, rfl⟩
    have e1 : (j : Int) % 16 = (r : Int) := by omega
    have e2 : Int.tmod (j : Int) 16 = (r : Int) := by rw [Int.tmod_eq_emod_of_nonneg (by omega)]; omega
    have hrb : I64 (r : Int) := ⟨by omega, by omega⟩
    have HRB := Lib.hid hrb
    have HNX : Hid (Cd.nds (j + 1) = Cd.nds j ++ [(r : Int)]) := Lib.hid (by rw [nds_next, hr]; rfl)
    have HA5 := Lib.hid (HA.out.below (below_alloc1 wr (.cells #[.int .i64 r] 3)))
    have HB5 := Lib.hid (HB.out.trans ((below_alloc1 wr (.cells #[.int .i64 r] 3)).mono HB.out.size))
    have HC5 : Hid ((wr.alloc (.cells #[.int .i64 r] 3)).cell? ⟨wr.heap.size, 0, none⟩ = some (.int .i64 (r : Int))) := Lib.hid ((cell_of_row _ _ 0 _ _ _ (heap_alloc_new wr (.cells #[.int .i64 r] 3))).trans rfl)
    clear hr hrb
    go_upto_region 9 with fail
    go_wp2_with (at_builtin; refine app_i rfl _ _ rfl rfl HA5.out HRB.out rfl HC5.out (by omega) HB5.out.size ?_; intro a9 c9 w9 h9 hb9 hev9; have HB9 := Lib.hid (HB5.out.trans hb9); rw [← HNX.out] at h9; have HA9 := Lib.hid h9; clear h9 hb9 hev9)
    go_roundw
    case rel => exact ⟨j + 1, a9, c9, by omega, by go_num, rfl, HA9, HB9⟩
    case measure => simp [intOf]; omega
  obtain rfl : j = n := by omega
  have t1 : decide ((j : Int) < (j : Int)) = false := decide_eq_false (by omega)
  have t2 : decide (j < j) = false := decide_eq_false (by omega)
  generalize hjn : j = n at *
  clear hjn hlt hj
  have HBR := Lib.hid (HB1.out.trans (HB.out.mono HB1.out.size))
  have HAI := Lib.hid HA.out.is
  have hpt := point_yes [98] [107] 5 K M ad nd cd d a n c (Cd.nds n) wr (HDD.out wr HBR.out) HAI.out (by omega) hK1 (by omega) HN.out (nds_all n)
  have hft : Cd.Fit (Cd.mk [98] [107] 5 K M nd d (Cd.nds n)) K M nd := by
    have h := mk_fit (bk := [98]) (key := [107]) (v := 5) (K := K) (M := M) (d := d) (l := Cd.nds n) ⟨by omega⟩ hK1 (by omega) (by rw [HDL.out]; omega)
    rw [HDL.out] at h
    exact h
  have hq5 : (Cd.mk [98] [107] 5 K M nd d (Cd.nds n)).p.stripe = 5 := rfl
  have hqs : (Cd.mk [98] [107] 5 K M nd d (Cd.nds n)).p.sum = Codec.sum d := rfl
  have HFIT := Lib.hid hft
  have HQS := Lib.hid hqs
  have HQL : Hid ((Cd.mk [98] [107] 5 K M nd d (Cd.nds n)).p.stripe < 18446744073709551616) := Lib.hid (by rw [hq5]; omega)
  have HPT := Lib.hid hpt
  clear hpt hft hq5 hqs HA
  generalize Cd.mk [98] [107] 5 K M nd d (Cd.nds n) = q at *
  unfold Cd.hv at HPT
  go_wp2_with fail
  refine HPT.out.mono ?_
  rintro e w3 ⟨a3, c3, rfl, ha3, hb3⟩
  have HB3 := Lib.hid (HBR.out.trans (hb3.mono HBR.out.size))
  have HA3 := Lib.hid ha3
  clear ha3 hb3 HPT t1 t2 HB
  unfold Cd.pv
  go_upto_region 11 with fail
  have hb4 := below_alloc1 w3 (.cells (Cd.pcells q a3 n c3) 31)
  have hp4 := Cd.PAt.new w3 q a3 n c3
  unfold Cd.pcells at hb4 hp4
  generalize w3.alloc (.cells #[.string (bstr q.bucket), .string (bstr q.key), .int .u64 q.version, .int .u64 q.p.stripe, .int .i64 q.p.K, .int .i64 q.p.M, .int .i64 q.p.size, .int .u32 (n32 q.p.sum), .slice a3 n c3] 31) = w4 at *
  have HB4 := Lib.hid (HB3.out.trans (hb4.mono HB3.out.size))
  have HP4 := Lib.hid hp4
  have HI4 := Lib.hid (HA3.out.below hb4).is
  have HZ4 : Hid (w3.heap.size < w4.heap.size) := Lib.hid (World.block_lt_of_cell? _ _ hp4.c0)
  generalize hbx : w3.heap.size = bx at *
  clear hb4 hbx HA3 HAI
  have hp := hp4
  have c0 := hp.c0
  have c1 := hp.c1
  have c2 := hp.c2
  have c3' := hp.c3
  have c4 := hp.c4
  have c5 := hp.c5
  have c6 := hp.c6
  have c7 := hp.c7
  have c8 := hp.c8
  clear hp hp4
  have HSH := Lib.hid (cshards_yes q a3 n c3 K M ad nd cd d w4 (HC.out.below HB4.out) HFIT.out HI4.out (HDD.out w4 HB4.out) HN.out HQS.out)
  unfold Cd.pv at HSH
  go_wp2_with fail
  refine HSH.out.mono ?_
  rintro e w5 ⟨a5, c5', rfl, ha5, hb5⟩
  have HB5 := Lib.hid (HB4.out.trans (hb5.mono HB4.out.size))
  have HP5 := Lib.hid (HP4.out.below hb5)
  have HI5 := Lib.hid (HI4.out.below hb5)
  have HZ5 : Hid (bx < w5.heap.size) := Lib.hid (Nat.lt_of_lt_of_le HZ4.out hb5.size)
  clear c0 c1 c2 c3' c4 c5 c6 c7 c8 hb5 HSH HI4
  obtain ⟨g, rfl, _, hat⟩ := ha5.at0 hn0
  have HAT : Hid (∀ i, i < n → ∃ ai ci, w5.cell? ⟨g, i * 4, none⟩ = some (.int .i64 (nth q.nodes i)) ∧ w5.cell? ⟨g, i * 4 + 2, none⟩ = some (.string (bstr (Cd.name q.p.stripe i))) ∧ w5.cell? ⟨g, i * 4 + 3, none⟩ = some (.slice ai (Cd.file q.p i (nth (Rs.all K M d) i)).length ci) ∧ Own w5 0 ai (Cd.file q.p i (nth (Rs.all K M d) i)).length ci (Cd.file q.p i (nth (Rs.all K M d) i))) := Lib.hid fun i hi => by
    obtain ⟨ai, ci, h1, h2⟩ := hat i hi
    rw [shs_at (by rw [rall_len, ← HN.out]; exact hi)] at h1 h2
    exact ⟨ai, ci, h1 0 _ rfl, h1 2 _ rfl, h1 3 _ rfl, h2⟩
  have HFLN : Hid (∀ i : Nat, i < n → 4 ≤ (Cd.file q.p i (nth (Rs.all K M d) i)).length ∧ (Cd.file q.p i (nth (Rs.all K M d) i)).length ≤ 3000) := Lib.hid fun i hi => by
    have h1 := rall_row (K := K) (M := M) d (i := i) (by rw [← HN.out]; exact hi)
    have h2 := rwd_le K nd
    rw [HDL.out] at h1
    have h3 := file_len q.p (i : Int) (nth (Rs.all K M d) i) HQL.out (by omega)
    have h4 := file_pos q.p (i : Int) (nth (Rs.all K M d) i)
    omega
  clear hat ha5
  have z3 : ((n : Int) != (n : Int)) = false := by simp
  go_upto_region 16 with fail
  go_loopw [17, 18] (fun fv iv wr => ∃ (j : Nat) (a : Option Addr) (c : Nat) (bl : Nat → Nat), j ≤ n ∧ fv = .slice a j c ∧ iv = .int .i64 j ∧ Hid (FRow wr w5.heap.size a j c bl (Cd.fls q K M d j)) ∧ Hid (Below w5.heap.size w5 wr)) (fun _ iv _ => n - (intOf iv).toNat)
  case atStart => exact ⟨0, none, 0, fun _ => 0, by omega, rfl, rfl, Lib.hid (FRow.nil _ _ _), Lib.hid (Below.refl _ _)⟩
  case round =>
  obtain ⟨j, a, c, bl, hj, rfl, rfl, HF, HB⟩ := hrel
  by_cases hlt : j < n
  · have t1 : decide ((j : Int) < (n : Int)) = true := decide_eq_true (by omega)
    have t2 : decide (j < n) = true := decide_eq_true hlt
    obtain ⟨aj, cj, _, _, hc3, ho⟩ := HAT.out j hlt
    obtain ⟨hl4, hl3⟩ := HFLN.out j hlt
    have HNX : Hid (Cd.fls q K M d (j + 1) = Cd.fls q K M d j ++ [Cd.file q.p j (nth (Rs.all K M d) j)]) := Lib.hid (fls_next q K M d j)
    generalize Cd.file q.p j (nth (Rs.all K M d) j) = f at *
    generalize hfl : Cd.fls q K M d j = fl at *
    clear hfl
    have hbA := below_alloc1 wr (.cells #[] 5)
    have HBA := Lib.hid (HB.out.trans (hbA.mono HB.out.size))
    have HFA := Lib.hid (HF.out.below hbA)
    have HLI := Lib.hid (own_lit0 wr)
    have HSZ : Hid (wr.heap.size ≤ (wr.alloc (.cells #[] 5)).heap.size) := Lib.hid hbA.size
    have HOB := Lib.hid (ho.below HBA.out).bs
    have c3 := cell_later HBA.out hc3
    have HHI : Hid (∀ i, i < j → bl i < wr.heap.size) := Lib.hid HF.out.hi
    have HLO := Lib.hid HB.out.size
    clear hbA ho hc3
    go_upto_region 18 with fail
    go_wp2_with (first | (at_builtin; refine app_own rfl _ _ rfl wr.heap.size rfl HLI.out rfl HOB.out (by omega) HSZ.out ?_; intro aB cB wB hoB hbB hevB; rw [Nat.zero_add, List.nil_append] at hoB; rw [Nat.zero_add]; obtain ⟨b, rfl, hbn, hbs⟩ := own_form hoB (by omega); have hbF : Below wr.heap.size wr wB := ((below_alloc1 wr (.cells #[] 5))).trans hbB; have hbC := below_alloc1 wB (.cells #[.slice (some ⟨b, 0, none⟩) f.length cB] 25); have HBC := Lib.hid (HB.out.trans ((hbF.trans (hbC.mono hbF.size)).mono HB.out.size)); have HFC := Lib.hid ((HF.out.below hbF).below hbC); have HOC := Lib.hid (own_mono (own_below hoB hbC) (Nat.zero_le _)); have HCC := Lib.hid ((cell_of_row _ _ 0 _ _ _ (heap_alloc_new wB (.cells #[.slice (some ⟨b, 0, none⟩) f.length cB] 25))).trans rfl); have HBN := Lib.hid hbn; have HBS : Hid (b < (wB.alloc (.cells #[.slice (some ⟨b, 0, none⟩) f.length cB] 25)).heap.size) := Lib.hid (Nat.lt_of_lt_of_le hbs hbC.size); clear hoB hbB hevB hbF hbC hbn hbs) | (at_builtin; refine app_f rfl _ _ rfl w5.heap.size rfl HFC.out rfl HCC.out HOC.out (Nat.le_trans HLO.out HBN.out) HBS.out (fun i hi e => by have h1 := HHI.out i hi; have h2 := HBN.out; omega) (by omega) HBC.out.size ?_; intro a9 c9 w9 h9 hb9; have HB9 := Lib.hid (HBC.out.trans hb9); rw [← HNX.out] at h9; have HA9 := Lib.hid h9; clear h9 hb9))
    go_roundw
    case rel => exact ⟨j + 1, a9, c9, _, by omega, rfl, by go_num, HA9, HB9⟩
    case measure => simp [intOf]; omega
  obtain rfl : j = n := by omega
  have t1 : decide ((j : Int) < (j : Int)) = false := decide_eq_false (by omega)
  have t2 : decide (j < j) = false := decide_eq_false (by omega)
  generalize hjn : j = n at *
  clear hjn hlt hj z3
  obtain ⟨gF, rfl, hgF, hgs, _, _⟩ := HF.out.at hn0
  have hmk := run_make_row' (P := Tryz.prog) 54 4 (.bool false) 1 Tryz.underlying54 infoBool rfl .i64 .i64 n (by omega) (by omega)
  have HST0 : Hid (Cd.St q K M d w5 (wr.alloc (.cells (madeCells #[.bool false] n) 4)) gF c wr.heap.size n bl (Cd.fls q K M d n) []) := Lib.hid
    ⟨HF.out.below (below_alloc wr _), (rowTo.of_is (World.rowIs_made wr (.bool false) n 4)).congr (fun i _ => by simp), (by rw [HN.out]; exact Cd.Files.start q K M d), List.nodup_nil, (fun g hg => by cases hg), HB.out.trans ((below_alloc wr _).mono HB.out.size), hgF, hgs, HF.out.hi, fun i hi => by rw [fls_at hi]; exact (HFLN.out i hi).2⟩
  clear hgF hgs
  go_upto_region 20 with fail
  clear hmk t1 t2
  generalize wr.alloc (.cells (madeCells #[.bool false] n) 4) = w6 at *
  generalize wr.heap.size = gG at *
  generalize Cd.fls q K M d n = fs0 at *
  clear HF HB
  go_upto_region 22 with fail
  go_loopw [20, 21] (fun cv iv wr => ∃ (i : Nat) (G : List Nat) (fs : List (List UInt8)), i ≤ nb ∧ G.length ≤ i ∧ cv = .int .i64 G.length ∧ iv = .int .i64 i ∧ Hid (Cd.St q K M d w5 wr gF c gG n bl fs G)) (fun _ iv _ => nb - (intOf iv).toNat)
  case atStart => exact ⟨0, [], fs0, by omega, by simp, rfl, rfl, HST0⟩
  case round =>
  clear HST0
  obtain ⟨i, G, fs, hi, hGi, rfl, rfl, HS⟩ := hrel
  by_cases hlt : i < nb
  · have t1 : decide ((i : Int) < (nb : Int)) = true := decide_eq_true (by omega)
    have t2 : decide (i < nb) = true := decide_eq_true hlt
    obtain ⟨b0, o0, rfl, g0⟩ := (HBAD.out wr (HB5.out.trans (HS.out.below.mono HB5.out.size))).get hlt
    obtain ⟨T, hT⟩ : ∃ T, Int.tmod (nth bad i) (n : Int) = T := ⟨_, rfl⟩
    have hTb := tmod_in (nth bad i) (n : Int) (by omega)
    rw [hT] at hTb
    generalize nth bad i = z at *
    have z1 : ((n : Int) == 0) = false := by rw [beq_eq_false_iff_ne]; omega
    have z2 : ¬ (n : Int) = 0 := by omega
    go_upto_if 131 with fail
    go_cut [22] (fun v wx => ∃ x : Nat, x < n ∧ v = .int .i64 x ∧ wx = wr)
    case first =>
      by_cases hneg : T < 0
      · have s1 : decide (T < 0) = true := decide_eq_true hneg
        go_wp2
        go_meet
        exact ⟨(T + (n : Int)).toNat, by omega, by rw [show (((T + (n : Int)).toNat : Nat) : Int) = T + (K : Int) + (M : Int) by omega], rfl⟩
      · have s1 : decide (T < 0) = false := decide_eq_false hneg
        go_wp2
        go_meet
        exact ⟨T.toNat, by omega, by rw [show ((T.toNat : Nat) : Int) = T by omega], rfl⟩
    case rest =>
    clear hT hTb z1 z2 g0 t1 t2
    obtain ⟨x, hx, rfl, hwx⟩ := hcut
    obtain rfl := hwx.symm
    clear hwx
    have cg := HS.out.gone.cell hx
    by_cases hxg : x ∈ G
    · rw [decide_eq_true hxg] at cg
      clear hxg
      go_wp2
      go_roundw
      case rel => exact ⟨i + 1, G, fs, by omega, by omega, rfl, by go_num, HS⟩
      case measure => simp [intOf]; omega
    rw [decide_eq_false hxg] at cg
    have fz := HS.out.gone.frozen x
    have HM0 := Lib.hid (HS.out.mark hx hxg)
    clear hxg
    go_upto_region 30 with fail
    clear cg fz HS
    generalize World.setCell _ _ _ = wM at *
    have HM := HM0
    clear HM0
    have hfl : 4 ≤ (nth fs x).length ∧ (nth fs x).length ≤ 3000 := by
      rw [HM.out.files.good x (by have := HN.out; omega) HM.out.hg]
      exact HFLN.out x hx
    obtain ⟨g', eg, _, _, hfz, hat⟩ := HM.out.row.at hx
    cases eg
    obtain ⟨cf, k1, k2⟩ : ∃ cf, wM.cell? ⟨gF, x, none⟩ = some (.slice (some ⟨bl x, 0, none⟩) (nth fs x).length cf) ∧ Own wM 0 (some ⟨bl x, 0, none⟩) (nth fs x).length cf (nth fs x) := by
      rcases hat with h | ⟨h, _⟩
      · exact h
      · rw [h] at hfl; simp at hfl
    have HK2 := Lib.hid k2
    have HFZ := Lib.hid hfz
    obtain ⟨L, hL⟩ : ∃ L, L = (nth fs x).length := ⟨_, rfl⟩
    have HL := Lib.hid hL
    rw [← hL] at k1 hfl
    have hL1 := hfl.1
    have hL2 := hfl.2
    clear hat k2 hL hfl
    by_cases hir : i < nr
    case neg =>
      have t1 : decide ((i : Int) < (nr : Int)) = false := decide_eq_false (by omega)
      have t2 : decide (i < nr) = false := decide_eq_false hir
      have f1 := hfz x
      go_upto_region 33 with fail
      go_wp2
      have HN9 := Lib.hid (HM.out.nil HN.out)
      generalize World.setCell _ _ _ = w9 at *
      go_roundw
      case rel => exact ⟨i + 1, G ++ [x], fs.set x [], by omega, by simp; omega, by simp, by go_num, HN9⟩
      case measure => simp [intOf]; omega
    have t1 : decide ((i : Int) < (nr : Int)) = true := decide_eq_true (by omega)
    have t2 : decide (i < nr) = true := decide_eq_true hir
    obtain ⟨b1, o1, rfl, g1⟩ := (HRS.out wM (HB5.out.trans (HM.out.below.mono HB5.out.size))).get hir
    generalize nth rs i = y at *
    by_cases hy : 0 ≤ y
    case neg =>
      have t3 : decide ((0 : Int) ≤ y) = false := decide_eq_false hy
      have f1 := hfz x
      go_upto_region 33 with fail
      go_wp2
      have HN9 := Lib.hid (HM.out.nil HN.out)
      generalize World.setCell _ _ _ = w9 at *
      go_roundw
      case rel => exact ⟨i + 1, G ++ [x], fs.set x [], by omega, by simp; omega, by simp, by go_num, HN9⟩
      case measure => simp [intOf]; omega
    have t3 : decide ((0 : Int) ≤ y) = true := decide_eq_true hy
    obtain ⟨A, hA⟩ : ∃ A : Nat, A = y.toNat % (8 * L) := ⟨_, rfl⟩
    have hAb : A < 8 * L := by rw [hA]; exact Nat.mod_lt _ (by omega)
    have e8' : y % (8 * (L : Int)) = (A : Int) := by
      have h9 : (y.toNat : Int) % ((8 * L : Nat) : Int) = ((y.toNat % (8 * L) : Nat) : Int) := rfl
      rw [hA, ← h9, Int.toNat_of_nonneg hy, show ((8 * L : Nat) : Int) = 8 * (L : Int) by omega]
    have e8 : Int.tmod y (8 * (L : Int)) = (A : Int) := by rw [Int.tmod_eq_emod_of_nonneg hy, e8']
    have hVz : ((8 * (L : Int)) == 0) = false := by rw [beq_eq_false_iff_ne]; omega
    have hVz2 : ¬ (8 * (L : Int)) = 0 := by omega
    clear hA
    go_upto_region 31 with fail
    clear t1 t2 t3
    refine wp_region_class (w0 := wM) (by kernel_rfl) (by kernel_rfl) (Below.refl _ _) ?_
    have p1 := BW.cell g1
    have p2 := BW.cell k1
    repeat (first | go_big_quiet_step (fail))
    refine wpQuiet_nil ?_
    intro w8 hb8; replace hb8 := BW.of hb8
    have HM8 := Lib.hid (HM.out.later hb8)
    have k8 := cell_later hb8 k1
    have HK8 := Lib.hid (own_below HK2.out hb8)
    clear hb8 p1 p2 g1 k1 hfz e8 e8' hVz hVz2 HM HK2 HFZ
    obtain ⟨a8, ha8⟩ : ∃ a8, a8 = A / 8 := ⟨_, rfl⟩
    obtain ⟨r8, hr8⟩ : ∃ r8, r8 = A % 8 := ⟨_, rfl⟩
    have q1 : (A : Int) / 8 = (a8 : Int) := by omega
    have q1' : Int.tdiv (A : Int) 8 = (a8 : Int) := by rw [Int.tdiv_eq_ediv_of_nonneg (by omega)]; omega
    have q2 : (A : Int) % 8 = (r8 : Int) := by omega
    have q2' : Int.tmod (A : Int) 8 = (r8 : Int) := by rw [Int.tmod_eq_emod_of_nonneg (by omega)]; omega
    have hA8 : a8 < L := by omega
    have hr : r8 < 8 := by omega
    have w1' : IntKind.i64.wrap (a8 : Int) = (a8 : Int) := by rw [IntKind.wrap_i64]; omega
    have w2' : IntKind.i64.wrap (r8 : Int) = (r8 : Int) := by rw [IntKind.wrap_i64]; omega
    have w3' : IntKind.u64.wrap (r8 : Int) = (r8 : Int) := by rw [IntKind.wrap_u64]; omega
    have hbit := bit_xor (nth (nth fs x) a8) r8
    clear ha8 hr8
    have c1 : w8.cell? ⟨bl x, a8, none⟩ = some (.int .u8 (n8 (nth (nth fs x) (a8)))) := by
      obtain ⟨b', o', e, hc⟩ := (Own.bs HK8.out).2.2.2.byte (i := a8) (by rw [← HL.out]; exact hA8)
      cases e
      rw [Nat.zero_add] at hc
      exact hc
    have f1 : w8.frozen? ⟨bl x, a8, none⟩ = false := (own_spare HK8.out).2 _
    have HT8 := Lib.hid (HM8.out.turn HN.out (k := a8) (v := nth (nth fs x) (a8) ^^^ UInt8.ofNat (2 ^ (r8))) (by rw [← HL.out]; exact hA8) (Codec.xor_ne (Codec.bit_ne _ hr)))
    have hILN : decide ((a8 : Int) < (L : Int)) = true := decide_eq_true (by omega)
    have HGL : Hid ((G ++ [x]).length = G.length + 1) := Lib.hid (by simp)
    generalize fs.set x ((nth fs x).set (a8) (nth (nth fs x) (a8) ^^^ UInt8.ofNat (2 ^ (r8)))) = fs' at *
    generalize nth (nth fs x) (a8) = y8 at *
    have hilt : (a8 : Int) < (L : Int) := by omega
    have HI := Lib.hid hbit
    clear hbit
    go_upto_region 32 with fail
    refine wp_region_still_tail 20 (by kernel_rfl) (by kernel_rfl) ?_
    simp only [List.take_succ_cons, List.take_zero, List.drop_succ_cons, List.drop_zero]
    repeat still_step
    refine wpStill_nil ?_
    go_wp2
    rw [HI.out]
    have HT9 := Lib.hid (HT8.out.later (Below.refl _ _).drew)
    clear HT8 HI
    generalize World.drew _ = w9 at *
    go_roundw
    case rel => exact ⟨i + 1, G ++ [x], _, by omega, by rw [HGL.out]; omega, by rw [HGL.out]; go_num, by go_num, HT9⟩
    case measure => simp [intOf]; omega
  obtain rfl : i = nb := by omega
  have t1 : decide ((i : Int) < (i : Int)) = false := decide_eq_false (by omega)
  have t2 : decide (i < i) = false := decide_eq_false (by omega)
  generalize hin : i = nb at *
  clear hin hlt hi
  go_upto_region 34 with fail
  clear t1 t2
  have hlp := HS.out.below
  have HPR := Lib.hid (HP5.out.below hlp)
  have HIR := Lib.hid (HI5.out.below hlp)
  have HBR := Lib.hid (HB5.out.trans (hlp.mono HB5.out.size))
  have HBS := Lib.hid HS.out.row.bss
  have HLR := Lib.hid hlp.size
  have HFG : Hid (∀ i, i < n → (nth fs i).length ≤ 100000000) := Lib.hid fun i hi => Nat.le_trans (HS.out.short i hi) (by omega)
  have HFT : Hid (Cd.Fit q K M d.length) := Lib.hid (by rw [HDL.out]; exact HFIT.out)
  have HFW : Hid (∀ g ∈ G, g < K + M) := Lib.hid fun g hg => by rw [← HN.out]; exact HS.out.few g hg
  clear hlp
  have hp := HPR.out
  have c0 := hp.c0
  have c1 := hp.c1
  have c2 := hp.c2
  have c3' := hp.c3
  have c4 := hp.c4
  have c5 := hp.c5
  have c6 := hp.c6
  have c7 := hp.c7
  have c8 := hp.c8
  clear hp
  have hga := gather_any q a3 n c3 K M nd (some ⟨gF, 0, none⟩) n c fs wr HFIT.out (by omega) HBS.out HN.out HFG.out
  by_cases hG : M < G.length
  · have hgl := gath_lost HFT.out (by rw [HDL.out]; omega) HS.out.nd HFW.out HS.out.files hG
    rw [HDL.out] at hgl
    rw [hgl] at hga
    have HGA := Lib.hid hga
    have HML := Lib.hid fun W (k : Below wr.heap.size wr W) => mend_lost q a3 n c3 K M d G (some ⟨gF, 0, none⟩) n c fs W HFT.out (by rw [HDL.out]; omega) (HBS.out.below k) HN.out HFG.out HS.out.nd HFW.out HS.out.files hG
    have t3 : decide ((M : Int) < (G.length : Int)) = true := decide_eq_true (by omega)
    have t4 : decide (M < G.length) = true := decide_eq_true hG
    clear hgl hga
    unfold Cd.pv at HGA HML
    go_wp2_with fail
    refine HGA.out.mono ?_
    rintro e w6 ⟨⟨a6, n6, k6, rfl, _⟩, hb6⟩
    have HB6 := Lib.hid hb6
    have hp := HPR.out.below hb6
    clear c0 c1 c2 c3' c4 c5 c6 c7 c8 hb6 HGA
    have c0 := hp.c0
    have c1 := hp.c1
    have c2 := hp.c2
    have c3' := hp.c3
    have c4 := hp.c4
    have c5 := hp.c5
    have c6 := hp.c6
    have c7 := hp.c7
    have c8 := hp.c8
    clear hp
    go_wp2_with fail
    refine (HML.out w6 HB6.out).mono ?_
    rintro e w7 ⟨rfl, hb7⟩
    have HB7 := Lib.hid (HBR.out.trans ((HB6.out.trans (hb7.mono HB6.out.size)).mono HBR.out.size))
    clear c0 c1 c2 c3' c4 c5 c6 c7 c8 hb7 HML
    go_wp2
    go_ret
    exact ⟨rfl, HB7.out⟩
  have hgl := gath_back HFT.out (by rw [HDL.out]; omega) HQS.out HS.out.nd HFW.out HS.out.files (by omega)
  rw [HDL.out] at hgl
  rw [hgl] at hga
  have HGA := Lib.hid hga
  have HML := Lib.hid fun W (k : Below wr.heap.size wr W) => mend_back q a3 n c3 K M d G (some ⟨gF, 0, none⟩) n c fs W (HC.out.below (HBR.out.trans (k.mono HBR.out.size))) HFT.out (by rw [HDL.out]; omega) HQS.out (HIR.out.below k) HN.out (HBS.out.below k) HN.out HFG.out HS.out.nd HFW.out HS.out.files (by omega)
  have t3 : decide ((M : Int) < (G.length : Int)) = false := decide_eq_false (by omega)
  have t4 : decide (M < G.length) = false := decide_eq_false hG
  clear hgl hga
  unfold Cd.pv at HGA HML
  go_wp2_with fail
  refine HGA.out.mono ?_
  rintro e w6 ⟨⟨a6, n6, k6, rfl, hs6⟩, hb6⟩
  have HB6 := Lib.hid hb6
  have HS6 := Lib.hid hs6
  have hp := HPR.out.below hb6
  clear c0 c1 c2 c3' c4 c5 c6 c7 c8 hb6 hs6 HGA
  have c0 := hp.c0
  have c1 := hp.c1
  have c2 := hp.c2
  have c3' := hp.c3
  have c4 := hp.c4
  have c5 := hp.c5
  have c6 := hp.c6
  have c7 := hp.c7
  have c8 := hp.c8
  clear hp
  go_wp2_with fail
  refine (HML.out w6 HB6.out).mono ?_
  rintro e w7 ⟨a7, n7, k7, rfl, ha7, hb7⟩
  have HB7 := Lib.hid (HB6.out.trans (hb7.mono HB6.out.size))
  have HX7 := Lib.hid (HBR.out.trans (HB7.out.mono HBR.out.size))
  have HS7 := Lib.hid (HS6.out.below hb7)
  have HA7 := Lib.hid ha7
  obtain rfl : n7 = G.length := by have h1 := ha7.len; rw [mended_len hK1 HS.out.nd HFW.out] at h1; omega
  have HMA : Hid (∀ i, i < G.length → ∃ j, j < n ∧ j ∈ G ∧ nth (Cd.mended q K M d G) i = Cd.sh q (Rs.all K M d) j) := Lib.hid fun i hi => by
    obtain ⟨j, h1, h2, h3⟩ := mended_at (q := q) (K := K) (M := M) (d := d) (G := G) hK1 (i := i) (by rw [mended_len hK1 HS.out.nd HFW.out]; exact hi)
    exact ⟨j, by rw [HN.out]; exact h1, h2, h3⟩
  have hGn : G.length ≤ 40 := by omega
  clear c0 c1 c2 c3' c4 c5 c6 c7 c8 hb7 ha7 HML
  have v1 := conv_bytes HS7.out
  have v2 := conv_bytes (HDD.out w7 HX7.out)
  have e1 : ((bstr d).toList == (bstr d).toList) = true := by simp
  have e2 : ((G.length : Int) != (G.length : Int)) = false := by simp
  go_upto_region 41 with fail
  clear v1 v2 e1 e2 t3 t4
  have HLO := Lib.hid (HS.out.below.trans (HB7.out.mono HS.out.below.size))
  go_loopw [26] (fun iv wr => ∃ i : Nat, i ≤ G.length ∧ iv = .int .i64 i ∧ Hid (Below w7.heap.size w7 wr)) (fun iv _ => G.length - (intOf iv).toNat)
  case atStart => exact ⟨0, by omega, rfl, Lib.hid (Below.refl _ _)⟩
  case round =>
  obtain ⟨i, hi, rfl, HB⟩ := hrel
  by_cases hlt : i < G.length
  · have t1 : decide ((i : Int) < (G.length : Int)) = true := decide_eq_true (by omega)
    have t2 : decide (i < G.length) = true := decide_eq_true hlt
    obtain ⟨j, hj, hjG, hnth⟩ := HMA.out i hlt
    obtain ⟨bX, oX, aX, cX, rfl, hcX, hoX⟩ := (HA7.out.below HB.out).at hlt
    rw [hnth] at hcX hoX
    have d0 := hcX 0 _ rfl
    have d1 := hcX 1 _ rfl
    have d2 := hcX 2 _ rfl
    have d3 := hcX 3 _ rfl
    simp only [belS, Cd.sh, Nat.add_zero, ← Nat.add_assoc] at d0 d1 d2 d3 hoX
    obtain ⟨aL, cL, l0, l2, l3, loL⟩ := HAT.out j hj
    have hbz := HLO.out.trans (HB.out.mono HLO.out.size)
    have g0 := cell_later hbz l0
    have g2 := cell_later hbz l2
    have g3 := cell_later hbz l3
    have gc := cell_later (HB7.out.trans (HB.out.mono HB7.out.size)) (HS.out.gone.cell hj)
    rw [decide_eq_true hjG] at gc
    have HOX := Lib.hid hoX
    have HOL := Lib.hid (own_below loL hbz)
    clear hnth hcX hoX l0 l2 l3 loL hbz hjG
    generalize nth q.nodes j = sn at *
    generalize Cd.name q.p.stripe j = sm at *
    generalize Cd.file q.p j (nth (Rs.all K M d) j) = sb at *
    have p0 := BW.cell d0
    have p1 := BW.cell d1
    have p2 := BW.cell d2
    have p3 := BW.cell d3
    have q0 := BW.cell g0
    have q2 := BW.cell g2
    have q3 := BW.cell g3
    have r0 := BW.cell gc
    have u1 := fun W : BW wr => conv_bytes ((Own.bs HOX.out).below W.b)
    have u2 := fun W : BW wr => conv_bytes ((Own.bs HOL.out).below W.b)
    have e1 : ((bstr sm).toList == (bstr sm).toList) = true := by simp
    have e2 : ((bstr sb).toList == (bstr sb).toList) = true := by simp
    have e3 : (sn != sn) = false := by simp
    clear d0 d1 d2 d3 g0 g2 g3 gc
    go_upto_region 43 with fail
    refine wp_region_class (w0 := wr) (by kernel_rfl) (by kernel_rfl) (Below.refl _ _) ?_
    repeat (first | go_big_quiet_step (fail))
    refine wpQuiet_nil ?_
    intro w9 hb9; replace hb9 := BW.of hb9
    have HB9 := Lib.hid (HB.out.trans (hb9.mono HB.out.size))
    clear hb9 p0 p1 p2 p3 q0 q2 q3 r0 u1 u2
    go_wp2
    go_roundw
    case rel => exact ⟨i + 1, by omega, by go_num, HB9⟩
    case measure => simp [intOf]; omega
  · obtain rfl : i = G.length := by omega
    have t1 : decide ((G.length : Int) < (G.length : Int)) = false := decide_eq_false (by omega)
    have t2 : decide (G.length < G.length) = false := decide_eq_false (by omega)
    go_wp2
    go_ret
    exact ⟨rfl, HX7.out.trans (HB.out.mono HX7.out.size)⟩

end Go.Proofs.YtfgifndpglgjkaaGreatDoor
