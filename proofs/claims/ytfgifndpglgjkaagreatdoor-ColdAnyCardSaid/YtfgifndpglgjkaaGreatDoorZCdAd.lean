/- Cold stripes: Mend. -/
import Derived.Test.YtfgifndpglgjkaaGreatDoorZCdAa
import Derived.Test.YtfgifndpglgjkaaGreatDoorZCdAo
set_option linter.unusedVariables false
set_option linter.unusedSimpArgs false
section
set_option maxRecDepth 100000
set_option linter.unusedVariables false
set_option linter.unusedSimpArgs false
namespace Go.Proofs.YtfgifndpglgjkaaGreatDoor
open Go.RowKit

theorem shs_index {q : Cd.Full} {ls : List (List UInt8)} {i : Nat} (h : i < ls.length) : (nth (Cd.shs q ls) i).index = i := by rw [shs_at h]; rfl
/-- What Mend makes: the shards of the files that are bad. -/
def Cd.mended (q : Cd.Full) (K M : Nat) (d : List UInt8) (G : List Nat) : List Cd.Shard := (Cd.shs q (Rs.all K M d)).filter (fun s => !Cd.pd (Rs.gone K M d G) s)
set_option maxHeartbeats 8000000 in
theorem mend_back (q : Cd.Full) (an : Option Addr) (nn cn K M : Nat) (d : List UInt8) (G : List Nat) (al : Option Addr) (nl cl : Nat) (fs : List (List UInt8)) (w : World) (hc : Cst w) (hf : Cd.Fit q K M d.length) (hN : d.length ≤ 2000000) (hsum : q.p.sum = Codec.sum d) (hno : Is w an nn cn q.nodes) (hnn : nn = K + M) (hl : Bss w al nl cl fs) (hnl : nl = K + M) (hbig : ∀ i, i < nl → (nth fs i).length ≤ 100000000)
    (hnd : G.Nodup) (hb : ∀ g ∈ G, g < K + M) (hF : Cd.Files q K M d G fs) (hG : G.length ≤ M) :
    Calls Tryz.prog 20 #[Cd.pv q an nn cn, .slice al nl cl] w fun e w' => ∃ a m c, e = .returned (.tuple #[.slice a m c, .int .i64 0]) ∧ AccB belS 51 w' w.heap.size a m c (Cd.mended q K M d G) ∧ Below w.heap.size w w' := by
  have hb0 := below_alloc1 w (.cells (Cd.pcells q an nn cn) 31)
  have hp0 := Cd.PAt.new w q an nn cn
  have HC := Lib.hid hc
  have HF := Lib.hid hf
  have hk1 := hf.k1
  have hkm := hf.km
  have HGA := Lib.hid fun W (k : Below w.heap.size w W) => gather_any q an nn cn K M d.length al nl cl fs W hf hN (hl.below k) hnl hbig
  have hback := gath_back hf hN hsum hnd hb hF hG
  rw [hback] at HGA
  have HGD := Lib.hid fun W (k : Below w.heap.size w W) => cgood_any q an nn cn K M d.length al nl cl fs W hf (hl.below k) (by omega) hbig
  have hgone := gds_gone hf.ok.s.lt (by have := rwd_le K d.length; omega) hF
  rw [hgone] at HGD
  have hlo := gone_lost (d := d) hnd hb
  rw [decide_eq_false (by omega)] at hlo
  obtain ⟨hr1, hr2⟩ := rep_is hk1 hkm (gone_sub K M d G) hlo
  have HRE := Lib.hid fun (b : Nat) (aq : Option Addr) (cs : Nat) (W : World) (hcod : Cod W b K M) (hs : Bss W aq nl cs (Rs.gone K M d G)) => repair_any b K M aq nl cs (Rs.gone K M d G) W hcod hs hk1 hkm (by omega) (fun i hi => by
    rw [gone_at (by omega)]
    split
    · simp
    · rw [all_len (by omega)]
      have := rwd_le K d.length
      omega)
  rw [hr1, hr2] at HRE
  have HNO : Hid (∀ W, Below w.heap.size w W → Is W an nn cn q.nodes) := Lib.hid fun W k => hno.below k
  have hle := hl.le
  have hle2 := hno.le
  have t1 : ((nn : Int) != (K : Int) + (M : Int)) = false := by rw [bne_eq_false_iff_eq]; omega
  have HNN := Lib.hid hnn
  have HNL := Lib.hid hnl
  have HIX : Hid (∀ i, i < K + M → (nth (Cd.shs q (Rs.all K M d)) i).index < K + M) := Lib.hid fun i hi => by rw [shs_index (by rw [rall_len]; exact hi)]; exact hi
  have HME : Hid (Cd.mended q K M d G = (Cd.shs q (Rs.all K M d)).filter (fun s => !Cd.pd (Rs.gone K M d G) s)) := Lib.hid rfl
  have HBG : Hid (∀ i, i < nn → (nth (Rs.all K M d) i).length ≤ 100000000) := Lib.hid fun i hi => by
    rw [all_len (by omega)]
    have := rwd_le K d.length
    omega
  have hsl : nl ≤ 255 := by omega
  have HAL : Hid ((Rs.all K M d).length = K + M) := Lib.hid (rall_len K M d)
  clear hc hf hl hnl hbig hback hgone hlo hr1 hr2 hno hnn hF hnd hb hsum
  unfold Cd.pv at HGA HGD
  unfold Cd.pv
  go_enter Tryz.func20, Tryz.ntmps20
  go_upto_region 1 with fail
  unfold Cd.pcells at hb0 hp0
  generalize w.alloc (.cells #[.string (bstr q.bucket), .string (bstr q.key), .int .u64 q.version, .int .u64 q.p.stripe, .int .i64 q.p.K, .int .i64 q.p.M, .int .i64 q.p.size, .int .u32 (n32 q.p.sum), .slice an nn cn] 31) = w1 at *
  have HB1 := Lib.hid hb0
  have HP1 := Lib.hid hp0
  clear hb0 hp0
  have hp := HP1.out
  have c0 := hp.c0
  have c1 := hp.c1
  have c2 := hp.c2
  have c3 := hp.c3
  have c4 := hp.c4
  have c5 := hp.c5
  have c6 := hp.c6
  have c7 := hp.c7
  have c8 := hp.c8
  clear hp
  go_wp2_with fail
  refine (HGA.out w1 HB1.out).mono ?_
  rintro e w2 ⟨⟨a2, n2, k2, rfl, _⟩, hb2⟩
  have HB2 := Lib.hid (HB1.out.trans (hb2.mono HB1.out.size))
  have HP2 := Lib.hid (HP1.out.below hb2)
  clear c0 c1 c2 c3 c4 c5 c6 c7 c8 hb2 HGA
  obtain ⟨d4, d5, d6⟩ := fit_cells HF.out HP2.out
  have c8 := HP2.out.c8
  go_wp2_with fail
  refine (new_any K M w2 hk1 hkm).mono ?_
  rintro e w3 ⟨⟨bc, rfl, hco⟩, hb3⟩
  have HB3 := Lib.hid (HB2.out.trans (hb3.mono HB2.out.size))
  have HP3 := Lib.hid (HP2.out.below hb3)
  have HCO := Lib.hid hco
  clear hb3 hco d4 d5 d6 c8 t1
  have hp := HP3.out
  have c0 := hp.c0
  have c1 := hp.c1
  have c2 := hp.c2
  have c3 := hp.c3
  have c4 := hp.c4
  have c5 := hp.c5
  have c6 := hp.c6
  have c7 := hp.c7
  have c8 := hp.c8
  clear hp
  go_wp2_with fail
  refine (HGD.out w3 HB3.out).mono ?_
  rintro e w4 ⟨a4, k4, rfl, ha4, hb4⟩
  have HB4 := Lib.hid (HB3.out.trans (hb4.mono HB3.out.size))
  have HP4 := Lib.hid (HP3.out.below hb4)
  have HCO4 := Lib.hid (HCO.out.below hb4)
  have HS4 := Lib.hid ha4.bss
  clear c0 c1 c2 c3 c4 c5 c6 c7 c8 ha4 hb4 HGD
  go_upto_region 8 with fail
  have hb5 := below_alloc1 w4 (.cells #[.slice a4 nl k4] 53)
  have hg5 := heap_alloc_new w4 (.cells #[.slice a4 nl k4] 53)
  generalize w4.alloc (.cells #[.slice a4 nl k4] 53) = w5 at *
  have HB5 := Lib.hid (HB4.out.trans (hb5.mono HB4.out.size))
  have HP5 := Lib.hid (HP4.out.below hb5)
  have HCO5 := Lib.hid (HCO4.out.below hb5)
  have HS5 := Lib.hid (HS4.out.below hb5)
  generalize w4.heap.size = g0 at *
  have h0c : w5.cell? ⟨g0, 0, none⟩ = some (.slice a4 nl k4) := (cell_of_row _ _ 0 _ _ _ hg5).trans rfl
  have HC0 := Lib.hid h0c
  clear hb5 hg5
  go_wp2_with fail
  refine (HRE.out bc a4 k4 w5 HCO5.out HS5.out).mono ?_
  rintro e w6 ⟨⟨a6, n6, k6, rfl, hs6⟩, hb6⟩
  have HB6 := Lib.hid (HB5.out.trans (hb6.mono HB5.out.size))
  have HX6 := Lib.hid hb6
  have HP6 := Lib.hid (HP5.out.below hb6)
  obtain rfl : n6 = nn := by have h1 := hs6.1; rw [HAL.out] at h1; have h2 := HNN.out; omega
  have HS6 := Lib.hid hs6
  clear hs6 hb6 HRE h0c
  have hp := HP6.out
  have c0 := hp.c0
  have c1 := hp.c1
  have c2 := hp.c2
  have c3 := hp.c3
  have c4 := hp.c4
  have c5 := hp.c5
  have c6 := hp.c6
  have c7 := hp.c7
  have c8 := hp.c8
  clear hp
  have HSH := Lib.hid (shards_any q an n6 cn a6 n6 k6 (Rs.all K M d) w6 (HC.out.below HB6.out) HF.out.ok (HNO.out w6 HB6.out) HS6.out (Nat.le_refl _) (by have := HNN.out; omega) HBG.out)
  unfold Cd.pv at HSH
  go_wp2_with fail
  refine HSH.out.mono ?_
  rintro e w7 ⟨a7, k7, rfl, ha7, hb7⟩
  have HB7 := Lib.hid (HB6.out.trans (hb7.mono HB6.out.size))
  have HX7 := Lib.hid (HX6.out.trans (hb7.mono HX6.out.size))
  have HA7 := Lib.hid ha7
  have HZ7 := Lib.hid hb7.size
  clear c0 c1 c2 c3 c4 c5 c6 c7 c8 ha7 hb7 HSH
  have HDL := Lib.hid (delsh_any g0 a4 nl k4 (Rs.gone K M d G) w5 w6.heap.size a7 n6 k7 (Cd.shs q (Rs.all K M d)) w7 HC0.out HS5.out HX7.out HX6.out.size HZ7.out HA7.out (by
    intro i hi
    have h1 := HIX.out i (by have := HNN.out; omega)
    have h2 := HNL.out
    omega) (by have := HNN.out; omega) (by omega))
  go_wp2_with fail
  refine HDL.out.mono ?_
  rintro e w8 ⟨a8, n8', k8, rfl, ha8, hb8⟩
  rw [← HME.out] at ha8
  have HA8 := Lib.hid (ha8.mono HB6.out.size)
  have HB8 := Lib.hid (HB7.out.trans (hb8.mono HB6.out.size))
  clear ha8 hb8
  go_wp2
  go_ret2
  exact ⟨a8, n8', k8, rfl, HA8.out, HB8.out⟩
set_option maxHeartbeats 8000000 in
theorem mend_lost (q : Cd.Full) (an : Option Addr) (nn cn K M : Nat) (d : List UInt8) (G : List Nat) (al : Option Addr) (nl cl : Nat) (fs : List (List UInt8)) (w : World) (hf : Cd.Fit q K M d.length) (hN : d.length ≤ 2000000) (hl : Bss w al nl cl fs) (hnl : nl = K + M) (hbig : ∀ i, i < nl → (nth fs i).length ≤ 100000000)
    (hnd : G.Nodup) (hb : ∀ g ∈ G, g < K + M) (hF : Cd.Files q K M d G fs) (hG : M < G.length) :
    Calls Tryz.prog 20 #[Cd.pv q an nn cn, .slice al nl cl] w fun e w' => e = .returned (.tuple #[.slice none 0 0, .int .i64 16]) ∧ Below w.heap.size w w' := by
  have hb0 := below_alloc1 w (.cells (Cd.pcells q an nn cn) 31)
  have hp0 := Cd.PAt.new w q an nn cn
  have HGA := Lib.hid fun W (k : Below w.heap.size w W) => gather_any q an nn cn K M d.length al nl cl fs W hf hN (hl.below k) hnl hbig
  have hback := gath_lost hf hN hnd hb hF hG
  rw [hback] at HGA
  clear hf hl hnl hbig hback hF hnd hb
  unfold Cd.pv at HGA
  unfold Cd.pv
  go_enter Tryz.func20, Tryz.ntmps20
  go_upto_region 1 with fail
  unfold Cd.pcells at hb0 hp0
  generalize w.alloc (.cells #[.string (bstr q.bucket), .string (bstr q.key), .int .u64 q.version, .int .u64 q.p.stripe, .int .i64 q.p.K, .int .i64 q.p.M, .int .i64 q.p.size, .int .u32 (n32 q.p.sum), .slice an nn cn] 31) = w1 at *
  have HB1 := Lib.hid hb0
  have hp := hp0
  have c0 := hp.c0
  have c1 := hp.c1
  have c2 := hp.c2
  have c3 := hp.c3
  have c4 := hp.c4
  have c5 := hp.c5
  have c6 := hp.c6
  have c7 := hp.c7
  have c8 := hp.c8
  clear hp hp0 hb0
  go_wp2_with fail
  refine (HGA.out w1 HB1.out).mono ?_
  rintro e w2 ⟨⟨a2, n2, k2, rfl, _⟩, hb2⟩
  have HB2 := Lib.hid (HB1.out.trans (hb2.mono HB1.out.size))
  clear c0 c1 c2 c3 c4 c5 c6 c7 c8 hb2 HGA
  go_wp2
  go_ret2
  exact ⟨rfl, HB2.out⟩
end Go.Proofs.YtfgifndpglgjkaaGreatDoor
end

section
set_option maxRecDepth 100000
set_option linter.unusedVariables false
set_option linter.unusedSimpArgs false
namespace Go.Proofs.YtfgifndpglgjkaaGreatDoor

theorem file_pos (p : Cd.Ptr) (i : Int) (s : List UInt8) : 4 ≤ (Cd.file p i s).length := by
  unfold Cd.file Codec.frame
  have h3 : (Codec.four (Codec.sum (Cd.head p i ++ Cd.lp s))).length = 4 := rfl
  simp only [List.length_append, h3]
  omega
/-- All files of a stripe. -/
def Cd.fls (q : Cd.Full) (K M : Nat) (d : List UInt8) (k : Nat) : List (List UInt8) := (List.range k).map fun (i : Nat) => Cd.file q.p (i : Int) (nth (Rs.all K M d) i)
theorem fls_next (q : Cd.Full) (K M : Nat) (d : List UInt8) (k : Nat) : Cd.fls q K M d (k + 1) = Cd.fls q K M d k ++ [Cd.file q.p (k : Int) (nth (Rs.all K M d) k)] := by
  unfold Cd.fls
  rw [List.range_succ, List.map_append]
  rfl
theorem fls_at {q : Cd.Full} {K M : Nat} {d : List UInt8} {k i : Nat} (h : i < k) : nth (Cd.fls q K M d k) i = Cd.file q.p (i : Int) (nth (Rs.all K M d) i) := nth_map_range _ h
theorem Cd.Files.start (q : Cd.Full) (K M : Nat) (d : List UInt8) : Cd.Files q K M d [] (Cd.fls q K M d (K + M)) :=
  ⟨by simp [Cd.fls], fun i _ h => (by cases h), fun i hi _ => fls_at hi⟩
section
variable {q : Cd.Full} {K M : Nat} {d : List UInt8} {G : List Nat} {fs : List (List UInt8)}
theorem Cd.Files.put (h : Cd.Files q K M d G fs) {x : Nat} (hx : x < K + M) {f : List UInt8} (hf : (Cd.rd q.p (Rs.wd K d.length) x f).1 = []) : Cd.Files q K M d (G ++ [x]) (fs.set x f) := by
  have hl := h.len
  refine ⟨by rw [List.length_set]; exact hl, fun i hi hm => ?_, fun i hi hm => ?_⟩
  · rw [nth_set (by omega) (by omega)]
    by_cases e : i = x
    · rw [if_pos e, e]; exact hf
    · rw [if_neg e]
      refine h.bad i hi ?_
      rcases List.mem_append.1 hm with h1 | h1
      · exact h1
      · exact absurd (List.mem_singleton.1 h1) e
  · have hn : i ∉ G ∧ i ≠ x := ⟨fun h1 => hm (List.mem_append.2 (.inl h1)), fun h1 => hm (List.mem_append.2 (.inr (List.mem_singleton.2 h1)))⟩
    rw [nth_set (by omega) (by omega), if_neg hn.2]
    exact h.good i hi hn.1
theorem Cd.Files.nil (h : Cd.Files q K M d G fs) {x : Nat} (hx : x < K + M) : Cd.Files q K M d (G ++ [x]) (fs.set x []) := h.put hx (Cd.rd_nil _ _ _).1
theorem Cd.Files.turn (h : Cd.Files q K M d G fs) {x k : Nat} {v : UInt8} (hx : x < K + M) (hg : x ∉ G) (hk : k < (nth fs x).length) (hv : v ≠ (nth fs x)[k]) : Cd.Files q K M d (G ++ [x]) (fs.set x ((nth fs x).set k v)) := by
  have hg := h.good x hx hg
  refine h.put hx ?_
  have h1 : ∀ (f : List UInt8) (hf : f = Cd.file q.p (x : Int) (nth (Rs.all K M d) x)) (hk : k < f.length) (hv : v ≠ f[k]), (Cd.rd q.p (Rs.wd K d.length) x (f.set k v)).1 = [] := by
    intro f hf hk hv
    subst hf
    exact (Cd.rd_turned hk hv).1
  exact h1 _ hg hk hv
theorem nodup_more (h : G.Nodup) {x : Nat} (hx : x ∉ G) : (G ++ [x]).Nodup := by
  rw [List.nodup_append]
  refine ⟨h, by simp, fun a ha b hb e => ?_⟩
  rw [List.mem_singleton] at hb
  subst hb e
  exact hx ha
theorem pd_in (hK : 1 ≤ K) {i : Nat} (hi : i < K + M) : (!Cd.pd (Rs.gone K M d G) (Cd.sh q (Rs.all K M d) i)) = decide (i ∈ G) := by
  have e : (Cd.sh q (Rs.all K M d) i).index = i := rfl
  unfold Cd.pd
  rw [e, gone_at hi]
  by_cases hm : i ∈ G
  · rw [if_pos hm, decide_eq_true hm]; rfl
  · rw [if_neg hm, decide_eq_false hm, all_len hi, decide_eq_true (show 0 < Rs.wd K d.length from wd_pos K d.length)]; rfl
theorem mended_eq (hK : 1 ≤ K) : Cd.mended q K M d G = ((List.range (K + M)).filter (fun i => decide (i ∈ G))).map (Cd.sh q (Rs.all K M d)) := by
  unfold Cd.mended Cd.shs
  rw [rall_len, List.filter_map]
  congr 1
  apply List.filter_congr
  intro i hi
  exact pd_in hK (List.mem_range.1 hi)
theorem filter_in {n : Nat} (hn : G.Nodup) (hb : ∀ g ∈ G, g < n) : ((List.range n).filter (fun i => decide (i ∈ G))).length = G.length := by
  apply List.Perm.length_eq
  rw [List.perm_ext_iff_of_nodup (List.Pairwise.filter _ List.nodup_range) hn]
  intro a
  simp only [List.mem_filter, List.mem_range, decide_eq_true_eq]
  exact ⟨fun h => h.2, fun h => ⟨hb a h, h⟩⟩
theorem mended_len (hK : 1 ≤ K) (hn : G.Nodup) (hb : ∀ g ∈ G, g < K + M) : (Cd.mended q K M d G).length = G.length := by
  rw [mended_eq hK, List.length_map, filter_in hn hb]
theorem mended_at (hK : 1 ≤ K) {i : Nat} (hi : i < (Cd.mended q K M d G).length) : ∃ j, j < K + M ∧ j ∈ G ∧ nth (Cd.mended q K M d G) i = Cd.sh q (Rs.all K M d) j := by
  have h1 : nth (Cd.mended q K M d G) i ∈ Cd.mended q K M d G := by rw [nth_eq _ hi]; exact List.getElem_mem _
  rw [mended_eq hK] at h1
  obtain ⟨j, hj, e⟩ := List.mem_map.1 h1
  rw [List.mem_filter, List.mem_range, decide_eq_true_eq] at hj
  exact ⟨j, hj.1, hj.2, by rw [mended_eq hK]; exact e.symm⟩
end
end Go.Proofs.YtfgifndpglgjkaaGreatDoor
end

section
set_option maxRecDepth 100000
set_option linter.unusedVariables false
set_option linter.unusedSimpArgs false
namespace Go.Proofs.YtfgifndpglgjkaaGreatDoor
open Go.RowKit

def FIn (w : World) (cs : List Value) (bl : Nat → Nat) (i : Nat) (f : List UInt8) : Prop :=
  (∃ cf, cs[i]? = some (.slice (some ⟨bl i, 0, none⟩) f.length cf) ∧ Own w 0 (some ⟨bl i, 0, none⟩) f.length cf f) ∨ (f = [] ∧ cs[i]? = some (.slice none 0 0))
/-- Rows of bytes, each in a block of its own. -/
structure FRow (w : World) (B : Nat) (a : Option Addr) (n c : Nat) (bl : Nat → Nat) (fs : List (List UInt8)) : Prop where
  len : fs.length = n
  row : ∃ cs, w.ownsRow B 25 1 (.slice a n c) n cs ∧ ∀ i, i < n → FIn w cs bl i (nth fs i)
  lo : ∀ i, i < n → B ≤ bl i
  hi : ∀ i, i < n → bl i < w.heap.size
  apart : ∀ i j, i < n → j < n → bl i = bl j → i = j
theorem FRow.nil (w : World) (B : Nat) (bl : Nat → Nat) : FRow w B none 0 0 bl [] := ⟨rfl, ⟨[], World.ownsRow_nil w B _ _, fun i hi => by omega⟩, fun i hi => by omega, fun i hi => by omega, fun i j hi => by omega⟩
section
variable {w w' : World} {B n c : Nat} {a : Option Addr} {bl : Nat → Nat} {fs : List (List UInt8)}
theorem FRow.below (h : FRow w B a n c bl fs) (hb : Below w.heap.size w w') : FRow w' B a n c bl fs := by
  obtain ⟨cs, h1, h2⟩ := h.row
  refine ⟨h.len, ⟨cs, own_below h1 hb, fun i hi => ?_⟩, h.lo, fun i hi => Nat.lt_of_lt_of_le (h.hi i hi) hb.size, h.apart⟩
  rcases h2 i hi with ⟨cf, g1, g2⟩ | g
  · exact .inl ⟨cf, g1, own_below g2 hb⟩
  · exact .inr g
theorem FRow.le (h : FRow w B a n c bl fs) : n ≤ c ∧ c ≤ maxLen := by
  obtain ⟨cs, h1, _⟩ := h.row
  exact (own_cap h1).2
/-- A file's cell; its bytes. -/
theorem FRow.at (h : FRow w B a n c bl fs) {i : Nat} (hi : i < n) : ∃ g, a = some ⟨g, 0, none⟩ ∧ B ≤ g ∧ g < w.heap.size ∧ (∀ q, w.frozen? ⟨g, q, none⟩ = false) ∧
    ((∃ cf, w.cell? ⟨g, i, none⟩ = some (.slice (some ⟨bl i, 0, none⟩) (nth fs i).length cf) ∧ Own w 0 (some ⟨bl i, 0, none⟩) (nth fs i).length cf (nth fs i)) ∨ (nth fs i = [] ∧ w.cell? ⟨g, i, none⟩ = some (.slice none 0 0))) := by
  obtain ⟨cs, h1, h2⟩ := h.row
  obtain ⟨g, rfl, hg, hgs⟩ := own_form h1 (by omega)
  have hr := Row.of_own h1
  refine ⟨g, rfl, hg, hgs, (own_spare h1).2, ?_⟩
  rcases h2 i hi with ⟨cf, g1, g2⟩ | ⟨g1, g2⟩
  · obtain ⟨b, off, e, hc⟩ := hr _ _ g1
    cases e
    exact .inl ⟨cf, by rw [← hc, Nat.zero_add], g2⟩
  · obtain ⟨b, off, e, hc⟩ := hr _ _ g2
    cases e
    exact .inr ⟨g1, by rw [← hc, Nat.zero_add]⟩
theorem FRow.bss (h : FRow w B a n c bl fs) : Bss w a n c fs := by
  have hle := h.le
  refine ⟨h.len, hle.1, hle.2, fun i hi => ?_⟩
  obtain ⟨g, rfl, _, _, _, h1⟩ := h.at hi
  rcases h1 with ⟨cf, g1, g2⟩ | ⟨g1, g2⟩
  · exact ⟨g, 0, _, _, cf, rfl, by rw [Nat.zero_add]; exact g1, g2.bs⟩
  · exact ⟨g, 0, none, 0, 0, rfl, by rw [Nat.zero_add]; exact g2, by rw [g1]; exact Bs.nil w⟩
theorem FRow.mono {B' : Nat} (h : FRow w B a n c bl fs) (hB : B' ≤ B) : FRow w B' a n c bl fs := by
  obtain ⟨cs, h1, h2⟩ := h.row
  exact ⟨h.len, ⟨cs, own_mono h1 hB, h2⟩, fun i hi => Nat.le_trans hB (h.lo i hi), h.hi, h.apart⟩
/-- One more. -/
theorem FRow.snoc {cs : List Value} {a' : Option Addr} {c' b cf : Nat} {f : List UInt8} (h : FRow w B a n c bl fs) (h1 : w.ownsRow B 25 1 (.slice a n c) n cs) (h2 : ∀ i, i < n → FIn w cs bl i (nth fs i))
    (hf : Own w 0 (some ⟨b, 0, none⟩) f.length cf f) (hbB : B ≤ b) (hbs : b < w.heap.size) (hnew : ∀ i, i < n → bl i ≠ b)
    (g1 : w'.ownsRow B 25 1 (.slice a' (n + 1) c') (n + 1) (cs ++ [.slice (some ⟨b, 0, none⟩) f.length cf])) (hev : Evol w a w' a') (hsz : w.heap.size ≤ w'.heap.size) :
    FRow w' B a' (n + 1) c' (fun i => if i = n then b else bl i) (fs ++ [f]) := by
  have hl := h.len
  have hcl : cs.length = n := by have := h1.1; omega
  refine ⟨by simp [hl], ⟨_, g1, fun i hi => ?_⟩, fun i hi => ?_, fun i hi => ?_, fun i j hi hj e => ?_⟩
  · by_cases ei : i = n
    · subst ei
      have e1 : nth (fs ++ [f]) i = f := by rw [nth_eq _ (by simp; omega)]; simp [hl]
      rw [e1]
      refine .inl ⟨cf, ?_, ?_⟩
      · dsimp only; rw [if_pos rfl, List.getElem?_append_right (by omega), hcl, Nat.sub_self]; rfl
      · dsimp only; rw [if_pos rfl]; exact town_evol hf h1 (by decide) hev
    · have e1 : nth (fs ++ [f]) i = nth fs i := nth_append_left _ _ (by omega)
      rw [e1]
      rcases h2 i (by omega) with ⟨cf', k1, k2⟩ | ⟨k1, k2⟩
      · refine .inl ⟨cf', ?_, ?_⟩
        · dsimp only; rw [if_neg ei, List.getElem?_append_left (by omega)]; exact k1
        · dsimp only; rw [if_neg ei]; exact town_evol k2 h1 (by decide) hev
      · exact .inr ⟨k1, by rw [List.getElem?_append_left (by omega)]; exact k2⟩
  · split
    · exact hbB
    · exact h.lo i (by omega)
  · split
    · omega
    · have := h.hi i (by omega); omega
  · by_cases ei : i = n
    · by_cases ej : j = n
      · omega
      · rw [if_pos ei, if_neg ej] at e
        exact absurd e.symm (hnew j (by omega))
    · by_cases ej : j = n
      · rw [if_neg ei, if_pos ej] at e
        exact absurd e (hnew i (by omega))
      · rw [if_neg ei, if_neg ej] at e
        exact h.apart i j (by omega) (by omega) e
/-- A file is given up. -/
theorem FRow.setNil {g x : Nat} (h : FRow w B (some ⟨g, 0, none⟩) n c bl fs) (hx : x < n) : FRow (w.setCell ⟨g, x, none⟩ (.slice none 0 0)) B (some ⟨g, 0, none⟩) n c bl (fs.set x []) := by
  obtain ⟨cs, h1, h2⟩ := h.row
  have hl := h.len
  have hcl : cs.length = n := by have := h1.1; omega
  have hot := (Oth.refl (some (⟨g, 0, none⟩ : Addr)) w).set (p := ⟨g, x, none⟩) rfl rfl (.slice none 0 0)
  refine ⟨by simp [hl], ⟨_, own_set h1 x (.slice none 0 0), fun i hi => ?_⟩, h.lo, fun i hi => by rw [World.size_setCell]; exact h.hi i hi, h.apart⟩
  by_cases ei : i = x
  · subst ei
    refine .inr ⟨?_, ?_⟩
    · rw [nth_eq _ (by simp; omega)]; simp
    · rw [List.getElem?_set_self (by omega)]
  · have e1 : nth (fs.set x []) i = nth fs i := by
      rw [nth_eq _ (by simp; omega), nth_eq _ (by omega), List.getElem_set_ne (fun h => ei h.symm)]
    rw [e1]
    rcases h2 i hi with ⟨cf, k1, k2⟩ | ⟨k1, k2⟩
    · exact .inl ⟨cf, by rw [List.getElem?_set_ne (fun h => ei h.symm)]; exact k1, own_other k2 h1 (by decide) hot rfl⟩
    · exact .inr ⟨k1, by rw [List.getElem?_set_ne (fun h => ei h.symm)]; exact k2⟩
theorem vs_set (l : List UInt8) (k : Nat) (v : UInt8) : vs (l.set k v) = (vs l).set k (.int .u8 (n8 v)) := by
  unfold vs
  rw [List.map_set]
/-- A byte of a file is another one. -/
theorem FRow.turn {x k : Nat} {v : UInt8} (h : FRow w B a n c bl fs) (hx : x < n) (hk : k < (nth fs x).length) : FRow (w.setCell ⟨bl x, k, none⟩ (.int .u8 (n8 v))) B a n c bl (fs.set x ((nth fs x).set k v)) := by
  obtain ⟨cs, h1, h2⟩ := h.row
  have hl := h.len
  have hot := (Oth.refl (some (⟨bl x, 0, none⟩ : Addr)) w).set (p := ⟨bl x, k, none⟩) rfl rfl (.int .u8 (n8 v))
  obtain ⟨cx, y1, y2⟩ : ∃ cf, cs[x]? = some (.slice (some ⟨bl x, 0, none⟩) (nth fs x).length cf) ∧ Own w 0 (some ⟨bl x, 0, none⟩) (nth fs x).length cf (nth fs x) := by
    rcases h2 x hx with g | ⟨g, _⟩
    · exact g
    · rw [g] at hk; simp at hk
  refine ⟨by simp [hl], ⟨cs, own_other h1 y2 (by decide) hot rfl, fun i hi => ?_⟩, h.lo, fun i hi => by rw [World.size_setCell]; exact h.hi i hi, h.apart⟩
  by_cases ei : i = x
  · subst ei
    have e1 : nth (fs.set i ((nth fs i).set k v)) i = (nth fs i).set k v := by rw [nth_set (by omega) (by omega), if_pos rfl]
    rw [e1]
    refine .inl ⟨cx, by rw [List.length_set]; exact y1, ?_⟩
    have h9 := own_set y2 k (.int .u8 (n8 v))
    rw [← vs_set] at h9
    rw [List.length_set]
    exact h9
  · have e1 : nth (fs.set x ((nth fs x).set k v)) i = nth fs i := by rw [nth_set (by omega) (by omega), if_neg ei]
    rw [e1]
    rcases h2 i hi with ⟨cf, k1, k2⟩ | ⟨k1, k2⟩
    · exact .inl ⟨cf, k1, own_oth k2 hot (fun y z hy hz e => by cases hy; cases hz; exact ei (h.apart i x hi hx e.symm))⟩
    · exact .inr ⟨k1, k2⟩
end
section
variable {w : World} {ops : Array Oper} {rest : List Oper} {o : Oper} {A : Act} {Q : Exit → Act → World → Prop}
/-- append of one file. -/
theorem app_f (hgd : Region.wanted o (yielded ops A.tmps) = true) (s x : Operand) (ho : o.op = .call { callee := .builtin .append, args := #[s, x], argTypes := #[53, 53] })
    (B : Nat) {a : Option Addr} {n c : Nat} {bl : Nat → Nat} {fs : List (List UInt8)} (hs : A.eval s = .slice a n c) (hacc : FRow w B a n c bl fs)
    {k b cf : Nat} {f : List UInt8} (hx : A.eval x = .slice (some ⟨k, 0, none⟩) 1 1) (hcell : w.cell? ⟨k, 0, none⟩ = some (.slice (some ⟨b, 0, none⟩) f.length cf)) (hf : Own w 0 (some ⟨b, 0, none⟩) f.length cf f) (hbB : B ≤ b) (hbs : b < w.heap.size) (hnew : ∀ i, i < n → bl i ≠ b) (hb : n ≤ 1000000000) (hB : B ≤ w.heap.size)
    (h : ∀ a' c' w', FRow w' B a' (n + 1) c' (fun i => if i = n then b else bl i) (fs ++ [f]) → Below B w w' → wpList Tryz.prog ops Q rest (A.put o.dst (.slice a' (n + 1) c')) w') : wpList Tryz.prog ops Q (o :: rest) A w := by
  obtain ⟨i, hi, h0, h1, h2⟩ := info_parts infoL
  obtain ⟨cs, hown, hin⟩ := hacc.row
  have hr : Row w (some ⟨k, 0, none⟩) [.slice (some ⟨b, 0, none⟩) f.length cf] := fun j v hj => by
    cases j with
    | zero => simp at hj; subst hj; exact ⟨k, 0, rfl, hcell⟩
    | succ j => simp at hj
  refine wpList_app_own hgd s x 53 ho B 25 i (.slice none 0 0) 1 24 Tryz.underlying53 hi h0 h1 h2 rfl (by decide) a n c cs hs hown (some ⟨k, 0, none⟩) 1 1 [.slice (some ⟨b, 0, none⟩) f.length cf] hx hr rfl (fun v hv => by simp at hv; subst hv; rfl) (by omega) (by simp only [maxLen]; omega) hB ?_
  intro a' c' w' g1 g2
  have hbw : Below B w w' := g2.below hB (fun x hx => by subst hx; exact (World.ownsRow.lt hown x.block rfl).1)
  exact h a' c' w' (hacc.snoc hown hin hf hbB hbs hnew g1 g2 hbw.size) hbw
end
end Go.Proofs.YtfgifndpglgjkaaGreatDoor
end
