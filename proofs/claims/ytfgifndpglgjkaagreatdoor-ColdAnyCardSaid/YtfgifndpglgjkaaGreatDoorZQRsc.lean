/- rs: Split. -/
import Derived.Test.YtfgifndpglgjkaaGreatDoorZQRsb
import Derived.Lib.SlBytesConst
set_option linter.unusedVariables false
set_option linter.unusedSimpArgs false
section
set_option linter.unusedVariables false
set_option linter.unusedSimpArgs false
set_option maxRecDepth 100000
set_option linter.unusedVariables false
namespace Go.Proofs.YtfgifndpglgjkaaGreatDoor
open Go.RowKit Go.Deep

def Rs.wd (k n : Nat) : Nat := max 1 ((n + k - 1) / k)
def Rs.spl (W : Nat) (d : List UInt8) (i j : Nat) : UInt8 := nth d (i * W + j)
def Rs.split (k : Nat) (d : List UInt8) : List (List UInt8) := mat k (Rs.wd k d.length) (Rs.spl (Rs.wd k d.length) d)
theorem wd_pos (k n : Nat) : 1 ≤ Rs.wd k n := by unfold Rs.wd; omega
theorem wd_le {k n : Nat} (hk : 1 ≤ k) : n ≤ k * Rs.wd k n := by
  unfold Rs.wd
  have h1 := Nat.div_add_mod (n + k - 1) k
  have h2 := Nat.mod_lt (n + k - 1) (show 0 < k by omega)
  have h3 : k * ((n + k - 1) / k) ≤ k * max 1 ((n + k - 1) / k) := Nat.mul_le_mul_left _ (by omega)
  omega
theorem wd_few {k n : Nat} (hk : 1 ≤ k) : k * Rs.wd k n ≤ n + k := by
  unfold Rs.wd
  have h1 := Nat.div_add_mod (n + k - 1) k
  by_cases h : 1 ≤ (n + k - 1) / k
  · rw [show max 1 ((n + k - 1) / k) = (n + k - 1) / k by omega]; omega
  · rw [show max 1 ((n + k - 1) / k) = 1 by omega]; omega
theorem new_row' {w w3 : World} {B : Nat} {a a3 : Option Addr} {n c C c3 : Nat} {bl cp : Nat → Nat} {Z : Nat → Nat → UInt8} {l : List UInt8} (hm : Mo w B a n c C bl cp Z) (hB : B ≤ w.heap.size) (hC : 0 < C)
    (h3 : Own w3 w.heap.size a3 C c3 l) (hb : Below w.heap.size w w3) (hl : ∀ j, j < C → nth l j = Z n j) : ∃ g3, a3 = some ⟨g3, 0, none⟩ ∧ NewRow w w3 B a n c C bl cp Z g3 c3 := by
  obtain ⟨g3, rfl, h4, h5, h6⟩ := own_rowTo h3 hC
  refine ⟨g3, rfl, hb, h4, h5, (hm.below hb).below (below_alloc w3 _), (h6.congr (fun j hj => by rw [hl j hj])).below (below_alloc w3 _), box_new w3 _ _, fun x hx e => ?_, fun i hi e => ?_⟩
  · have := (hm.own.new x hx).2; omega
  · have := (hm.row i hi).2.2.lt; omega
theorem Mo.mono {w : World} {B B' n c C : Nat} {a : Option Addr} {bl cp : Nat → Nat} {Z : Nat → Nat → UInt8} (h : Mo w B a n c C bl cp Z) (hB : B' ≤ B) : Mo w B' a n c C bl cp Z :=
  ⟨own_mono h.own hB, fun i hi => ⟨Nat.le_trans hB (h.row i hi).1, (h.row i hi).2⟩, h.cap, h.apart⟩

set_option maxHeartbeats 400000 in
theorem rsclone_any (a : Option Addr) (n c : Nat) (l : List UInt8) (w : World) (h : Bs w a n c l) (hf : n ≤ 1000000000) :
    Calls Tryz.prog 78 #[.slice a n c] w (RetB w w.heap.size l) := by
  have hq := fun (w : World) => Lib.run_eql_slice_nil (P := Tryz.prog) w 25 5 a n c 0 0 Tryz.underlying25
  cases a with
  | none =>
    go_enter Tryz.func78, Tryz.ntmps78
    go_wp2
    go_ret
    have hl : l = [] := by
      cases l with
      | nil => rfl
      | cons b l => obtain ⟨_, _, h1, _⟩ := h.2.2.2 0 _ rfl; cases h1
    subst hl
    exact ⟨_, _, _, rfl, Own.nil _ _, Below.refl _ _⟩
  | some ad =>
    go_enter Tryz.func78, Tryz.ntmps78
    go_wp2_with (at_builtin; refine app_own rfl _ _ rfl w.heap.size rfl (Own.lit w w.heap.size [] (Nat.le_refl _) (by simp [maxLen])) rfl (h.below ((Below.refl _ _).alloc (Nat.le_refl _) _)) (by simp; omega) (le_alloc (Nat.le_refl _)) ?_; intro a'' c'' w' h1 h2 _)
    go_ret
    exact ⟨_, _, _, rfl, by simpa using h1, ((Below.refl _ _).alloc (Nat.le_refl _) _).trans h2⟩


/-- copy of a row's bytes to the head of a row of noughts. -/
theorem copy_pad {w : World} {g T nd cd : Nat} {ad : Option Addr} {d : List UInt8} (hg : rowTo w g 5 T (fun _ => .int .u8 0)) (hd : Bs w ad nd cd d) (hT : nd ≤ T) :
    ∃ w', (∀ ty, (Builtin.copy_ #[25, 25] ty #[.slice (some ⟨g, 0, none⟩) T T, .slice ad nd cd]).run Tryz.prog w = .ok (.int .i64 nd) w') ∧ Onl w w' (· = g) ∧ rowTo w' g 5 T (fun j => .int .u8 (n8 (nth d j))) := by
  have hsz : (Tryz.prog.info? 5).map (·.size) = some 1 := by obtain ⟨i, hi, _, h1, _⟩ := info_parts info8; simp [hi, h1]
  by_cases h0 : nd = 0
  · subst h0
    refine ⟨w, fun ty => ?_, Onl.refl _ _, hg.congr (fun j _ => ?_)⟩
    · have := run_copy_none (P := Tryz.prog) w 25 25 ty 5 (some ⟨g, 0, none⟩) ad T T 0 cd Tryz.underlying25 hsz (by simp)
      simpa [goInt] using this
    · have : d = [] := List.eq_nil_of_length_eq_zero hd.1
      subst this; rfl
  · obtain ⟨c, hb, hn, hc⟩ := hg
    obtain ⟨ba, oa, rfl, _⟩ := hd.byte (i := 0) (by omega)
    have hl := hd.1
    have hsrc : ∀ (j : Nat) v, (vs d)[j]? = some v → w.cell? ((⟨ba, oa, none⟩ : Addr).add j) = some v := fun j v hv => by
      obtain ⟨b', o', e1, e2⟩ := hd.2.2.2 j v hv
      cases e1
      rw [Addr.add_lit]; exact e2
    have hlen : (vs d).length = nd := by rw [vs_len, hl]
    refine ⟨w.setRow g (c.toList.take 0 ++ vs d ++ c.toList.drop (0 + (vs d).length)).toArray, fun ty => ?_, ⟨rfl, rfl, rfl, by simp [World.setRow], fun k _ hk => setRow_other w g k _ hk⟩, ?_⟩
    · have := run_copy_row (P := Tryz.prog) w 25 25 ty 5 g 0 T T ⟨ba, oa, none⟩ nd cd c 5 (vs d) Tryz.underlying25 hsz hb (by rw [hlen]; simp [Nat.min_def]; omega) hsrc (by omega) (vs_one d)
      rw [this, hlen]; rfl
    · refine ⟨_, setRow_heap w g c _ _ _ hb, by simp [vs_len]; omega, fun j hj => ?_⟩
      simp only [List.take_zero, List.nil_append, Nat.zero_add, List.getElem?_toArray, List.getElem?_append]
      by_cases e : j < nd
      · rw [if_pos (by omega)]
        simp [vs, nth_eq d (show j < d.length by omega), show j < d.length by omega]
      · rw [if_neg (by omega), List.getElem?_drop, hlen, show nd + (j - nd) = j by omega]
        have := hc j hj
        rw [Array.getElem?_toList, this]
        unfold nth
        rw [List.getD_eq_getElem?_getD, List.getElem?_eq_none (by omega)]
        rfl
/-- What Split tells: shards in memory of the call's own. -/
def MoP (n C : Nat) (Z : Nat → Nat → UInt8) (w : World) (e : Ending) (w' : World) : Prop :=
  (∃ a c bl cp, e = .returned (.slice a n c) ∧ Mo w' w.heap.size a n c C bl cp Z) ∧ Below w.heap.size w w'

set_option maxHeartbeats 4000000 in
theorem split_any (b K M : Nat) (ad : Option Addr) (nd cd : Nat) (d : List UInt8) (w : World) (hc : Cod w b K M) (hd : Bs w ad nd cd d) (h1 : 1 ≤ K) (h2 : K ≤ 255) (h3 : nd ≤ 100000000) :
    Calls Tryz.prog 73 #[.pointer (some ⟨b, 0, none⟩), .slice ad nd cd] w (MoP K (Rs.wd K nd) (Rs.spl (Rs.wd K nd) d) w) := by
  have hk := hc.k
  have HD : Hid (∀ W, Below w.heap.size w W → Bs W ad nd cd d) := Lib.hid fun W h => hd.below h
  have HK : Hid (∀ W, Below w.heap.size w W → W.cell? ⟨b, 0, none⟩ = some (.int .i64 K)) := Lib.hid fun W h => cell_later h hk
  have HN := Lib.hid hd.1
  clear hc hd
  obtain ⟨W, hW⟩ : ∃ W, Rs.wd K nd = W := ⟨_, rfl⟩
  rw [hW]
  have w1 := wd_pos K nd
  have w2 := wd_le (n := nd) h1
  have w3 := wd_few (n := nd) h1
  obtain ⟨D, hD⟩ : ∃ D, (nd + K - 1) / K = D := ⟨_, rfl⟩
  have hWD : W = max 1 D := by rw [← hW, ← hD]; rfl
  rw [hW] at w1 w2 w3
  go_enter Tryz.func73, Tryz.ntmps73
  go_wp2_with fail
  refine wp_region_class (w0 := w) (by kernel_rfl) (by kernel_rfl) (Below.refl _ _) ?_
  have l1 := BW.cell hk
  repeat (first | go_big_quiet_step (fail))
  have e5 : (if (1 : Int) < ((nd : Int) + K - 1) / K then ((nd : Int) + K - 1) / K else 1) = (W : Int) := by
    have : ((nd : Int) + K - 1) / K = (D : Int) := by rw [← hD]; simp; congr 1; omega
    rw [this, hWD]
    split <;> omega
  rw [e5]
  refine wpQuiet_nil ?_
  intro wa hba; replace hba := BW.of hba
  clear l1 e5 hWD hD D
  have k1 := cell_later hba hk
  have e2 : (K : Int) * (W : Int) = ((K * W : Nat) : Int) := by simp
  obtain ⟨T, hT⟩ : ∃ T, K * W = T := ⟨_, rfl⟩
  rw [hT] at e2 w2 w3
  have hT9 : T ≤ 200000000 := by omega
  have hmk := run_make_row' (P := Tryz.prog) 25 5 (.int .u8 0) 1 Tryz.underlying25 info8 rfl .i64 .i64 T (by omega) (by omega)
  obtain ⟨wc, hcp, ho, hrow⟩ := copy_pad (rowTo.of_is (World.rowIs_made wa (.int .u8 0) T 5)) ((HD.out wa hba).below (below_alloc wa (.cells (madeCells #[.int .u8 0] T) 5))) (show nd ≤ T from w2)
  have hbc : Below wa.heap.size wa wc := (below_alloc wa _).trans (ho.below (by simp) (fun k hk => by subst hk; simp))
  have hbw : Below w.heap.size w wc := hba.trans (hbc.mono hba.size)
  have k2 := cell_later hbw hk
  have HROW := Lib.hid hrow
  have HBW := Lib.hid hbw
  clear hrow ho hbc hbw hba HD hk
  go_wp2
  clear hcp hmk k1 k2
  generalize hga : wa.heap.size = ga at *
  go_loopw [7, 37] (fun m i wr => ∃ (k c : Nat) (a : Option Addr) (bl cp : Nat → Nat), k ≤ K ∧ i = .int .i64 k ∧ m = .slice a k c ∧ Below wc.heap.size wc wr ∧ Mo wr wc.heap.size a k c W bl cp (Rs.spl W d)) (fun _ i _ => K - (intOf i).toNat)
  case atStart => exact ⟨0, 0, none, id, id, Nat.zero_le _, rfl, rfl, Below.refl _ _, Mo.nil _ _ _ _ _ _⟩
  case round =>
    obtain ⟨k, c, a, bl, cp, hk, rfl, rfl, hb, hm⟩ := hrel
    by_cases hlt : k < K
    · have m1 : (k : Int) * (W : Int) = ((k * W : Nat) : Int) := by simp
      have m2 : ((k : Int) + 1) * (W : Int) = (((k + 1) * W : Nat) : Int) := by simp
      have m3 : (k + 1) * W ≤ K * W := Nat.mul_le_mul_right _ hlt
      have m4 : k * W + W = (k + 1) * W := by rw [Nat.add_mul, Nat.one_mul]
      obtain ⟨X, hX⟩ : ∃ X, k * W = X := ⟨_, rfl⟩
      obtain ⟨Y, hY⟩ : ∃ Y, (k + 1) * W = Y := ⟨_, rfl⟩
      rw [hX] at m1 m4
      rw [hY] at m2 m3 m4
      rw [hT] at m3
      have hsl := slice_lh (some ⟨ga, 0, none⟩) T T (lo := (X : Int)) (hi := (Y : Int)) (lo' := X) (hi' := Y) rfl rfl (by omega) m3
      rw [show Y - X = W by omega] at hsl
      have hall : Bs wr (some ⟨ga, 0, none⟩) T T ((List.range T).map (nth d)) := bs_row (HROW.out.below hb) (by simp only [maxLen]; omega)
      have hpart : Bs wr (subA (some ⟨ga, 0, none⟩) T X) W (T - X) (((List.range T).map (nth d)).drop X |>.take W) := by
        have := hall.sub (lo := X) (hi := Y) (by omega) m3
        rwa [show Y - X = W by omega] at this
      have hel : ∀ j, j < W → nth (((List.range T).map (nth d)).drop X |>.take W) j = Rs.spl W d k j := fun j hj => by
        rw [nth_take _ hj (by simp; omega), nth_drop _ (by simp; omega), nth_eq _ (by simp; omega)]
        simp [Rs.spl, hX]
      have HPART := Lib.hid hpart
      have HEL := Lib.hid hel
      have HM := Lib.hid hm
      have HB := Lib.hid hb
      have hwz := hb.size
      clear hpart hel hm hb hall
      go_wp2_with fail
      refine (rsclone_any _ _ _ _ _ HPART.out (by omega)).mono ?_
      rintro e w9 ⟨a9, n9, c9, rfl, h9, hb9⟩
      obtain rfl : n9 = W := by have := h9.bs.1; simp at this; omega
      obtain ⟨g9, rfl, hnr⟩ := new_row' HM.out hwz (by omega) h9 hb9 HEL.out
      have HNR := Lib.hid hnr
      clear h9 hb9 hnr HPART HEL hsl m1 m2 m3 m4
      go_wp2_with (at_builtin; refine app_mo rfl _ _ rfl wc.heap.size rfl HNR.out.mo rfl HNR.out.cell HNR.out.cap HNR.out.row (by have := HNR.out.le; omega) HNR.out.ne.1 HNR.out.ne.2 (by omega) (by have := HNR.out.below.size; simp; omega) ?_; intro a' c' w' bl' cp' hm' hb')
      have hb10 : Below wc.heap.size wc w' := (HB.out.trans (HNR.out.below.mono hwz)).trans (((below_alloc w9 _).mono (Nat.le_trans hwz HNR.out.below.size)).trans hb')
      clear HM HB HNR
      go_wp2
      go_roundw
      case rel => exact ⟨k + 1, c', a', bl', cp', by omega, by go_num, rfl, hb10, hm'⟩
      case measure => simp [intOf]; omega
    · obtain rfl : k = K := by omega
      have HM := Lib.hid hm
      have HB := Lib.hid (HBW.out.trans (hb.mono HBW.out.size))
      clear hm hb
      go_wp2
      go_ret
      exact ⟨⟨_, _, _, _, rfl, HM.out.mono HBW.out.size⟩, HB.out⟩
end Go.Proofs.YtfgifndpglgjkaaGreatDoor

/- rs: Parity. -/
set_option maxRecDepth 100000
set_option linter.unusedVariables false
namespace Go.Proofs.YtfgifndpglgjkaaGreatDoor
open Go.RowKit Go.Deep

def Rs.parOk (K : Nat) (ls : List (List UInt8)) : Bool := (Rs.alk K ls).isSome && Rs.full ls
def Rs.par (K M : Nat) (ls : List (List UInt8)) : List (List UInt8) := mat M (nth ls 0).length (Rs.tm (mat M K (Gf.cau K)) ls K)
def Rs.parL (K M : Nat) (ls : List (List UInt8)) : List (List UInt8) := if Rs.parOk K ls = true then Rs.par K M ls else []
def Rs.parE (K : Nat) (ls : List (List UInt8)) : Int := if Rs.parOk K ls = true then 0 else 1

theorem zero_par : ZeroF 104 (.slice none 0 0) := by
  intro po x w h1 h2
  go_enter Tryz.func104, Tryz.ntmps104
  go_wp2
  go_end0
  exact ⟨rfl, rfl⟩

theorem sc_inv (ls : List (List UInt8)) : ∀ (k : Nat), k ≤ ls.length → ∀ x, Rs.sc (ls.take k) = some x → ∀ i, i < k → (nth ls i).length = 0 ∨ (nth ls i).length = x
  | 0, _, _, _, i, hi => by omega
  | k + 1, hk, x, h, i, hi => by
    rw [sc_snoc ls (by omega)] at h
    cases hm : Rs.sc (ls.take k) with
    | none => rw [hm] at h; cases h
    | some m =>
      rw [hm] at h
      simp only [Rs.sc1] at h
      split at h
      · cases h
      · rename_i hc
        have hx : max m (nth ls k).length = x := by simpa using h
        by_cases e : i = k
        · subst e; omega
        · have := sc_inv ls k (by omega) m hm i (by omega)
          omega
theorem sc_len {ls : List (List UInt8)} {s : Nat} (h : Rs.sc ls = some s) {i : Nat} (hi : i < ls.length) : (nth ls i).length = 0 ∨ (nth ls i).length = s :=
  sc_inv ls ls.length (Nat.le_refl _) s (by rw [List.take_length]; exact h) i hi
theorem alk_some {K s : Nat} {ls : List (List UInt8)} (h : Rs.alk K ls = some s) : ls.length = K ∧ Rs.sc ls = some s := by
  unfold Rs.alk at h
  by_cases e : ls.length = K
  · rw [if_pos e] at h; exact ⟨e, h⟩
  · rw [if_neg e] at h; cases h
theorem cau_row {K M j : Nat} (h : j < M) : (nth (mat M K (Gf.cau K)) j).length = K := by rw [mat_row h]; simp

/-- The two results' variables. -/
structure Two (w w2 : World) (x y : Value) : Prop where
  out : Below w.heap.size w w2
  c1 : w2.cell? ⟨w.heap.size, 0, none⟩ = some x
  c2 : w2.cell? ⟨w.heap.size + 1, 0, none⟩ = some y
  f1 : w2.frozen? ⟨w.heap.size, 0, none⟩ = false
  f2 : w2.frozen? ⟨w.heap.size + 1, 0, none⟩ = false
theorem Two.start (w : World) (x y : Value) (t1 t2 : TypeId) : Two w ((w.alloc (.cells #[x] t1)).alloc (.cells #[y] t2)) x y := by
  have hb : Below w.heap.size w ((w.alloc (.cells #[x] t1)).alloc (.cells #[y] t2)) := (below_alloc w _).trans ((below_alloc _ _).mono (by simp))
  have h1 : (w.alloc (.cells #[x] t1)).heap.size = w.heap.size + 1 := by simp
  have g1 : ((w.alloc (.cells #[x] t1)).alloc (.cells #[y] t2)).heap[w.heap.size]? = some (.cells #[x] t1 (0, 0)) := ((below_alloc (w.alloc (.cells #[x] t1)) (.cells #[y] t2)).block w.heap.size (by omega)).trans (heap_alloc_last w _)
  have g2 : ((w.alloc (.cells #[x] t1)).alloc (.cells #[y] t2)).heap[w.heap.size + 1]? = some (.cells #[y] t2 (0, 0)) := by rw [← h1]; exact heap_alloc_last _ _
  exact ⟨hb, by unfold World.cell?; simp only [g1]; rfl, by unfold World.cell?; simp only [g2]; rfl, by unfold World.frozen?; simp only [g1]; rfl, by unfold World.frozen?; simp only [g2]; rfl⟩
theorem Two.lt {w w2 : World} {x y : Value} (h : Two w w2 x y) : w.heap.size + 1 < w2.heap.size := by
  have := h.c2
  by_cases e : w.heap.size + 1 < w2.heap.size
  · exact e
  · simp [World.cell?, Array.getElem?_eq_none (by omega : w2.heap.size ≤ w.heap.size + 1)] at this
theorem Two.later {w w2 w3 : World} {x y : Value} (h : Two w w2 x y) (k : Below w2.heap.size w2 w3) : Two w w3 x y := by
  have hlt : w.heap.size + 1 < w2.heap.size := by
    have := h.c2
    by_cases e : w.heap.size + 1 < w2.heap.size
    · exact e
    · simp [World.cell?, Array.getElem?_eq_none (by omega : w2.heap.size ≤ w.heap.size + 1)] at this
  have e1 := k.block w.heap.size (by omega)
  have e2 := k.block (w.heap.size + 1) hlt
  exact ⟨h.out.trans (k.mono h.out.size), (World.cell?_of_block e1).trans h.c1, (World.cell?_of_block e2).trans h.c2,
    by have := h.f1; unfold World.frozen? at *; rw [e1]; exact this, by have := h.f2; unfold World.frozen? at *; rw [e2]; exact this⟩
theorem makeFunc_run (fn : Fn) (first cap : Array Value) (w : World) : (Instr.makeFunc fn first cap).run Tryz.prog w = .ok (.func fn first cap) w := rfl

theorem Two.set {w w2 : World} {x y : Value} (h : Two w w2 x y) (er z : Value) : Two w ((w2.setCell ⟨w.heap.size + 1, 0, none⟩ er).setCell ⟨w.heap.size, 0, none⟩ z) z er := by
  have g1 : (w2.setCell ⟨w.heap.size + 1, 0, none⟩ er).cell? ⟨w.heap.size, 0, none⟩ = some x := by rw [World.cell?_setCell_other _ _ _ _ (by simp)]; exact h.c1
  refine ⟨(h.out.setCell (by simp) _).setCell (by simp) _, World.cell?_setCell_same _ _ _ g1, ?_, by simpa using h.f1, by simpa using h.f2⟩
  rw [World.cell?_setCell_other _ _ _ _ (by simp)]
  exact World.cell?_setCell_same _ _ _ h.c2
theorem Two.set' {w w2 : World} {x y : Value} (h : Two w w2 x y) (er z : Value) : Two w ((w2.setCell ⟨w.heap.size, 0, none⟩ z).setCell ⟨w.heap.size + 1, 0, none⟩ er) z er := by
  have g1 : (w2.setCell ⟨w.heap.size, 0, none⟩ z).cell? ⟨w.heap.size + 1, 0, none⟩ = some y := by rw [World.cell?_setCell_other _ _ _ _ (by simp)]; exact h.c2
  refine ⟨(h.out.setCell (by simp) _).setCell (by simp) _, ?_, World.cell?_setCell_same _ _ _ g1, by simpa using h.f1, by simpa using h.f2⟩
  rw [World.cell?_setCell_other _ _ _ _ (by simp)]
  exact World.cell?_setCell_same _ _ _ h.c1
/-- The results are read out of the two variables. -/
def Reads2 (fn : Func) (tmps : Array Value) (n : Nat) : Prop := ∀ (W : World) (v1 v2 : Value), W.cell? ⟨n, 0, none⟩ = some v1 → W.cell? ⟨n + 1, 0, none⟩ = some v2 → (results fn tmps).run Tryz.prog W = .ok (.tuple #[v1, v2]) W
def deferTold (n F : Nat) : Deferred := { target := .fn (.func 81) #[], args := #[.pointer (some ⟨n + 1, 0, none⟩), .func (.func F) #[] #[.pointer (some ⟨n, 0, none⟩)]] }
/-- The door, where an error was given up. -/
theorem door_err {fn : Func} {tmps : Array Value} {w w2 : World} {x z : Value} {y er : Int} {F : Nat} {R : Ending → World → Prop} (hr : Reads2 fn tmps w.heap.size) (hT : Two w w2 x (.int .i64 y)) (eg : Enters Tryz.prog F) (hF : ZeroF F z)
    (hR : ∀ W, Below w.heap.size w W → R (.returned (.tuple #[z, .int .i64 er])) W) : Leaves Tryz.prog fn tmps R [deferTold w.heap.size F] (.panicking [errE er]) w2 := by
  refine leaves_cons (f := 81) (args := #[.pointer (some ⟨w.heap.size + 1, 0, none⟩), .func (.func F) #[] #[.pointer (some ⟨w.heap.size, 0, none⟩)]]) (by simp) (by simp [go_sem]) ?_
  refine (told_err ⟨w.heap.size + 1, 0, none⟩ ⟨w.heap.size, 0, none⟩ F z x y er w2 eg hF hT.c2 hT.f2 hT.c1 hT.f1 (by simp)).mono ?_
  rintro e u' w'' ⟨rfl, rfl, rfl⟩
  have h := hT.set (.int .i64 er) z
  exact ⟨_, hr _ _ _ h.c1 h.c2, hR _ h.out⟩
/-- The door, where the function returns. -/
theorem door_ok {fn : Func} {tmps : Array Value} {w w2 : World} {x y : Value} {F : Nat} {R : Ending → World → Prop} (hr : Reads2 fn tmps w.heap.size) (hT : Two w w2 x y)
    (hR : R (.returned (.tuple #[x, y])) w2) : Leaves Tryz.prog fn tmps R [deferTold w.heap.size F] .returning w2 := by
  refine leaves_cons (f := 81) (args := #[.pointer (some ⟨w.heap.size + 1, 0, none⟩), .func (.func F) #[] #[.pointer (some ⟨w.heap.size, 0, none⟩)]]) (by simp) (by simp [go_sem]) ?_
  refine (told_idle _ _ _ _).mono ?_
  rintro e u' w'' ⟨rfl, rfl, rfl⟩
  exact ⟨_, hr _ _ _ hT.c1 hT.c2, hR⟩

set_option maxHeartbeats 2000000 in
theorem parity_any (b K M : Nat) (aq : Option Addr) (ns cs : Nat) (ls : List (List UInt8)) (w : World) (hc : Cod w b K M) (hs : Bss w aq ns cs ls) (h1 : 1 ≤ K) (h2 : K + M ≤ 255) (h3 : ns ≤ 1000000000) (h4 : ∀ i, i < ns → (nth ls i).length ≤ 100000000) :
    Calls Tryz.prog 74 #[.pointer (some ⟨b, 0, none⟩), .slice aq ns cs] w (MOwn (Rs.parL K M ls) (Rs.parE K ls) w) := by
  have hmf := makeFunc_run
  obtain ⟨w2, hw2⟩ : ∃ w2, (w.alloc (.cells #[.slice none 0 0] 53)).alloc (.cells #[.int .i64 0] 32) = w2 := ⟨_, rfl⟩
  have hT := Two.start w (.slice none 0 0) (.int .i64 0) 53 32
  rw [hw2] at hT
  have HC : Hid (∀ W, Below w.heap.size w W → Cod W b K M) := Lib.hid fun W h => hc.below h
  have HS : Hid (∀ W, Below w.heap.size w W → Bss W aq ns cs ls) := Lib.hid fun W h => hs.below h
  have HT := Lib.hid hT
  have HW := Lib.hid hw2
  have k1 := (HC.out w2 hT.out).k
  have k0 := k1
  rw [← hw2] at k0
  clear hc hs hT hw2
  go_enter_defers Tryz.func74, Tryz.ntmps74
  go_wp2_with fail
  rw [HW.out]
  clear k0 HW
  refine (alike_any _ K ns cs ls w2 (HS.out _ HT.out.out) (by omega)).mono ?_
  rintro e w3 ⟨rfl, rfl⟩
  cases hA : Rs.alk K ls with
  | none =>
    simp only [alkE]
    have e1 : Rs.parOk K ls = false := by unfold Rs.parOk; rw [hA]; rfl
    refine door_err (F := 104) (fun W v1 v2 g1 g2 => by simp [results, Tryz.results74, go_sem, g1, g2]) HT.out (enters_of Tryz.func104 (by kernel_rfl) rfl) zero_par (fun W hb => ?_)
    unfold Rs.parL Rs.parE
    rw [e1]
    exact nil_own rfl hb
  | some s =>
    simp only [alkE]
    go_wp2_with fail
    refine (missing_any _ _ _ ls w2 (HS.out _ HT.out.out) h3).mono ?_
    rintro e w3 ⟨r, q, rfl, hr, hq⟩
    have HT3 := Lib.hid (HT.out.later (hq ▸ below_drewN (Below.refl _ _) q))
    have HR := Lib.hid hr
    have HA := Lib.hid hA
    clear HT hq hr hA k1
    by_cases hf : Rs.full ls = true
    case neg =>
      have hf : Rs.full ls = false := by simpa using hf
      have hr0 : 0 ≤ r := by have := HR.out; rw [hf] at this; simpa using this
      have t1 : decide (0 ≤ r) = true := decide_eq_true hr0
      have e1 : Hid (Rs.parOk K ls = false) := Lib.hid (by unfold Rs.parOk; rw [hf]; simp)
      clear hr0 hf
      go_wp2_with (go_at_call 84; refine (give_any _ _).mono ?_; rintro e w' ⟨rfl, rfl⟩)
      refine door_err (F := 104) (fun W v1 v2 g1 g2 => by simp [results, Tryz.results74, go_sem, g1, g2]) HT3.out (enters_of Tryz.func104 (by kernel_rfl) rfl) zero_par (fun W hb => ?_)
      unfold Rs.parL Rs.parE
      rw [e1.out]
      exact nil_own rfl hb
    have hr0 : r < 0 := by have := HR.out; rw [hf] at this; simpa using this
    have t1 : decide (0 ≤ r) = false := decide_eq_false (by omega)
    have e1 : Hid (Rs.parOk K ls = true) := Lib.hid (by unfold Rs.parOk; rw [hf, HA.out]; rfl)
    obtain ⟨hlen, hsc⟩ := alk_some HA.out
    have hns := (HS.out _ HT3.out.out).1
    obtain rfl : ns = K := by omega
    have HL : Hid (∀ i, i < ns → (nth ls i).length = s) := Lib.hid fun i hi => by
      rcases sc_len hsc (i := i) (by omega) with h | h
      · exact absurd h (full_at hf (by omega))
      · exact h
    have hs4 : s ≤ 100000000 := by rw [← HL.out 0 (by omega)]; exact h4 0 (by omega)
    have hcd := HC.out _ HT3.out.out
    have k2 := hcd.m
    obtain ⟨ap, np, cp, k3, hp⟩ := hcd.p
    have HP := Lib.hid hp
    have c1 := HT3.out.c1
    have c2 := HT3.out.c2
    have f1 := HT3.out.f1
    have f2 := HT3.out.f2
    have HN := Lib.hid hns
    clear hr0 hf hcd hp hlen hsc HR hns h4
    have hE : Rs.parE ns ls = 0 := by unfold Rs.parE; rw [e1.out]; rfl
    by_cases hM : M = 0
    · subst hM
      have t2 : ((0 : Nat) : Int) == 0 := rfl
      have hLL : Hid (Rs.parL ns 0 ls = []) := Lib.hid (by unfold Rs.parL; rw [e1.out]; rfl)
      have hEE := Lib.hid hE
      clear hE
      go_wp2
      refine door_ok (F := 104) (fun W v1 v2 g1 g2 => by simp [results, Tryz.results74, go_sem, g1, g2]) (HT3.out.set' (.int .i64 0) (.slice none 0 0)) ?_
      rw [hLL.out, hEE.out]
      exact nil_own rfl (HT3.out.set' (.int .i64 0) (.slice none 0 0)).out
    · have t2 : ((M : Int) == 0) = false := by simp; omega
      have hLL : Hid (Rs.parL ns M ls = mat M s (Rs.tm (mat M ns (Gf.cau ns)) ls ns)) := Lib.hid (by unfold Rs.parL Rs.par; rw [e1.out, if_pos rfl, HL.out 0 (by omega)])
      have hEE := Lib.hid hE
      have hnp : np = M := by rw [← HP.out.1, mat_len]
      subst hnp
      clear hE hM c1 c2 f1 f2
      go_wp2_with fail
      refine (times_any' _ _ _ _ _ _ _ _ s w3 HP.out (HS.out _ HT3.out.out) (by omega) HL.out (fun j hj => by rw [cau_row hj]; exact Nat.le_refl _) (by omega) (by omega) (by omega)).mono ?_
      rintro e w4 ⟨⟨g, bl, rfl, hmx⟩, hb4⟩
      have HT4 := Lib.hid (HT3.out.later hb4)
      have c1 := HT4.out.c1
      have c2 := HT4.out.c2
      have f1 := HT4.out.f1
      have f2 := HT4.out.f2
      have hlt : w.heap.size + 1 < w3.heap.size := HT3.out.lt
      have HX : Hid (Mx ((w4.setCell ⟨w.heap.size, 0, none⟩ (.slice (some ⟨g, 0, none⟩) np np)).setCell ⟨w.heap.size + 1, 0, none⟩ (.int .i64 0)) w3.heap.size g np s bl (Rs.tm (mat np ns (Gf.cau ns)) ls ns)) :=
        Lib.hid (hmx.other fun j hj => (Below.heap_setCell _ _ _ _ (by show j ≠ w.heap.size + 1; omega)).trans (Below.heap_setCell _ _ _ _ (by show j ≠ w.heap.size; omega)))
      clear hmx hb4
      go_wp2
      refine door_ok (F := 104) (fun W v1 v2 g1 g2 => by simp [results, Tryz.results74, go_sem, g1, g2]) (HT4.out.set' (.int .i64 0) (.slice (some ⟨g, 0, none⟩) np np)) ?_
      rw [hLL.out, hEE.out]
      have hmy := HX.out.my (by simp only [maxLen]; omega)
      exact ⟨⟨_, _, _, rfl, hmy.bss (Nat.le_refl _) (by simp only [maxLen]; omega), .inr ⟨g, s, bl, _, _, rfl, hmy.mono (by omega), rfl⟩⟩, (HT4.out.set' (.int .i64 0) (.slice (some ⟨g, 0, none⟩) np np)).out⟩
end Go.Proofs.YtfgifndpglgjkaaGreatDoor
end

section
set_option linter.unusedVariables false
set_option linter.unusedSimpArgs false
set_option maxRecDepth 100000
set_option linter.unusedVariables false
namespace Go.Proofs.YtfgifndpglgjkaaGreatDoor
open Go.RowKit Go.Deep

section
variable {w : World} {ops : Array Oper} {rest : List Oper} {o : Oper} {a : Act} {Q : Exit → Act → World → Prop}
theorem app_matr (hgd : Region.wanted o (yielded ops a.tmps) = true) (s x : Operand) (ho : o.op = .call { callee := .builtin .append, args := #[s, x], argTypes := #[53, 53] })
    (B : Nat) {aq : Option Addr} {n c : Nat} {cs : List Value} (hs : a.eval s = .slice aq n c) (hown : OwnV w B aq n c cs)
    {ax : Option Addr} {m cx : Nat} {cs2 : List Value} (hx : a.eval x = .slice ax m cx) (hr : Row w ax cs2) (hl : cs2.length = m) (h1' : ∀ u ∈ cs2, u.oneCell' = true) (hb : n + m ≤ 1000000) (hB : B ≤ w.heap.size)
    (h : ∀ a' c' w', OwnV w' B a' (n + m) c' (cs ++ cs2) → Below B w w' → Evol w aq w' a' → wpList Tryz.prog ops Q rest (a.put o.dst (.slice a' (n + m) c')) w') : wpList Tryz.prog ops Q (o :: rest) a w := by
  obtain ⟨i, hi, h0, h1, h2⟩ := info_parts infoSs
  refine wpList_app_own hgd s x 53 ho B 25 i (.slice none 0 0) 1 24 Tryz.underlying53 hi h0 h1 h2 rfl (by decide) aq n c cs hs hown ax m cx cs2 hx hr (by rw [hl]; simp) h1' (by omega) (by simp only [maxLen]; omega) hB ?_
  intro a' c' w' g1 g2
  exact h a' c' w' g1 (g2.below hB (fun x hx => by subst hx; exact (World.ownsRow.lt hown x.block rfl).1)) g2
end
theorem rowTo_row {w : World} {g n : Nat} {t : TypeId} {f : Nat → Value} (h : rowTo w g t n f) : Row w (some ⟨g, 0, none⟩) ((List.range n).map f) := by
  intro j v hv
  have hj : j < n := by
    rcases Nat.lt_or_ge j n with h' | h'
    · exact h'
    · rw [List.getElem?_eq_none (by simp; omega)] at hv; cases hv
  refine ⟨g, 0, rfl, ?_⟩
  rw [Nat.zero_add, h.cell hj]
  simpa [hj] using hv
theorem map_join {α : Type} (n m : Nat) (f g h : Nat → α) (h1 : ∀ i, i < n → h i = f i) (h2 : ∀ i, i < m → h (n + i) = g i) : (List.range (n + m)).map h = (List.range n).map f ++ (List.range m).map g := by
  rw [List.range_add, List.map_append]
  congr 1
  · exact List.map_congr_left fun i hi => h1 i (List.mem_range.1 hi)
  · rw [List.map_map]
    exact List.map_congr_left fun i hi => h2 i (List.mem_range.1 hi)
/-- Rows of the call's own, without the row that holds them. -/
structure Rw (w : World) (B m C : Nat) (bl cp : Nat → Nat) (Z : Nat → Nat → UInt8) : Prop where
  row : ∀ i, i < m → B ≤ bl i ∧ rowTo w (bl i) 5 C (fun j => .int .u8 (n8 (Z i j)))
  cap : ∀ i, i < m → C ≤ cp i ∧ cp i ≤ maxLen
  apart : ∀ i j, i < m → j < m → bl i = bl j → i = j
theorem My.rw' {w : World} {B g m C : Nat} {bl cp : Nat → Nat} {Z : Nat → Nat → UInt8} (h : My w B g m C bl cp Z) : Rw w B m C bl cp Z := ⟨fun i hi => ⟨(h.row i hi).1, (h.row i hi).2.2⟩, h.cap, h.apart⟩
/-- Rows of the call's own behind rows of the call's own. -/
theorem Mo.join {w w' : World} {B B2 n c c' C m : Nat} {a a' : Option Addr} {bl cp bl2 cp2 : Nat → Nat} {Z Z2 Y : Nat → Nat → UInt8} (h : Mo w B a n c C bl cp Z) (k : Rw w B2 m C bl2 cp2 Z2) (hB : B ≤ B2)
    (ha : ∀ x, a = some x → x.block < B2) (hbl : ∀ i, i < n → bl i < B2) (hY1 : ∀ i j, i < n → j < C → Y i j = Z i j) (hY2 : ∀ i j, i < m → j < C → Y (n + i) j = Z2 i j)
    (ho : OwnV w' B a' (n + m) c' (((List.range n).map fun i => .slice (some ⟨bl i, 0, none⟩) C (cp i)) ++ ((List.range m).map fun i => .slice (some ⟨bl2 i, 0, none⟩) C (cp2 i)))) (hev : Evol w a w' a') :
    Mo w' B a' (n + m) c' C (fun i => if i < n then bl i else bl2 (i - n)) (fun i => if i < n then cp i else cp2 (i - n)) Y := by
  have step : ∀ {b' : Nat} {f : Nat → Value}, rowTo w b' 5 C f → (∀ x, a = some x → b' ≠ x.block) → rowTo w' b' 5 C f ∧ (∀ x, a' = some x → b' ≠ x.block) := by
    intro b' f h1 h2
    refine ⟨h1.of_block (hev.1.block b' h1.lt (by
      cases a with
      | none => simp
      | some x => simpa using h2 x rfl)), fun x hx e => ?_⟩
    rcases hev.2 x hx with h3 | h3
    · cases a with
      | none => cases h3
      | some y => exact h2 y rfl (by rw [e]; simpa using h3.symm)
    · have := h1.lt; omega
  refine ⟨?_, fun i hi => ?_, fun i hi => ?_, fun i j hi hj e => ?_⟩
  · rw [map_join n m (fun i => .slice (some ⟨bl i, 0, none⟩) C (cp i)) (fun i => .slice (some ⟨bl2 i, 0, none⟩) C (cp2 i)) _ (fun i hi => by simp [hi]) (fun i hi => by simp [show ¬ n + i < n by omega])]
    exact ho
  · by_cases e : i < n
    · simp only [if_pos e]
      have := h.row i e
      have s := step (this.2.2.congr (g := fun j => .int .u8 (n8 (Y i j))) (fun j hj => by rw [hY1 i j e hj])) this.2.1
      exact ⟨this.1, s.2, s.1⟩
    · simp only [if_neg e]
      have := k.row (i - n) (by omega)
      have s := step (this.2.congr (g := fun j => .int .u8 (n8 (Y i j))) (fun j hj => by have h9 := hY2 (i - n) j (by omega) hj; rw [show n + (i - n) = i by omega] at h9; rw [h9])) (fun x hx => by have := ha x hx; omega)
      exact ⟨Nat.le_trans hB this.1, s.2, s.1⟩
  · by_cases e : i < n
    · simp only [if_pos e]; exact h.cap i e
    · simp only [if_neg e]; exact k.cap (i - n) (by omega)
  · by_cases e1 : i < n <;> by_cases e2 : j < n <;> simp only [e1, e2, if_true, if_false] at e
    · exact h.apart i j e1 e2 e
    · have := (k.row (j - n) (by omega)).1; have := hbl i e1; omega
    · have := (k.row (i - n) (by omega)).1; have := hbl j e2; omega
    · have := k.apart (i - n) (j - n) (by omega) (by omega) e; omega

/-- All shards of some bytes: row i, byte j. -/
def Rs.enc (K M : Nat) (d : List UInt8) (i j : Nat) : UInt8 :=
  if i < K then Rs.spl (Rs.wd K d.length) d i j else Rs.tm (mat M K (Gf.cau K)) (Rs.split K d) K (i - K) j
def Rs.all (K M : Nat) (d : List UInt8) : List (List UInt8) := mat (K + M) (Rs.wd K d.length) (Rs.enc K M d)
theorem sc_even : ∀ (ls : List (List UInt8)) (C : Nat), (∀ l ∈ ls, l.length = C) → 0 < C → ∀ x, x = 0 ∨ x = C → ∃ y, ls.foldl Rs.sc1 (some x) = some y
  | [], C, _, _, x, _ => ⟨x, rfl⟩
  | l :: ls, C, h, hC, x, hx => by
    have hl := h l (by simp)
    have : Rs.sc1 (some x) l = some C := by
      simp only [Rs.sc1]
      rw [if_neg (by omega)]
      congr 1; omega
    rw [List.foldl_cons, this]
    exact sc_even ls C (fun l hl => h l (by simp [hl])) hC C (.inr rfl)
theorem even_ok {K C : Nat} {Z : Nat → Nat → UInt8} (hC : 0 < C) : Rs.parOk K (mat K C Z) = true := by
  have hlen : ∀ l ∈ mat K C Z, l.length = C := by
    intro l hl
    unfold mat at hl
    obtain ⟨i, _, rfl⟩ := List.mem_map.1 hl
    simp
  obtain ⟨y, hy⟩ := sc_even (mat K C Z) C hlen hC 0 (.inl rfl)
  unfold Rs.parOk Rs.alk
  rw [if_pos (mat_len _ _ _)]
  have : Rs.sc (mat K C Z) = some y := hy
  rw [this]
  simp only [Option.isSome_some, Bool.true_and]
  exact full_true fun k hk => by rw [mat_len] at hk; rw [mat_row hk]; simp; omega
theorem mat_head {K C : Nat} {Z : Nat → Nat → UInt8} (hK : 0 < K) : (nth (mat K C Z) 0).length = C := by rw [mat_row hK]; simp
theorem mat_shape {n m C D : Nat} {Z Y : Nat → Nat → UInt8} (h : mat n C Z = mat m D Y) : n = m ∧ (0 < n → C = D) ∧ ∀ i j, i < n → j < C → Z i j = Y i j := by
  have h1 : n = m := by have := congrArg List.length h; rwa [mat_len, mat_len] at this
  subst h1
  have h2 : 0 < n → C = D := fun hn => by have := congrArg (fun l => (nth l 0).length) h; simpa [mat_row hn] using this
  refine ⟨rfl, h2, fun i j hi hj => ?_⟩
  have hCD := h2 (by omega)
  subst hCD
  have := congrArg (fun l => nth (nth l i) j) h
  simp only [mat_row hi] at this
  rwa [nth_map_range _ hj, nth_map_range _ hj] at this

set_option maxHeartbeats 2000000 in
theorem encode_any (b K M : Nat) (ad : Option Addr) (nd cd : Nat) (d : List UInt8) (w : World) (hc : Cod w b K M) (hd : Bs w ad nd cd d) (h1 : 1 ≤ K) (h2 : K + M ≤ 255) (h3 : nd ≤ 50000000) :
    Calls Tryz.prog 43 #[.pointer (some ⟨b, 0, none⟩), .slice ad nd cd] w (MoP (K + M) (Rs.wd K nd) (Rs.enc K M d) w) := by
  have HC : Hid (∀ W, Below w.heap.size w W → Cod W b K M) := Lib.hid fun W h => hc.below h
  have HD : Hid (∀ W, Below w.heap.size w W → Bs W ad nd cd d) := Lib.hid fun W h => hd.below h
  have HN := Lib.hid hd.1
  have HW1 := Lib.hid (wd_pos K nd)
  have HW3 : Hid (Rs.wd K nd ≤ 100000000) := Lib.hid (by
    have := wd_few (n := nd) h1
    have h5 : 1 * Rs.wd K nd ≤ K * Rs.wd K nd := Nat.mul_le_mul_right _ h1
    omega)
  clear hc hd
  go_enter Tryz.func43, Tryz.ntmps43
  go_wp2_with fail
  refine (split_any b K M ad nd cd d w (HC.out w (Below.refl _ _)) (HD.out w (Below.refl _ _)) h1 (by omega) (by omega)).mono ?_
  rintro e w1 ⟨⟨a, c, bl, cp, rfl, hm⟩, hb1⟩
  obtain ⟨g1, rfl, hmy⟩ := hm.my (by omega)
  have hS : Hid (Bss w1 (some ⟨g1, 0, none⟩) K c (Rs.split K d)) := Lib.hid (by
    unfold Rs.split; rw [HN.out]; exact hmy.bss hm.own.len.2.1 hm.own.len.2.2)
  have HM := Lib.hid hm
  have HB1 := Lib.hid hb1
  have hlen : Hid (∀ i, i < K → (nth (Rs.split K d) i).length ≤ 100000000) := Lib.hid fun i hi => by unfold Rs.split; rw [HN.out, mat_row hi]; simp; exact HW3.out
  clear hm hmy hb1
  go_wp2_with fail
  refine (parity_any b K M _ _ _ _ w1 (HC.out w1 HB1.out) hS.out h1 h2 (by omega) hlen.out).mono ?_
  rintro e w2 ⟨⟨a2, n2, c2, rfl, hB2, hown⟩, hb2⟩
  have hpar : Rs.parL K M (Rs.split K d) = mat M (Rs.wd K nd) (Rs.tm (mat M K (Gf.cau K)) (Rs.split K d) K) := by
    unfold Rs.parL
    rw [show Rs.parOk K (Rs.split K d) = true from even_ok (by rw [HN.out]; exact HW1.out)]
    unfold Rs.par
    rw [if_pos rfl]
    have : (nth (Rs.split K d) 0).length = Rs.wd K nd := by unfold Rs.split; rw [HN.out]; exact mat_head (by omega)
    rw [this]
  have hn2 : n2 = M := by have := hB2.1; rw [hpar, mat_len] at this; omega
  subst hn2
  obtain ⟨bl2, cp2, Z2, hrow2, hrw2, hZ2⟩ : ∃ bl2 cp2 Z2, Row w2 a2 ((List.range n2).map fun i => Value.slice (some ⟨bl2 i, 0, none⟩) (Rs.wd K nd) (cp2 i)) ∧ Rw w2 w1.heap.size n2 (Rs.wd K nd) bl2 cp2 Z2 ∧ (∀ i j, i < n2 → j < Rs.wd K nd → Rs.tm (mat n2 K (Gf.cau K)) (Rs.split K d) K i j = Z2 i j) := by
    rcases hown with ⟨rfl, rfl⟩ | ⟨g, C, bl', cp', Z', rfl, hmy, hz⟩
    · exact ⟨id, id, fun _ _ => 0, Row.nil _ _, ⟨fun i hi => by omega, fun i hi => by omega, fun i j hi => by omega⟩, fun i j hi => by omega⟩
    · obtain ⟨e1, e2, e3⟩ := mat_shape (hpar.symm.trans hz)
      by_cases h0 : 0 < n2
      · have e4 := e2 h0
        subst e4
        exact ⟨bl', cp', Z', rowTo_row hmy.top, hmy.rw', e3⟩
      · obtain rfl : n2 = 0 := by omega
        exact ⟨id, id, fun _ _ => 0, Row.nil _ _, ⟨fun i hi => by omega, fun i hi => by omega, fun i j hi => by omega⟩, fun i j hi => by omega⟩
  have HM2 := Lib.hid (HM.out.below hb2)
  have HA : Hid (g1 < w1.heap.size) := Lib.hid ((HM.out.own.new _ rfl).2)
  have HBL : Hid (∀ i, i < K → bl i < w1.heap.size) := Lib.hid fun i hi => (HM.out.row i hi).2.2.lt
  have HB3 := Lib.hid (HB1.out.trans (hb2.mono HB1.out.size))
  have HR2 := Lib.hid hrow2
  have HRW := Lib.hid hrw2
  have HZ := Lib.hid hZ2
  clear hB2 hown hpar hb2 hrow2 hrw2 hZ2 HM hS hlen
  go_wp2_with (at_builtin; refine app_matr rfl _ _ rfl w.heap.size rfl HM2.out.own rfl HR2.out (by simp) (by intro u hu; obtain ⟨i, _, rfl⟩ := List.mem_map.1 hu; rfl) (by omega) HB3.out.size ?_; intro a' c' w' ho hb' hev)
  have hfin := HM2.out.join HRW.out HB1.out.size (fun x hx => by cases hx; exact HA.out) HBL.out (Y := Rs.enc K n2 d) (fun i j hi hj => by unfold Rs.enc; rw [if_pos hi, HN.out]) (fun i j hi hj => by unfold Rs.enc; rw [if_neg (by omega), Nat.add_sub_cancel_left]; exact HZ.out i j hi hj) ho hev
  have HF := Lib.hid hfin
  have HBF := Lib.hid (HB3.out.trans hb')
  clear hfin ho hev hb'
  go_wp2
  go_ret
  exact ⟨⟨_, _, _, _, rfl, HF.out⟩, HBF.out⟩
end Go.Proofs.YtfgifndpglgjkaaGreatDoor

/- rs: Check. -/
set_option maxRecDepth 100000
set_option linter.unusedVariables false
namespace Go.Proofs.YtfgifndpglgjkaaGreatDoor
open Go.RowKit Go.Deep

theorem list_ext_n {α : Type} [Inhabited α] {l m : List α} (hl : l.length = m.length) (h : ∀ k, k < l.length → nth l k = nth m k) : l = m := by
  apply List.ext_getElem hl
  intro i h1 h2
  have := h i h1
  rwa [nth_eq _ h1, nth_eq _ h2] at this

set_option maxHeartbeats 1000000 in
theorem rsequal_any (a a' : Option Addr) (n c n' c' : Nat) (l l' : List UInt8) (w : World) (h : Bs w a n c l) (h' : Bs w a' n' c' l') :
    Calls Tryz.prog 110 #[.slice a n c, .slice a' n' c'] w fun e w' => e = .returned (.bool (decide (l = l'))) ∧ Below w.heap.size w w' := by
  have hle := h.le.1
  have HB : Hid (∀ W, Below w.heap.size w W → Bs W a n c l) := Lib.hid fun W k => h.below k
  have HB' : Hid (∀ W, Below w.heap.size w W → Bs W a' n' c' l') := Lib.hid fun W k => h'.below k
  have hl := h.1
  have hl' := h'.1
  clear h h'
  by_cases hn : n = n'
  case neg =>
    have t1 : ((n : Int) != (n' : Int)) = true := by simp; omega
    have e1 := Lib.hid (decide_eq_false (show ¬ l = l' from fun e => by subst e; omega))
    clear hn hl hl'
    go_enter Tryz.func110, Tryz.ntmps110
    go_wp2
    go_ret
    exact ⟨by rw [e1.out]; rfl, Below.refl _ _⟩
  subst hn
  have t1 : ((n : Int) != (n : Int)) = false := by simp
  have HL := Lib.hid hl
  have HL' := Lib.hid hl'
  clear hl hl'
  go_enter Tryz.func110, Tryz.ntmps110
  go_wp2_with fail
  clear t1
  go_loopw [13] (fun i wr => ∃ k : Nat, k ≤ n ∧ i = .int .i64 k ∧ Below w.heap.size w wr ∧ Hid (∀ j, j < k → nth l j = nth l' j)) (fun i _ => n - (intOf i).toNat)
  case atStart => exact ⟨0, Nat.zero_le _, rfl, Below.refl _ _, Lib.hid fun j hj => by omega⟩
  case round =>
    obtain ⟨k, hk, rfl, hb, hall⟩ := hrel
    by_cases hlt : k < n
    · obtain ⟨b1, o1, rfl, d1⟩ := (HB.out wr hb).byte hlt
      obtain ⟨b2, o2, rfl, d2⟩ := (HB'.out wr hb).byte hlt
      have hx : Hid (nth l k = nth l k) := Lib.hid rfl
      generalize hxx : nth l k = x at *
      generalize hyy : nth l' k = y at *
      have HX := Lib.hid hxx
      have HY := Lib.hid hyy
      have HBB := Lib.hid hb
      clear hxx hyy hx hb
      by_cases hxy : x = y
      · subst hxy
        have t2 : (n8 x != n8 x) = false := by simp
        go_wp2_with fail
        refine wp_region_class (w0 := wr) (by kernel_rfl) (by kernel_rfl) (Below.refl _ _) ?_
        have l1 := BW.cell d1
        have l2 := BW.cell d2
        repeat (first | go_big_quiet_step (fail))
        refine wpQuiet_nil ?_
        intro w1 hb1; replace hb1 := BW.of hb1
        clear l1 l2
        have HB2 := Lib.hid (HBB.out.trans (hb1.mono HBB.out.size))
        clear hb1
        go_wp2
        go_roundw
        case rel => exact ⟨k + 1, by omega, by go_num, HB2.out, Lib.hid fun j hj => by
            by_cases e : j = k
            · rw [e, HX.out, HY.out]
            · exact hall.out j (by omega)⟩
        case measure => simp [intOf]; omega
      · have t2 : (n8 x != n8 y) = true := by simpa using fun e => hxy (n8_inj e)
        have e1 := Lib.hid (decide_eq_false (show ¬ l = l' from fun e => hxy (by rw [← HX.out, ← HY.out, e])))
        clear hxy
        go_wp2_with fail
        refine wp_region_class (w0 := wr) (by kernel_rfl) (by kernel_rfl) (Below.refl _ _) ?_
        have l1 := BW.cell d1
        have l2 := BW.cell d2
        repeat (first | go_big_quiet_step (fail))
        refine wpQuiet_nil ?_
        intro w1 hb1; replace hb1 := BW.of hb1
        clear l1 l2
        have HB2 := Lib.hid (HBB.out.trans (hb1.mono HBB.out.size))
        clear hb1
        go_wp2
        go_ret
        exact ⟨by rw [e1.out]; rfl, HB2.out⟩
    · obtain rfl : k = n := by omega
      have e1 := Lib.hid (decide_eq_true (show l = l' from list_ext_n (by rw [HL.out, HL'.out]) (fun j hj => hall.out j (by rw [HL.out] at hj; exact hj))))
      have HB2 := Lib.hid hb
      clear hb
      go_wp2
      go_ret
      exact ⟨by rw [e1.out]; rfl, HB2.out⟩

end Go.Proofs.YtfgifndpglgjkaaGreatDoor

/- rs: Check. -/
set_option maxRecDepth 100000
set_option linter.unusedVariables false
namespace Go.Proofs.YtfgifndpglgjkaaGreatDoor
open Go.RowKit Go.Deep

def Rs.chkOk (K M : Nat) (ls : List (List UInt8)) : Bool := (Rs.alk (K + M) ls).isSome && Rs.full ls
def Rs.chkB (K M : Nat) (ls : List (List UInt8)) : Bool := if Rs.chkOk K M ls = true then decide (Rs.parL K M (ls.take K) = ls.drop K) else false
def Rs.chkE (K M : Nat) (ls : List (List UInt8)) : Int := if Rs.chkOk K M ls = true then 0 else 1
def BRes (v : Bool) (er : Int) (w : World) (e : Ending) (w' : World) : Prop := e = .returned (.tuple #[.bool v, .int .i64 er]) ∧ Below w.heap.size w w'
theorem chk_bad {K M : Nat} {ls : List (List UInt8)} (h : Rs.chkOk K M ls = false) : Rs.chkB K M ls = false ∧ Rs.chkE K M ls = 1 := by
  unfold Rs.chkB Rs.chkE; rw [h]; exact ⟨rfl, rfl⟩
theorem chk_good {K M : Nat} {ls : List (List UInt8)} (h : Rs.chkOk K M ls = true) : Rs.chkB K M ls = decide (Rs.parL K M (ls.take K) = ls.drop K) ∧ Rs.chkE K M ls = 0 := by
  unfold Rs.chkB Rs.chkE; rw [if_pos h, if_pos h]; exact ⟨rfl, rfl⟩
theorem alike_sum (K M : Nat) (aq : Option Addr) (ns cs : Nat) (ls : List (List UInt8)) (w : World) (h : Bss w aq ns cs ls) (hn : K + M ≤ 1000) :
    Calls Tryz.prog 83 #[.int .i64 ((K : Int) + (M : Int)), .slice aq ns cs] w fun e w' => e = alkE (Rs.alk (K + M) ls) ∧ w = w' := by
  have := alike_any aq (K + M) ns cs ls w h (by omega)
  rwa [Int.natCast_add] at this

theorem slicer_h (a : Option Addr) (n c : Nat) {hi : Int} {hi' : Nat} (hhi : hi = hi') (h2 : hi' ≤ c) (w : World) :
    (Instr.slice 53 (.slice a n c) none (some (.int .i64 hi)) none).run Tryz.prog w = .ok (.slice a hi' c) w := by
  obtain ⟨i, hi0, _, g1, _⟩ := info_parts infoSs
  exact run_slice_h Tryz.underlying53 hi0 g1 a n c hhi h2 w
theorem slicer_l (a : Option Addr) (n c : Nat) {lo : Int} {lo' : Nat} (hlo : lo = lo') (h1 : lo' ≤ n) (w : World) :
    (Instr.slice 53 (.slice a n c) (some (.int .i64 lo)) none none).run Tryz.prog w = .ok (.slice (subA a c lo') (n - lo') (c - lo')) w := by
  obtain ⟨i, hi0, _, g1, _⟩ := info_parts infoSs
  rw [run_slice_l Tryz.underlying53 hi0 g1 a n c hlo h1, subAn_one]
theorem full_take {ls : List (List UInt8)} (h : Rs.full ls = true) (k : Nat) : Rs.full (ls.take k) = true :=
  full_true fun j hj => by
    rw [List.length_take] at hj
    rw [nth_take ls (show j < k by omega) (by omega)]
    exact full_at h (by omega)
theorem sc_take {ls : List (List UInt8)} {s : Nat} (h : Rs.sc ls = some s) (k : Nat) : ∃ t, Rs.sc (ls.take k) = some t := by
  cases hk : Rs.sc (ls.take k) with
  | none => rw [sc_bad hk] at h; cases h
  | some t => exact ⟨t, rfl⟩

end Go.Proofs.YtfgifndpglgjkaaGreatDoor

/- rs: the chapter's example. -/
set_option maxRecDepth 100000
set_option linter.unusedVariables false
namespace Go.Proofs.YtfgifndpglgjkaaGreatDoor
open Go.RowKit Go.Deep

theorem Mo.bss {w : World} {B n c C : Nat} {a : Option Addr} {bl cp : Nat → Nat} {Z : Nat → Nat → UInt8} (h : Mo w B a n c C bl cp Z) (hn : 0 < n) : Bss w a n c (mat n C Z) := by
  obtain ⟨g, rfl, hmy⟩ := h.my hn
  exact hmy.bss h.own.len.2.1 h.own.len.2.2
theorem MoP.bss {n C : Nat} {Z : Nat → Nat → UInt8} {w w' : World} {e : Ending} (h : MoP n C Z w e w') (hn : 0 < n) : (∃ a c, e = .returned (.slice a n c) ∧ Bss w' a n c (mat n C Z)) ∧ Below w.heap.size w w' := by
  obtain ⟨⟨a, c, bl, cp, h1, h2⟩, h3⟩ := h
  exact ⟨⟨a, c, h1, h2.bss hn⟩, h3⟩
theorem known_wd : Rs.wd 2 2 = 1 ∧ Rs.wd 2 0 = 1 := by decide
theorem known_enc : ∃ p, mat (2 + 1) (Rs.wd 2 2) (Rs.enc 2 1 [97, 98]) = [[97], [98], [p]] := ⟨Rs.enc 2 1 [97, 98] 2 0, by
  rw [known_wd.1]
  show [[Rs.enc 2 1 [97, 98] 0 0], [Rs.enc 2 1 [97, 98] 1 0], [Rs.enc 2 1 [97, 98] 2 0]] = _
  have e0 : Rs.enc 2 1 [97, 98] 0 0 = 97 := by decide
  have e1 : Rs.enc 2 1 [97, 98] 1 0 = 98 := by decide
  rw [e0, e1]⟩
theorem known_spl : mat 2 (Rs.wd 2 0) (Rs.spl (Rs.wd 2 0) []) = [[0], [0]] := by decide
end Go.Proofs.YtfgifndpglgjkaaGreatDoor
end
