/- rs: Split. -/
import Derived.Test.YtppgbapfmijboaaRsb
set_option linter.unusedVariables false
set_option linter.unusedSimpArgs false
set_option maxRecDepth 100000
set_option linter.unusedVariables false
namespace Go.Proofs.Ytppgbapfmijboaa
open Go.RowKit Go.Deep

def Rs.wd (k n : Nat) : Nat := max 1 ((n + k - 1) / k)
def Rs.spl (W : Nat) (d : List UInt8) (i j : Nat) : UInt8 := nth d (i * W + j)
def Rs.split (k : Nat) (d : List UInt8) : List (List UInt8) := mat k (Rs.wd k d.length) (Rs.spl (Rs.wd k d.length) d)
theorem wd_pos (k n : Nat) : 1 ≤ Rs.wd k n := by unfold Rs.wd; omega
theorem wd_le {k n : Nat} (hk : 1 ≤ k) : n ≤ k * Rs.wd k n := by
  unfold Rs.wd
  have h1 := Nat.div_add_mod (n + k - 1) k
  have h2 := Nat.mod_lt (n + k - 1) (show 0 < k by omega)
  have h3 : k * ((n + k - 1) / k) ≤ k * max 1 ((n + k - 1) / k) := Nat.mul_le_mul_left _ (by omega)
  omega
theorem wd_few {k n : Nat} (hk : 1 ≤ k) : k * Rs.wd k n ≤ n + k := by
  unfold Rs.wd
  have h1 := Nat.div_add_mod (n + k - 1) k
  by_cases h : 1 ≤ (n + k - 1) / k
  · rw [show max 1 ((n + k - 1) / k) = (n + k - 1) / k by omega]; omega
  · rw [show max 1 ((n + k - 1) / k) = 1 by omega]; omega
theorem new_row' {w w3 : World} {B : Nat} {a a3 : Option Addr} {n c C c3 : Nat} {bl cp : Nat → Nat} {Z : Nat → Nat → UInt8} {l : List UInt8} (hm : Mo w B a n c C bl cp Z) (hB : B ≤ w.heap.size) (hC : 0 < C)
    (h3 : Own w3 w.heap.size a3 C c3 l) (hb : Below w.heap.size w w3) (hl : ∀ j, j < C → nth l j = Z n j) : ∃ g3, a3 = some ⟨g3, 0, none⟩ ∧ NewRow w w3 B a n c C bl cp Z g3 c3 := by
  obtain ⟨g3, rfl, h4, h5, h6⟩ := own_rowTo h3 hC
  refine ⟨g3, rfl, hb, h4, h5, (hm.below hb).below (below_alloc w3 _), (h6.congr (fun j hj => by rw [hl j hj])).below (below_alloc w3 _), box_new w3 _ _, fun x hx e => ?_, fun i hi e => ?_⟩
  · have := (hm.own.new x hx).2; omega
  · have := (hm.row i hi).2.2.lt; omega
theorem Mo.mono {w : World} {B B' n c C : Nat} {a : Option Addr} {bl cp : Nat → Nat} {Z : Nat → Nat → UInt8} (h : Mo w B a n c C bl cp Z) (hB : B' ≤ B) : Mo w B' a n c C bl cp Z :=
  ⟨own_mono h.own hB, fun i hi => ⟨Nat.le_trans hB (h.row i hi).1, (h.row i hi).2⟩, h.cap, h.apart⟩

set_option maxHeartbeats 400000 in
theorem clone_any (a : Option Addr) (n c : Nat) (l : List UInt8) (w : World) (h : Bs w a n c l) (hf : n ≤ 1000000000) :
    Calls Try.prog 37 #[.slice a n c] w (RetB w w.heap.size l) := by
  have hq := fun (w : World) => Lib.run_eql_slice_nil (P := Try.prog) w 22 5 a n c 0 0 Try.underlying22
  cases a with
  | none =>
    go_enter Try.func37, Try.ntmps37
    go_wp2
    go_ret
    have hl : l = [] := by
      cases l with
      | nil => rfl
      | cons b l => obtain ⟨_, _, h1, _⟩ := h.2.2.2 0 _ rfl; cases h1
    subst hl
    exact ⟨_, _, _, rfl, Own.nil _ _, Below.refl _ _⟩
  | some ad =>
    go_enter Try.func37, Try.ntmps37
    go_wp2_with (at_builtin; refine app_own rfl _ _ rfl w.heap.size rfl (Own.lit w w.heap.size [] (Nat.le_refl _) (by simp [maxLen])) rfl (h.below ((Below.refl _ _).alloc (Nat.le_refl _) _)) (by simp; omega) (le_alloc (Nat.le_refl _)) ?_; intro a'' c'' w' h1 h2 _)
    go_ret
    exact ⟨_, _, _, rfl, by simpa using h1, ((Below.refl _ _).alloc (Nat.le_refl _) _).trans h2⟩


/-- copy of a row's bytes to the head of a row of noughts. -/
theorem copy_pad {w : World} {g T nd cd : Nat} {ad : Option Addr} {d : List UInt8} (hg : rowTo w g 5 T (fun _ => .int .u8 0)) (hd : Bs w ad nd cd d) (hT : nd ≤ T) :
    ∃ w', (∀ ty, (Builtin.copy_ #[22, 22] ty #[.slice (some ⟨g, 0, none⟩) T T, .slice ad nd cd]).run Try.prog w = .ok (.int .i64 nd) w') ∧ Onl w w' (· = g) ∧ rowTo w' g 5 T (fun j => .int .u8 (n8 (nth d j))) := by
  have hsz : (Try.prog.info? 5).map (·.size) = some 1 := by obtain ⟨i, hi, _, h1, _⟩ := info_parts info8; simp [hi, h1]
  by_cases h0 : nd = 0
  · subst h0
    refine ⟨w, fun ty => ?_, Onl.refl _ _, hg.congr (fun j _ => ?_)⟩
    · have := run_copy_none (P := Try.prog) w 22 22 ty 5 (some ⟨g, 0, none⟩) ad T T 0 cd Try.underlying22 hsz (by simp)
      simpa [goInt] using this
    · have : d = [] := List.eq_nil_of_length_eq_zero hd.1
      subst this; rfl
  · obtain ⟨c, hb, hn, hc⟩ := hg
    obtain ⟨ba, oa, rfl, _⟩ := hd.byte (i := 0) (by omega)
    have hl := hd.1
    have hsrc : ∀ (j : Nat) v, (vs d)[j]? = some v → w.cell? ((⟨ba, oa, none⟩ : Addr).add j) = some v := fun j v hv => by
      obtain ⟨b', o', e1, e2⟩ := hd.2.2.2 j v hv
      cases e1
      rw [Addr.add_lit]; exact e2
    have hlen : (vs d).length = nd := by rw [vs_len, hl]
    refine ⟨w.setRow g (c.toList.take 0 ++ vs d ++ c.toList.drop (0 + (vs d).length)).toArray, fun ty => ?_, ⟨rfl, rfl, rfl, by simp [World.setRow], fun k _ hk => setRow_other w g k _ hk⟩, ?_⟩
    · have := run_copy_row (P := Try.prog) w 22 22 ty 5 g 0 T T ⟨ba, oa, none⟩ nd cd c 5 (vs d) Try.underlying22 hsz hb (by rw [hlen]; simp [Nat.min_def]; omega) hsrc (by omega) (vs_one d)
      rw [this, hlen]; rfl
    · refine ⟨_, setRow_heap w g c _ _ _ hb, by simp [vs_len]; omega, fun j hj => ?_⟩
      simp only [List.take_zero, List.nil_append, Nat.zero_add, List.getElem?_toArray, List.getElem?_append]
      by_cases e : j < nd
      · rw [if_pos (by omega)]
        simp [vs, nth_eq d (show j < d.length by omega), show j < d.length by omega]
      · rw [if_neg (by omega), List.getElem?_drop, hlen, show nd + (j - nd) = j by omega]
        have := hc j hj
        rw [Array.getElem?_toList, this]
        unfold nth
        rw [List.getD_eq_getElem?_getD, List.getElem?_eq_none (by omega)]
        rfl
/-- What Split tells: shards in memory of the call's own. -/
def MoP (n C : Nat) (Z : Nat → Nat → UInt8) (w : World) (e : Ending) (w' : World) : Prop :=
  (∃ a c bl cp, e = .returned (.slice a n c) ∧ Mo w' w.heap.size a n c C bl cp Z) ∧ Below w.heap.size w w'

set_option maxHeartbeats 4000000 in
theorem split_any (b K M : Nat) (ad : Option Addr) (nd cd : Nat) (d : List UInt8) (w : World) (hc : Cod w b K M) (hd : Bs w ad nd cd d) (h1 : 1 ≤ K) (h2 : K ≤ 255) (h3 : nd ≤ 100000000) :
    Calls Try.prog 18 #[.pointer (some ⟨b, 0, none⟩), .slice ad nd cd] w (MoP K (Rs.wd K nd) (Rs.spl (Rs.wd K nd) d) w) := by
  have hk := hc.k
  have HD : Hid (∀ W, Below w.heap.size w W → Bs W ad nd cd d) := Lib.hid fun W h => hd.below h
  have HK : Hid (∀ W, Below w.heap.size w W → W.cell? ⟨b, 0, none⟩ = some (.int .i64 K)) := Lib.hid fun W h => cell_later h hk
  have HN := Lib.hid hd.1
  clear hc hd
  obtain ⟨W, hW⟩ : ∃ W, Rs.wd K nd = W := ⟨_, rfl⟩
  rw [hW]
  have w1 := wd_pos K nd
  have w2 := wd_le (n := nd) h1
  have w3 := wd_few (n := nd) h1
  obtain ⟨D, hD⟩ : ∃ D, (nd + K - 1) / K = D := ⟨_, rfl⟩
  have hWD : W = max 1 D := by rw [← hW, ← hD]; rfl
  rw [hW] at w1 w2 w3
  go_enter Try.func18, Try.ntmps18
  go_wp2_with fail
  refine wp_region_class (w0 := w) (by kernel_rfl) (by kernel_rfl) (Below.refl _ _) ?_
  have l1 := BW.cell hk
  repeat (first | go_big_quiet_step (fail))
  have e5 : (if (1 : Int) < ((nd : Int) + K - 1) / K then ((nd : Int) + K - 1) / K else 1) = (W : Int) := by
    have : ((nd : Int) + K - 1) / K = (D : Int) := by rw [← hD]; simp; congr 1; omega
    rw [this, hWD]
    split <;> omega
  rw [e5]
  refine wpQuiet_nil ?_
  intro wa hba; replace hba := BW.of hba
  clear l1 e5 hWD hD D
  have k1 := cell_later hba hk
  have e2 : (K : Int) * (W : Int) = ((K * W : Nat) : Int) := by simp
  obtain ⟨T, hT⟩ : ∃ T, K * W = T := ⟨_, rfl⟩
  rw [hT] at e2 w2 w3
  have hT9 : T ≤ 200000000 := by omega
  have hmk := run_make_row' (P := Try.prog) 22 5 (.int .u8 0) 1 Try.underlying22 info8 rfl .i64 .i64 T (by omega) (by omega)
  obtain ⟨wc, hcp, ho, hrow⟩ := copy_pad (rowTo.of_is (World.rowIs_made wa (.int .u8 0) T 5)) ((HD.out wa hba).below (below_alloc wa (.cells (madeCells #[.int .u8 0] T) 5))) (show nd ≤ T from w2)
  have hbc : Below wa.heap.size wa wc := (below_alloc wa _).trans (ho.below (by simp) (fun k hk => by subst hk; simp))
  have hbw : Below w.heap.size w wc := hba.trans (hbc.mono hba.size)
  have k2 := cell_later hbw hk
  have HROW := Lib.hid hrow
  have HBW := Lib.hid hbw
  clear hrow ho hbc hbw hba HD hk
  go_wp2
  clear hcp hmk k1 k2
  generalize hga : wa.heap.size = ga at *
  go_loopw [7, 37] (fun m i wr => ∃ (k c : Nat) (a : Option Addr) (bl cp : Nat → Nat), k ≤ K ∧ i = .int .i64 k ∧ m = .slice a k c ∧ Below wc.heap.size wc wr ∧ Mo wr wc.heap.size a k c W bl cp (Rs.spl W d)) (fun _ i _ => K - (intOf i).toNat)
  case atStart => exact ⟨0, 0, none, id, id, Nat.zero_le _, rfl, rfl, Below.refl _ _, Mo.nil _ _ _ _ _ _⟩
  case round =>
    obtain ⟨k, c, a, bl, cp, hk, rfl, rfl, hb, hm⟩ := hrel
    by_cases hlt : k < K
    · have m1 : (k : Int) * (W : Int) = ((k * W : Nat) : Int) := by simp
      have m2 : ((k : Int) + 1) * (W : Int) = (((k + 1) * W : Nat) : Int) := by simp
      have m3 : (k + 1) * W ≤ K * W := Nat.mul_le_mul_right _ hlt
      have m4 : k * W + W = (k + 1) * W := by rw [Nat.add_mul, Nat.one_mul]
      obtain ⟨X, hX⟩ : ∃ X, k * W = X := ⟨_, rfl⟩
      obtain ⟨Y, hY⟩ : ∃ Y, (k + 1) * W = Y := ⟨_, rfl⟩
      rw [hX] at m1 m4
      rw [hY] at m2 m3 m4
      rw [hT] at m3
      have hsl := slice_lh (some ⟨ga, 0, none⟩) T T (lo := (X : Int)) (hi := (Y : Int)) (lo' := X) (hi' := Y) rfl rfl (by omega) m3
      rw [show Y - X = W by omega] at hsl
      have hall : Bs wr (some ⟨ga, 0, none⟩) T T ((List.range T).map (nth d)) := bs_row (HROW.out.below hb) (by simp only [maxLen]; omega)
      have hpart : Bs wr (subA (some ⟨ga, 0, none⟩) T X) W (T - X) (((List.range T).map (nth d)).drop X |>.take W) := by
        have := hall.sub (lo := X) (hi := Y) (by omega) m3
        rwa [show Y - X = W by omega] at this
      have hel : ∀ j, j < W → nth (((List.range T).map (nth d)).drop X |>.take W) j = Rs.spl W d k j := fun j hj => by
        rw [nth_take _ hj (by simp; omega), nth_drop _ (by simp; omega), nth_eq _ (by simp; omega)]
        simp [Rs.spl, hX]
      have HPART := Lib.hid hpart
      have HEL := Lib.hid hel
      have HM := Lib.hid hm
      have HB := Lib.hid hb
      have hwz := hb.size
      clear hpart hel hm hb hall
      go_wp2_with fail
      refine (clone_any _ _ _ _ _ HPART.out (by omega)).mono ?_
      rintro e w9 ⟨a9, n9, c9, rfl, h9, hb9⟩
      obtain rfl : n9 = W := by have := h9.bs.1; simp at this; omega
      obtain ⟨g9, rfl, hnr⟩ := new_row' HM.out hwz (by omega) h9 hb9 HEL.out
      have HNR := Lib.hid hnr
      clear h9 hb9 hnr HPART HEL hsl m1 m2 m3 m4
      go_wp2_with (at_builtin; refine app_mo rfl _ _ rfl wc.heap.size rfl HNR.out.mo rfl HNR.out.cell HNR.out.cap HNR.out.row (by have := HNR.out.le; omega) HNR.out.ne.1 HNR.out.ne.2 (by omega) (by have := HNR.out.below.size; simp; omega) ?_; intro a' c' w' bl' cp' hm' hb')
      have hb10 : Below wc.heap.size wc w' := (HB.out.trans (HNR.out.below.mono hwz)).trans (((below_alloc w9 _).mono (Nat.le_trans hwz HNR.out.below.size)).trans hb')
      clear HM HB HNR
      go_wp2
      go_roundw
      case rel => exact ⟨k + 1, c', a', bl', cp', by omega, by go_num, rfl, hb10, hm'⟩
      case measure => simp [intOf]; omega
    · obtain rfl : k = K := by omega
      have HM := Lib.hid hm
      have HB := Lib.hid (HBW.out.trans (hb.mono HBW.out.size))
      clear hm hb
      go_wp2
      go_ret
      exact ⟨⟨_, _, _, _, rfl, HM.out.mono HBW.out.size⟩, HB.out⟩
end Go.Proofs.Ytppgbapfmijboaa

/- rs: Parity. -/
set_option maxRecDepth 100000
set_option linter.unusedVariables false
namespace Go.Proofs.Ytppgbapfmijboaa
open Go.RowKit Go.Deep

def Rs.parOk (K : Nat) (ls : List (List UInt8)) : Bool := (Rs.alk K ls).isSome && Rs.full ls
def Rs.par (K M : Nat) (ls : List (List UInt8)) : List (List UInt8) := mat M (nth ls 0).length (Rs.tm (mat M K (Gf.cau K)) ls K)
def Rs.parL (K M : Nat) (ls : List (List UInt8)) : List (List UInt8) := if Rs.parOk K ls = true then Rs.par K M ls else []
def Rs.parE (K : Nat) (ls : List (List UInt8)) : Int := if Rs.parOk K ls = true then 0 else 1

theorem zero_par : ZeroF 42 (.slice none 0 0) := by
  intro po x w h1 h2
  go_enter Try.func42, Try.ntmps42
  go_wp2
  go_end0
  exact ⟨rfl, rfl⟩

theorem sc_inv (ls : List (List UInt8)) : ∀ (k : Nat), k ≤ ls.length → ∀ x, Rs.sc (ls.take k) = some x → ∀ i, i < k → (nth ls i).length = 0 ∨ (nth ls i).length = x
  | 0, _, _, _, i, hi => by omega
  | k + 1, hk, x, h, i, hi => by
    rw [sc_snoc ls (by omega)] at h
    cases hm : Rs.sc (ls.take k) with
    | none => rw [hm] at h; cases h
    | some m =>
      rw [hm] at h
      simp only [Rs.sc1] at h
      split at h
      · cases h
      · rename_i hc
        have hx : max m (nth ls k).length = x := by simpa using h
        by_cases e : i = k
        · subst e; omega
        · have := sc_inv ls k (by omega) m hm i (by omega)
          omega
theorem sc_len {ls : List (List UInt8)} {s : Nat} (h : Rs.sc ls = some s) {i : Nat} (hi : i < ls.length) : (nth ls i).length = 0 ∨ (nth ls i).length = s :=
  sc_inv ls ls.length (Nat.le_refl _) s (by rw [List.take_length]; exact h) i hi
theorem alk_some {K s : Nat} {ls : List (List UInt8)} (h : Rs.alk K ls = some s) : ls.length = K ∧ Rs.sc ls = some s := by
  unfold Rs.alk at h
  by_cases e : ls.length = K
  · rw [if_pos e] at h; exact ⟨e, h⟩
  · rw [if_neg e] at h; cases h
theorem cau_row {K M j : Nat} (h : j < M) : (nth (mat M K (Gf.cau K)) j).length = K := by rw [mat_row h]; simp

/-- The two results' variables. -/
structure Two (w w2 : World) (x y : Value) : Prop where
  out : Below w.heap.size w w2
  c1 : w2.cell? ⟨w.heap.size, 0, none⟩ = some x
  c2 : w2.cell? ⟨w.heap.size + 1, 0, none⟩ = some y
  f1 : w2.frozen? ⟨w.heap.size, 0, none⟩ = false
  f2 : w2.frozen? ⟨w.heap.size + 1, 0, none⟩ = false
theorem Two.start (w : World) (x y : Value) (t1 t2 : TypeId) : Two w ((w.alloc (.cells #[x] t1)).alloc (.cells #[y] t2)) x y := by
  have hb : Below w.heap.size w ((w.alloc (.cells #[x] t1)).alloc (.cells #[y] t2)) := (below_alloc w _).trans ((below_alloc _ _).mono (by simp))
  have h1 : (w.alloc (.cells #[x] t1)).heap.size = w.heap.size + 1 := by simp
  have g1 : ((w.alloc (.cells #[x] t1)).alloc (.cells #[y] t2)).heap[w.heap.size]? = some (.cells #[x] t1 (0, 0)) := ((below_alloc (w.alloc (.cells #[x] t1)) (.cells #[y] t2)).block w.heap.size (by omega)).trans (heap_alloc_last w _)
  have g2 : ((w.alloc (.cells #[x] t1)).alloc (.cells #[y] t2)).heap[w.heap.size + 1]? = some (.cells #[y] t2 (0, 0)) := by rw [← h1]; exact heap_alloc_last _ _
  exact ⟨hb, by unfold World.cell?; simp only [g1]; rfl, by unfold World.cell?; simp only [g2]; rfl, by unfold World.frozen?; simp only [g1]; rfl, by unfold World.frozen?; simp only [g2]; rfl⟩
theorem Two.lt {w w2 : World} {x y : Value} (h : Two w w2 x y) : w.heap.size + 1 < w2.heap.size := by
  have := h.c2
  by_cases e : w.heap.size + 1 < w2.heap.size
  · exact e
  · simp [World.cell?, Array.getElem?_eq_none (by omega : w2.heap.size ≤ w.heap.size + 1)] at this
theorem Two.later {w w2 w3 : World} {x y : Value} (h : Two w w2 x y) (k : Below w2.heap.size w2 w3) : Two w w3 x y := by
  have hlt : w.heap.size + 1 < w2.heap.size := by
    have := h.c2
    by_cases e : w.heap.size + 1 < w2.heap.size
    · exact e
    · simp [World.cell?, Array.getElem?_eq_none (by omega : w2.heap.size ≤ w.heap.size + 1)] at this
  have e1 := k.block w.heap.size (by omega)
  have e2 := k.block (w.heap.size + 1) hlt
  exact ⟨h.out.trans (k.mono h.out.size), (World.cell?_of_block e1).trans h.c1, (World.cell?_of_block e2).trans h.c2,
    by have := h.f1; unfold World.frozen? at *; rw [e1]; exact this, by have := h.f2; unfold World.frozen? at *; rw [e2]; exact this⟩
theorem makeFunc_run (fn : Fn) (first cap : Array Value) (w : World) : (Instr.makeFunc fn first cap).run Try.prog w = .ok (.func fn first cap) w := rfl

theorem Two.set {w w2 : World} {x y : Value} (h : Two w w2 x y) (er z : Value) : Two w ((w2.setCell ⟨w.heap.size + 1, 0, none⟩ er).setCell ⟨w.heap.size, 0, none⟩ z) z er := by
  have g1 : (w2.setCell ⟨w.heap.size + 1, 0, none⟩ er).cell? ⟨w.heap.size, 0, none⟩ = some x := by rw [World.cell?_setCell_other _ _ _ _ (by simp)]; exact h.c1
  refine ⟨(h.out.setCell (by simp) _).setCell (by simp) _, World.cell?_setCell_same _ _ _ g1, ?_, by simpa using h.f1, by simpa using h.f2⟩
  rw [World.cell?_setCell_other _ _ _ _ (by simp)]
  exact World.cell?_setCell_same _ _ _ h.c2
theorem Two.set' {w w2 : World} {x y : Value} (h : Two w w2 x y) (er z : Value) : Two w ((w2.setCell ⟨w.heap.size, 0, none⟩ z).setCell ⟨w.heap.size + 1, 0, none⟩ er) z er := by
  have g1 : (w2.setCell ⟨w.heap.size, 0, none⟩ z).cell? ⟨w.heap.size + 1, 0, none⟩ = some y := by rw [World.cell?_setCell_other _ _ _ _ (by simp)]; exact h.c2
  refine ⟨(h.out.setCell (by simp) _).setCell (by simp) _, ?_, World.cell?_setCell_same _ _ _ g1, by simpa using h.f1, by simpa using h.f2⟩
  rw [World.cell?_setCell_other _ _ _ _ (by simp)]
  exact World.cell?_setCell_same _ _ _ h.c1
/-- The results are read out of the two variables. -/
def Reads2 (fn : Func) (tmps : Array Value) (n : Nat) : Prop := ∀ (W : World) (v1 v2 : Value), W.cell? ⟨n, 0, none⟩ = some v1 → W.cell? ⟨n + 1, 0, none⟩ = some v2 → (results fn tmps).run Try.prog W = .ok (.tuple #[v1, v2]) W
def deferTold (n F : Nat) : Deferred := { target := .fn (.func 27) #[], args := #[.pointer (some ⟨n + 1, 0, none⟩), .func (.func F) #[] #[.pointer (some ⟨n, 0, none⟩)]] }
/-- The door, where an error was given up. -/
theorem door_err {fn : Func} {tmps : Array Value} {w w2 : World} {x z : Value} {y er : Int} {F : Nat} {R : Ending → World → Prop} (hr : Reads2 fn tmps w.heap.size) (hT : Two w w2 x (.int .i64 y)) (eg : Enters Try.prog F) (hF : ZeroF F z)
    (hR : ∀ W, Below w.heap.size w W → R (.returned (.tuple #[z, .int .i64 er])) W) : Leaves Try.prog fn tmps R [deferTold w.heap.size F] (.panicking [errE er]) w2 := by
  refine leaves_cons (f := 27) (args := #[.pointer (some ⟨w.heap.size + 1, 0, none⟩), .func (.func F) #[] #[.pointer (some ⟨w.heap.size, 0, none⟩)]]) (by simp) (by simp [go_sem]) ?_
  refine (told_err ⟨w.heap.size + 1, 0, none⟩ ⟨w.heap.size, 0, none⟩ F z x y er w2 eg hF hT.c2 hT.f2 hT.c1 hT.f1 (by simp)).mono ?_
  rintro e u' w'' ⟨rfl, rfl, rfl⟩
  have h := hT.set (.int .i64 er) z
  exact ⟨_, hr _ _ _ h.c1 h.c2, hR _ h.out⟩
/-- The door, where the function returns. -/
theorem door_ok {fn : Func} {tmps : Array Value} {w w2 : World} {x y : Value} {F : Nat} {R : Ending → World → Prop} (hr : Reads2 fn tmps w.heap.size) (hT : Two w w2 x y)
    (hR : R (.returned (.tuple #[x, y])) w2) : Leaves Try.prog fn tmps R [deferTold w.heap.size F] .returning w2 := by
  refine leaves_cons (f := 27) (args := #[.pointer (some ⟨w.heap.size + 1, 0, none⟩), .func (.func F) #[] #[.pointer (some ⟨w.heap.size, 0, none⟩)]]) (by simp) (by simp [go_sem]) ?_
  refine (told_idle _ _ _ _).mono ?_
  rintro e u' w'' ⟨rfl, rfl, rfl⟩
  exact ⟨_, hr _ _ _ hT.c1 hT.c2, hR⟩

set_option maxHeartbeats 2000000 in
theorem parity_any (b K M : Nat) (aq : Option Addr) (ns cs : Nat) (ls : List (List UInt8)) (w : World) (hc : Cod w b K M) (hs : Bss w aq ns cs ls) (h1 : 1 ≤ K) (h2 : K + M ≤ 255) (h3 : ns ≤ 1000000000) (h4 : ∀ i, i < ns → (nth ls i).length ≤ 100000000) :
    Calls Try.prog 21 #[.pointer (some ⟨b, 0, none⟩), .slice aq ns cs] w (MOwn (Rs.parL K M ls) (Rs.parE K ls) w) := by
  have hmf := makeFunc_run
  obtain ⟨w2, hw2⟩ : ∃ w2, (w.alloc (.cells #[.slice none 0 0] 28)).alloc (.cells #[.int .i64 0] 25) = w2 := ⟨_, rfl⟩
  have hT := Two.start w (.slice none 0 0) (.int .i64 0) 28 25
  rw [hw2] at hT
  have HC : Hid (∀ W, Below w.heap.size w W → Cod W b K M) := Lib.hid fun W h => hc.below h
  have HS : Hid (∀ W, Below w.heap.size w W → Bss W aq ns cs ls) := Lib.hid fun W h => hs.below h
  have HT := Lib.hid hT
  have HW := Lib.hid hw2
  have k1 := (HC.out w2 hT.out).k
  have k0 := k1
  rw [← hw2] at k0
  clear hc hs hT hw2
  go_enter_defers Try.func21, Try.ntmps21
  go_wp2_with fail
  rw [HW.out]
  clear k0 HW
  refine (alike_any _ K ns cs ls w2 (HS.out _ HT.out.out) (by omega)).mono ?_
  rintro e w3 ⟨rfl, rfl⟩
  cases hA : Rs.alk K ls with
  | none =>
    simp only [alkE]
    have e1 : Rs.parOk K ls = false := by unfold Rs.parOk; rw [hA]; rfl
    refine door_err (F := 42) (fun W v1 v2 g1 g2 => by simp [results, Try.results21, go_sem, g1, g2]) HT.out (enters_of Try.func42 (by kernel_rfl) rfl) zero_par (fun W hb => ?_)
    unfold Rs.parL Rs.parE
    rw [e1]
    exact nil_own rfl hb
  | some s =>
    simp only [alkE]
    go_wp2_with fail
    refine (missing_any _ _ _ ls w2 (HS.out _ HT.out.out) h3).mono ?_
    rintro e w3 ⟨r, q, rfl, hr, hq⟩
    have HT3 := Lib.hid (HT.out.later (hq ▸ below_drewN (Below.refl _ _) q))
    have HR := Lib.hid hr
    have HA := Lib.hid hA
    clear HT hq hr hA k1
    by_cases hf : Rs.full ls = true
    case neg =>
      have hf : Rs.full ls = false := by simpa using hf
      have hr0 : 0 ≤ r := by have := HR.out; rw [hf] at this; simpa using this
      have t1 : decide (0 ≤ r) = true := decide_eq_true hr0
      have e1 : Hid (Rs.parOk K ls = false) := Lib.hid (by unfold Rs.parOk; rw [hf]; simp)
      clear hr0 hf
      go_wp2_with (go_at_call 31; refine (give_any _ _).mono ?_; rintro e w' ⟨rfl, rfl⟩)
      refine door_err (F := 42) (fun W v1 v2 g1 g2 => by simp [results, Try.results21, go_sem, g1, g2]) HT3.out (enters_of Try.func42 (by kernel_rfl) rfl) zero_par (fun W hb => ?_)
      unfold Rs.parL Rs.parE
      rw [e1.out]
      exact nil_own rfl hb
    have hr0 : r < 0 := by have := HR.out; rw [hf] at this; simpa using this
    have t1 : decide (0 ≤ r) = false := decide_eq_false (by omega)
    have e1 : Hid (Rs.parOk K ls = true) := Lib.hid (by unfold Rs.parOk; rw [hf, HA.out]; rfl)
    obtain ⟨hlen, hsc⟩ := alk_some HA.out
    have hns := (HS.out _ HT3.out.out).1
    obtain rfl : ns = K := by omega
    have HL : Hid (∀ i, i < ns → (nth ls i).length = s) := Lib.hid fun i hi => by
      rcases sc_len hsc (i := i) (by omega) with h | h
      · exact absurd h (full_at hf (by omega))
      · exact h
    have hs4 : s ≤ 100000000 := by rw [← HL.out 0 (by omega)]; exact h4 0 (by omega)
    have hcd := HC.out _ HT3.out.out
    have k2 := hcd.m
    obtain ⟨ap, np, cp, k3, hp⟩ := hcd.p
    have HP := Lib.hid hp
    have c1 := HT3.out.c1
    have c2 := HT3.out.c2
    have f1 := HT3.out.f1
    have f2 := HT3.out.f2
    have HN := Lib.hid hns
    clear hr0 hf hcd hp hlen hsc HR hns h4
    have hE : Rs.parE ns ls = 0 := by unfold Rs.parE; rw [e1.out]; rfl
    by_cases hM : M = 0
    · subst hM
      have t2 : ((0 : Nat) : Int) == 0 := rfl
      have hLL : Hid (Rs.parL ns 0 ls = []) := Lib.hid (by unfold Rs.parL; rw [e1.out]; rfl)
      have hEE := Lib.hid hE
      clear hE
      go_wp2
      refine door_ok (F := 42) (fun W v1 v2 g1 g2 => by simp [results, Try.results21, go_sem, g1, g2]) (HT3.out.set' (.int .i64 0) (.slice none 0 0)) ?_
      rw [hLL.out, hEE.out]
      exact nil_own rfl (HT3.out.set' (.int .i64 0) (.slice none 0 0)).out
    · have t2 : ((M : Int) == 0) = false := by simp; omega
      have hLL : Hid (Rs.parL ns M ls = mat M s (Rs.tm (mat M ns (Gf.cau ns)) ls ns)) := Lib.hid (by unfold Rs.parL Rs.par; rw [e1.out, if_pos rfl, HL.out 0 (by omega)])
      have hEE := Lib.hid hE
      have hnp : np = M := by rw [← HP.out.1, mat_len]
      subst hnp
      clear hE hM c1 c2 f1 f2
      go_wp2_with fail
      refine (times_any' _ _ _ _ _ _ _ _ s w3 HP.out (HS.out _ HT3.out.out) (by omega) HL.out (fun j hj => by rw [cau_row hj]; exact Nat.le_refl _) (by omega) (by omega) (by omega)).mono ?_
      rintro e w4 ⟨⟨g, bl, rfl, hmx⟩, hb4⟩
      have HT4 := Lib.hid (HT3.out.later hb4)
      have c1 := HT4.out.c1
      have c2 := HT4.out.c2
      have f1 := HT4.out.f1
      have f2 := HT4.out.f2
      have hlt : w.heap.size + 1 < w3.heap.size := HT3.out.lt
      have HX : Hid (Mx ((w4.setCell ⟨w.heap.size, 0, none⟩ (.slice (some ⟨g, 0, none⟩) np np)).setCell ⟨w.heap.size + 1, 0, none⟩ (.int .i64 0)) w3.heap.size g np s bl (Rs.tm (mat np ns (Gf.cau ns)) ls ns)) :=
        Lib.hid (hmx.other fun j hj => (Below.heap_setCell _ _ _ _ (by show j ≠ w.heap.size + 1; omega)).trans (Below.heap_setCell _ _ _ _ (by show j ≠ w.heap.size; omega)))
      clear hmx hb4
      go_wp2
      refine door_ok (F := 42) (fun W v1 v2 g1 g2 => by simp [results, Try.results21, go_sem, g1, g2]) (HT4.out.set' (.int .i64 0) (.slice (some ⟨g, 0, none⟩) np np)) ?_
      rw [hLL.out, hEE.out]
      have hmy := HX.out.my (by simp only [maxLen]; omega)
      exact ⟨⟨_, _, _, rfl, hmy.bss (Nat.le_refl _) (by simp only [maxLen]; omega), .inr ⟨g, s, bl, _, _, rfl, hmy.mono (by omega), rfl⟩⟩, (HT4.out.set' (.int .i64 0) (.slice (some ⟨g, 0, none⟩) np np)).out⟩
end Go.Proofs.Ytppgbapfmijboaa
