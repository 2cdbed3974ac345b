/- The reference's table: Twin, tower; an entry set in a row. -/
import Derived.Test.YtgcealgkhlbgmaaMmh
namespace Go.Proofs.Ytgcealgkhlbgmaa
open Go.RowKit
set_option linter.unusedVariables false

set_option maxHeartbeats 1000000 in
theorem reftwin_any (e : Ent) (a : Option Addr) (c : Nat) (w : World) (h : Bs w a e.val.length c e.val) (hf : e.val.length ≤ 1000000000) :
    Calls Try.prog 17 #[ev e a c] w (RetEv e w) := by
  have hb := two_boxes w (.cells #[.string (bstr e.key), .int .u64 e.seq, .bool e.gone, .slice a e.val.length c] 30) (.cells #[.string ⟨#[]⟩, .int .u64 0, .bool false, .slice none 0 0] 30)
  have hz : ((w.alloc (.cells #[.string (bstr e.key), .int .u64 e.seq, .bool e.gone, .slice a e.val.length c] 30)).alloc (.cells #[.string ⟨#[]⟩, .int .u64 0, .bool false, .slice none 0 0] 30)).heap.size = w.heap.size + 2 := by simp
  have g0 := (Below.heap_alloc (w.alloc (.cells #[.string (bstr e.key), .int .u64 e.seq, .bool e.gone, .slice a e.val.length c] 30)) (.cells #[.string ⟨#[]⟩, .int .u64 0, .bool false, .slice none 0 0] 30) w.heap.size (by simp)).trans (heap_alloc_new w (.cells #[.string (bstr e.key), .int .u64 e.seq, .bool e.gone, .slice a e.val.length c] 30))
  have g1 := heap_alloc_new (w.alloc (.cells #[.string (bstr e.key), .int .u64 e.seq, .bool e.gone, .slice a e.val.length c] 30)) (.cells #[.string ⟨#[]⟩, .int .u64 0, .bool false, .slice none 0 0] 30)
  rw [World.size_alloc] at g1
  unfold ev
  go_enter Try.func17, Try.ntmps17
  go_upto_region 1 with fail
  obtain ⟨W, hW⟩ : ∃ W, (w.alloc (.cells #[.string (bstr e.key), .int .u64 e.seq, .bool e.gone, .slice a e.val.length c] 30)).alloc (.cells #[.string ⟨#[]⟩, .int .u64 0, .bool false, .slice none 0 0] 30) = W := ⟨_, rfl⟩
  rw [hW] at hb hz g0 g1 ⊢
  clear hW
  have q3 := cell_of_row _ _ 3 _ _ _ g0
  simp at q3
  have q3a := cell_later (below_alloc1 W (.cells #[] 5)) q3
  have HB := Lib.hid hb
  have HV := Lib.hid (h.below hb)
  have HG0 := Lib.hid g0
  have HG1 := Lib.hid g1
  have HZ := Lib.hid hz
  clear hb h g0 g1 hz
  have HEND : Hid (∀ (a'' : Option Addr) (c'' : Nat) (w' : World), Own w' W.heap.size a'' e.val.length c'' e.val → Below W.heap.size W w' → EntAt w' w.heap.size 0 e a c ∧ (∀ j, w'.frozen? ⟨w.heap.size, j, none⟩ = false) ∧ EntAt w' (w.heap.size + 1) 0 default none 0 ∧ (∀ j, w'.frozen? ⟨w.heap.size + 1, j, none⟩ = false)) := Lib.hid fun a'' c'' w' h1 h2 => by
    have hz := HZ.out
    have k0 := (h2.block w.heap.size (by omega)).trans HG0.out
    have k1 := (h2.block (w.heap.size + 1) (by omega)).trans HG1.out
    exact ⟨⟨cell_of_row _ _ 0 _ _ _ k0, cell_of_row _ _ 1 _ _ _ k0, cell_of_row _ _ 2 _ _ _ k0, cell_of_row _ _ 3 _ _ _ k0⟩, fun j => by simp [World.frozen?, k0], ⟨cell_of_row _ _ 0 _ _ _ k1, cell_of_row _ _ 1 _ _ _ k1, cell_of_row _ _ 2 _ _ _ k1, cell_of_row _ _ 3 _ _ _ k1⟩, fun j => by simp [World.frozen?, k1]⟩
  go_upto_region 2 with (at_builtin; refine app_own rfl _ _ rfl W.heap.size rfl (Own.lit W W.heap.size [] (Nat.le_refl _) (by simp [maxLen])) rfl (HV.out.below (below_alloc1 W _)) (by simp; omega) (le_alloc (Nat.le_refl _)) ?_; intro a'' c'' w' h1 h2 _; rw [Nat.zero_add, List.nil_append] at h1; have hb2 := (below_alloc1 W _).trans h2; obtain ⟨e1, f1, e2, f2⟩ := HEND.out a'' c'' w' h1 hb2; have HE1 := Lib.hid e1; have HE2 := Lib.hid e2; have H1 := Lib.hid h1; have HB2 := Lib.hid hb2; have q3' := e1.val; simp at q3'; clear h1 h2 hb2 e1 e2)
  have hf3 := fun j => (World.frozen?_setCell (w := w') (a := ⟨w.heap.size, 3, none⟩) (v := .slice a'' e.val.length c'') (b := ⟨w.heap.size + 1, j, none⟩)).trans (f2 j)
  have hx3 := HE1.out.setVal (e' := e) (a' := a'') (c' := c'') rfl rfl rfl
  have hkp : Keep [w.heap.size] w' (w'.setCell ⟨w.heap.size, 3, none⟩ (.slice a'' e.val.length c'')) := (Keep.refl _ _).set (p := ⟨w.heap.size, 3, none⟩) _ (.inr ⟨List.mem_singleton.2 rfl, fun n => by rw [q3']; exact fun e => by cases e⟩)
  have hx4 := HE2.out.keep hkp (fun hm => by have := List.mem_singleton.1 hm; omega)
  have hwl : w.heap.size ≤ W.heap.size := HB.out.size
  have hown := own_keep (H1.out : World.ownsRow _ _ _ _ _ _ _) (w' := w'.setCell ⟨w.heap.size, 3, none⟩ (.slice a'' e.val.length c'')) (fun g hg => Below.heap_setCell _ _ _ _ (by show g ≠ w.heap.size; have := HZ.out; omega))
  have hbe := (HB.out.trans (HB2.out.mono hwl)).setCell (p := ⟨w.heap.size, 3, none⟩) (Nat.le_refl _) (.slice a'' e.val.length c'')
  obtain ⟨W5, hW5⟩ : ∃ W5, w'.setCell ⟨w.heap.size, 3, none⟩ (.slice a'' e.val.length c'') = W5 := ⟨_, rfl⟩
  rw [hW5] at hf3 hx3 hx4 hown hbe ⊢
  have k0 := hx3.key
  have k1 := hx3.seq
  have k2 := hx3.gone
  have k3 := hx3.val
  have r0 := hx4.key
  have r1 := hx4.seq
  have r2 := hx4.gone
  have r3 := hx4.val
  simp only [Nat.zero_add] at k0 k1 k2 k3 r0 r1 r2 r3
  have HX4 := Lib.hid hx4
  have HOWN := Lib.hid hown
  have HBE := Lib.hid hbe
  clear hkp hx3 hx4 hown hbe hW5 q3' f1 f2 q3 q3a
  go_wp2
  have hp := put4_at (e := e) (a := a'') (c := c'') HX4.out
  have p0 := hp.key
  have p1 := hp.seq
  have p2 := hp.gone
  have p3 := hp.val
  unfold put4 at p0 p1 p2 p3
  simp only [Nat.zero_add] at p0 p1 p2 p3
  refine bodyPost_ret (v := ev e a'' c'') (by simp [results, Try.results17, go_sem, ev, p0, p1, p2, p3]) rfl ⟨a'', c'', rfl, ?_, ?_⟩
  · refine own_mono (own_keep HOWN.out fun g hg => ?_) hwl
    have hz := HZ.out
    rw [Below.heap_setCell _ _ _ _ (by show g ≠ w.heap.size + 1; omega), Below.heap_setCell _ _ _ _ (by show g ≠ w.heap.size + 1; omega), Below.heap_setCell _ _ _ _ (by show g ≠ w.heap.size + 1; omega), Below.heap_setCell _ _ _ _ (by show g ≠ w.heap.size + 1; omega)]
  · exact (((HBE.out.setCell (p := ⟨w.heap.size + 1, 0, none⟩) (Nat.le_succ _) _).setCell (p := ⟨w.heap.size + 1, 1, none⟩) (Nat.le_succ _) _).setCell (p := ⟨w.heap.size + 1, 2, none⟩) (Nat.le_succ _) _).setCell (p := ⟨w.heap.size + 1, 3, none⟩) (Nat.le_succ _) _
/-- The reference's table: its box, its rows (the blocks R that are written in place). -/
def RT (w : World) (B rb : Nat) (R : List Nat) (ad : Option Addr) (nd cd : Nat) (ld : List Int) (L : List Ent) (hs : List Nat) : Prop :=
  ∃ aL cL aH cH, w.heap[rb]? = some (.cells #[.slice ad nd cd, .slice aL L.length cL, .slice aH hs.length cH, .int .i64 (L.length : Nat)] 43) ∧ AccE w B aL L.length cL L ∧ AccH w B aH hs.length cH hs ∧ Is w ad nd cd ld ∧ B ≤ rb ∧ hs.length = L.length ∧ (0 < nd → ∀ x, ad = some x → x.block < B) ∧ R = rb :: db aL
theorem reftower_any (B rb : Nat) (R : List Nat) (ad : Option Addr) (nd cd : Nat) (ld : List Int) (L : List Ent) (hs : List Nat) (w : World) (h : RT w B rb R ad nd cd ld L hs) (hn : L.length ≤ 1000000000) :
    Calls Try.prog 36 #[.pointer (some ⟨rb, 0, none⟩)] w fun e w' => e = .returned (.int .i64 (tower ld L.length : Nat)) ∧ ∃ w1, Below w.heap.size w w1 ∧ w' = w1.setCell ⟨rb, 3, none⟩ (.int .i64 ((L.length + 1 : Nat) : Int)) := by
  obtain ⟨aL, cL, aH, cH, hb, _, _, hI, _, _, _, _⟩ := h
  have hl := hI.le.1
  have hlen := hI.1
  have c0 := cell_of_row _ _ 0 _ _ _ hb
  have c3 := cell_of_row _ _ 3 _ _ _ hb
  have f3 : ∀ j, w.frozen? ⟨rb, j, none⟩ = false := fun j => by simp [World.frozen?, hb]
  simp at c0 c3
  obtain ⟨m, hm⟩ : ∃ m, m = L.length := ⟨_, rfl⟩
  rw [← hm] at c3 hn ⊢
  clear hm hb
  by_cases h0 : nd = 0
  · have E : Hid (tower ld m = 1) := Lib.hid (by unfold tower; rw [if_pos (by omega)])
    subst h0
    clear hI hlen
    go_enter Try.func36, Try.ntmps36
    go_wp2
    go_ret
    exact ⟨by rw [E.out]; rfl, w, Below.refl _ _, rfl⟩
  · have hlt : m % nd < nd := Nat.mod_lt _ (by omega)
    obtain ⟨b, off, rfl, hcell⟩ := hI.get hlt
    have E : Hid (tower ld m = 1 + (max (nth ld (m % nd)) 0).toNat % 12) := Lib.hid (by unfold tower; rw [if_neg (by omega), hlen])
    have hz := hI.bd hlt
    have t1 : decide ((0 : Int) < (nd : Int)) = true := decide_eq_true (by omega)
    clear hI hlen
    generalize nth ld (m % nd) = z at *
    obtain ⟨r, hr⟩ : ∃ r, r = m % nd := ⟨_, rfl⟩
    rw [← hr] at hcell hlt
    have hm1 : (m : Int) % (nd : Int) = (r : Int) := by rw [hr, Int.natCast_emod]
    have hm2 : Int.tmod (m : Int) (nd : Int) = (r : Int) := by rw [← hm1]; exact Int.tmod_eq_emod_of_nonneg (by omega)
    have hnd : (nd : Int) ≠ 0 := by omega
    clear hr
    have hz1 := hz.lo
    have hz2 := hz.hi
    clear hz
    go_enter Try.func36, Try.ntmps36
    go_upto_region 3 with fail
    refine wp_region_class (w0 := w) (by kernel_rfl) (by kernel_rfl) (Below.refl _ _) ?_
    have d0 := BW.cell c0
    have d3 := BW.cell c3
    have dc := BW.cell hcell
    repeat (first | go_big_quiet_step (fail))
    refine wpQuiet_nil ?_
    intro w9 hb9; replace hb9 := BW.of hb9
    replace c3 := cell_later hb9 c3
    have hrbl : rb < w.heap.size := World.block_lt_of_cell? _ _ c0
    have f3' : ∀ j, w9.frozen? ⟨rb, j, none⟩ = false := fun j => (hb9.frozen (p := ⟨rb, j, none⟩) hrbl).trans (f3 j)
    have HB9 := Lib.hid hb9
    clear d0 d3 dc c0 hcell f3 hb9 hm1 hm2
    by_cases hzn : 0 ≤ z
    · have t4 : decide (0 ≤ z) = true := decide_eq_true hzn
      have hm12 : Int.tmod z 12 = z % 12 := Int.tmod_eq_emod_of_nonneg hzn
      have HV12 : Hid ((1 : Int) + z % 12 = ((1 + (max z 0).toNat % 12 : Nat) : Int)) := Lib.hid (by omega)
      go_wp2
      go_ret
      refine ⟨?_, w9, HB9.out, rfl⟩
      rw [E.out, ← HV12.out]
      try rfl
      try rw [hm12]
    · have t4 : decide (0 ≤ z) = false := decide_eq_false hzn
      have HV12 : Hid ((max z 0).toNat % 12 = 0) := Lib.hid (by omega)
      go_wp2
      go_ret
      refine ⟨?_, w9, HB9.out, rfl⟩
      rw [E.out, HV12.out]
      rfl
end Go.Proofs.Ytgcealgkhlbgmaa
