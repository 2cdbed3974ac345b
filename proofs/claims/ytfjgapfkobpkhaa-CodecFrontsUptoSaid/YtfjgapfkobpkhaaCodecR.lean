/- Frames one behind the other are read: codec.ReadFrames, the reference's. -/
import Derived.Test.YtfjgapfkobpkhaaCodecH
import Derived.Test.YtfjgapfkobpkhaaRows2
namespace Go.Proofs.Ytfjgapfkobpkhaa
open Go.RowKit

/-- How far the reading is: 'done' is read, k bytes are behind it. -/
def Codec.Rest (l : List UInt8) (k : Nat) (ls : List (List UInt8)) : Prop :=
  ∃ f, (l.drop k).length < f ∧ Codec.rdFrames l = (ls ++ (Codec.rdFramesF f (l.drop k)).1, k + (Codec.rdFramesF f (l.drop k)).2.1, (Codec.rdFramesF f (l.drop k)).2.2)
theorem rest_start (l : List UInt8) : Codec.Rest l 0 [] := ⟨l.length + 1, by simp, by simp [Codec.rdFrames]⟩
theorem rest_end {l : List UInt8} {k : Nat} {ls : List (List UInt8)} (h : Codec.Rest l k ls) (hk : l.length ≤ k) : Codec.rdFrames l = (ls, k, 0) := by
  obtain ⟨f, hf, e⟩ := h
  cases f with
  | zero => omega
  | succ f =>
    rw [List.drop_eq_nil_of_le hk] at e
    simpa [Codec.rdFramesF] using e
theorem drop_ne {l : List UInt8} {k : Nat} (hk : k < l.length) : l.drop k ≠ [] := by
  intro e
  have := congrArg List.length e
  simp at this
  omega
theorem rest_err {l : List UInt8} {k : Nat} {ls : List (List UInt8)} (h : Codec.Rest l k ls) (hk : k < l.length) (he : (Codec.decFrame (l.drop k)).2.2 ≠ 0) : Codec.rdFrames l = (ls, k, (Codec.decFrame (l.drop k)).2.2) := by
  obtain ⟨f, hf, e⟩ := h
  cases f with
  | zero => omega
  | succ f =>
    unfold Codec.rdFramesF at e
    rw [if_neg (drop_ne hk), if_pos he] at e
    simpa using e
theorem rest_step {l : List UInt8} {k : Nat} {ls : List (List UInt8)} (h : Codec.Rest l k ls) (hk : k < l.length) (he : (Codec.decFrame (l.drop k)).2.2 = 0) :
    Codec.Rest l (k + (Codec.decFrame (l.drop k)).2.1) (ls ++ [(Codec.rdFrame (l.drop k)).1]) := by
  obtain ⟨f, hf, e⟩ := h
  obtain ⟨v, m, _, _, _, _, hd, h0, hle⟩ := Codec.decFrame_ok he
  cases f with
  | zero => omega
  | succ f =>
    unfold Codec.rdFramesF at e
    rw [if_neg (drop_ne hk), if_neg (by omega)] at e
    refine ⟨f, ?_, ?_⟩
    · rw [hd]
      simp only [List.length_drop] at hf hle ⊢
      omega
    · rw [e, ← List.drop_drop]
      simp [Nat.add_assoc]
theorem rd_part {l : List UInt8} {k : Nat} (he : (Codec.decFrame (l.drop k)).2.2 = 0) (hk : k ≤ l.length) :
    ∃ F T, Codec.decFrame (l.drop k) = (F, T, 0) ∧ F ≤ T ∧ 0 < T ∧ k + T ≤ l.length ∧ T - F ≤ 67108864 ∧ (Codec.rdFrame (l.drop k)) = ((l.drop (k + F)).take (T - F), T, 0) := by
  obtain ⟨v, m, _, hv, _, _, hd, h0, hle⟩ := Codec.decFrame_ok he
  refine ⟨_, _, hd, by omega, by omega, ?_, by omega, ?_⟩
  · simp only [List.length_drop] at hle
    omega
  · unfold Codec.rdFrame
    rw [if_pos he, hd, List.drop_drop]

set_option maxHeartbeats 4000000 in
theorem readframes_any (ab : Option Addr) (nb cb : Nat) (b : List UInt8) (w : World) (hb : Bs w ab nb cb b) (fb : Fits nb) (hsm : nb ≤ 1000000000000) :
    Calls Try.prog 26 #[.slice ab nb cb] w fun e w' => ∃ a n c, e = .returned (.tuple #[.slice a n c, .int .i64 ((Codec.rdFrames b).2.1 : Nat), .int .i64 ((Codec.rdFrames b).2.2 : Nat)]) ∧ Acc w' w.heap.size a n c (Codec.rdFrames b).1 ∧ Below w.heap.size w w' := by
  have hle := hb.le.1
  have hlc := hb.2.1
  have HL := Lib.hid hb.1
  go_enter Try.func26, Try.ntmps26
  go_wp2
  go_loopw [5, 6] (fun vo i wr => ∃ (k : Nat) (a : Option Addr) (n c : Nat) (ls : List (List UInt8)), k ≤ nb ∧ n ≤ k ∧ i = .int .i64 k ∧ vo = .slice a n c ∧ Acc wr w.heap.size a n c ls ∧ Hid (Codec.Rest b k ls) ∧ Below w.heap.size w wr) (fun _ i _ => nb - (intOf i).toNat)
  case atStart => exact ⟨0, none, 0, 0, [], by omega, by omega, rfl, rfl, Acc.nil _ _, Lib.hid (rest_start b), Below.refl _ _⟩
  case round =>
    obtain ⟨k, a, n, c, ls, hk, hnk, rfl, rfl, hacc, hrest, hbl⟩ := hrel
    have hcap := hacc.cap
    simp only [maxLen] at hcap
    by_cases hlt : k < nb
    · have hq := (hb.below hbl).drop (k := k) hk
      have hsl := fun w => slice_l ab nb cb (lo := (k : Int)) (lo' := k) rfl hk w
      by_cases he : (Codec.decFrame (b.drop k)).2.2 = 0
      · have hst := rest_step hrest.out (by rw [HL.out]; exact hlt) he
        obtain ⟨F, T, hd, hFT, hT0, hkT, hTF, hrd⟩ := rd_part he (by rw [HL.out]; exact hk)
        rw [hd, hrd] at hst
        rw [HL.out] at hkT
        have hs2 := fun w => slice_lh ab nb cb (lo := (k : Int) + (F : Int)) (hi := (k : Int) + (T : Int)) (lo' := k + F) (hi' := k + T) (by omega) (by omega) (by omega) (by omega) w
        rw [show k + T - (k + F) = T - F by omega] at hs2
        have hp := fun (w' : World) (h : Below w.heap.size w w') => (hb.below h).sub (lo := k + F) (hi := k + T) (by omega) (by omega)
        rw [show k + T - (k + F) = T - F by omega] at hp
        have HD := Lib.hid hd
        have HS := Lib.hid hst
        clear hd hst hrd he hrest
        go_wp2_with fail
        refine (frameread_any _ _ _ _ _ hq).mono ?_
        rintro e w1 ⟨rfl, hb1⟩
        rw [HD.out]
        have hbl1 := hbl.trans (hb1.mono hbl.size)
        go_wp2_with fail
        refine (clone_any _ _ _ _ _ (hp _ hbl1) ⟨by have := hTF; omega⟩).mono ?_
        rintro e w2 ⟨a2, n2, c2, rfl, ho2, hb2⟩
        have hbl2 := hbl1.trans (hb2.mono hbl1.size)
        have hacc2 := (hacc.below hb1).below hb2
        have hne : 0 < n2 → ∀ x y, a2 = some x → a = some y → x.block ≠ y.block := fun _ x y hx hy e => by
          have h1 := (ho2.new x hx).1
          have h2 := (hacc.new y hy).2
          have h3 := hb1.size
          omega
        have HA := Lib.hid (hacc2.below ((Below.refl _ _).alloc (Nat.le_refl _) (.cells #[.slice a2 n2 c2] 28)))
        have HE := Lib.hid (ho2.bs.below ((Below.refl w2.heap.size w2).alloc (Nat.le_refl _) (.cells #[.slice a2 n2 c2] 28)))
        have HN := Lib.hid hne
        have HC : Hid ((w2.alloc (.cells #[.slice a2 n2 c2] 28)).cell? ⟨w2.heap.size, 0, none⟩ = some (.slice a2 n2 c2)) := Lib.hid (by rw [cell_of_row _ _ _ _ _ _ (heap_alloc_new w2 _)]; rfl)
        have HZ := Lib.hid hbl2
        clear hacc2 hne hbl2 ho2 hb2 hacc
        go_wp2_with (at_builtin; refine app_acc rfl _ _ rfl w.heap.size rfl HA.out rfl HC.out HE.out HN.out (by omega) (le_alloc HZ.out.size) ?_; intro a5 c5 w5 h5 hb5)
        go_roundw
        case rel => exact ⟨k + T, _, _, _, _, hkT, by omega, by go_num, rfl, h5, HS, HZ.out.trans (((Below.refl _ _).alloc HZ.out.size _).trans hb5)⟩
        case measure => simp [intOf]; omega
      · have hst := rest_err hrest.out (by rw [HL.out]; exact hlt) he
        obtain ⟨f, t, er, hd⟩ : ∃ f t er, Codec.decFrame (b.drop k) = (f, t, er) := ⟨_, _, _, rfl⟩
        rw [hd] at he hst
        have t1 : ((er : Int) != 0) = true := by simp; simpa using he
        have HD := Lib.hid hd
        have HS := Lib.hid hst
        clear hd hst he hrest
        go_wp2_with fail
        refine (frameread_any _ _ _ _ _ hq).mono ?_
        rintro e w1 ⟨rfl, hb1⟩
        rw [HD.out]
        go_wp2
        go_ret3
        rw [HS.out]
        exact ⟨_, _, _, rfl, hacc.below hb1, hbl.trans (hb1.mono hbl.size)⟩
    · have hst := rest_end hrest.out (by rw [HL.out]; omega)
      have HS := Lib.hid hst
      clear hst hrest
      go_wp2
      go_ret3
      rw [HS.out]
      exact ⟨_, _, _, rfl, hacc, hbl⟩
set_option maxHeartbeats 4000000 in
theorem refreadframes_any (ab : Option Addr) (nb cb : Nat) (b : List UInt8) (w : World) (hb : Bs w ab nb cb b) (hsm : nb ≤ 1000000000000) :
    Calls Try.prog 31 #[.slice ab nb cb] w fun e w' => ∃ a n c, e = .returned (.tuple #[.slice a n c, .int .i64 ((Codec.rdFrames b).2.1 : Nat), .int .i64 ((Codec.rdFrames b).2.2 : Nat)]) ∧ Acc w' w.heap.size a n c (Codec.rdFrames b).1 ∧ Below w.heap.size w w' := by
  have hle := hb.le.1
  have hlc := hb.2.1
  have HL := Lib.hid hb.1
  go_enter Try.func31, Try.ntmps31
  go_wp2
  go_loopw [5, 6] (fun vo i wr => ∃ (k : Nat) (a : Option Addr) (n c : Nat) (ls : List (List UInt8)), k ≤ nb ∧ n ≤ k ∧ i = .int .i64 k ∧ vo = .slice a n c ∧ Acc wr w.heap.size a n c ls ∧ Hid (Codec.Rest b k ls) ∧ Below w.heap.size w wr) (fun _ i _ => nb - (intOf i).toNat)
  case atStart => exact ⟨0, none, 0, 0, [], by omega, by omega, rfl, rfl, Acc.nil _ _, Lib.hid (rest_start b), Below.refl _ _⟩
  case round =>
    obtain ⟨k, a, n, c, ls, hk, hnk, rfl, rfl, hacc, hrest, hbl⟩ := hrel
    have hcap := hacc.cap
    simp only [maxLen] at hcap
    by_cases hlt : k < nb
    · have hq := (hb.below hbl).drop (k := k) hk
      have hsl := fun w => slice_l ab nb cb (lo := (k : Int)) (lo' := k) rfl hk w
      by_cases he : (Codec.decFrame (b.drop k)).2.2 = 0
      · have hst := rest_step hrest.out (by rw [HL.out]; exact hlt) he
        obtain ⟨F, T, hd, hFT, hT0, hkT, hTF, hrd⟩ := rd_part he (by rw [HL.out]; exact hk)
        rw [hd, hrd] at hst
        rw [HL.out] at hkT
        have HD := Lib.hid hrd
        have HS := Lib.hid hst
        clear hd hst hrd he hrest
        go_wp2_with fail
        refine (refreadframe_at _ _ _ _ _ hq).mono ?_
        rintro e w1 ⟨a2, n2, c2, rfl, ho2, hb1, hat⟩
        rw [HD.out] at ho2 ⊢
        have hbl1 := hbl.trans (hb1.mono hbl.size)
        have hne : 0 < n2 → ∀ x y, a2 = some x → a = some y → x.block ≠ y.block := fun h0 x y hx hy e => by
          obtain ⟨z, hz, hxz⟩ := hat x hx
          obtain ⟨u, hu, hzu⟩ := subA_block hz
          have h1 := hb.old (by omega) u hu
          have h2 := (hacc.new y hy).1
          omega
        have HA := Lib.hid ((hacc.below hb1).below ((Below.refl _ _).alloc (Nat.le_refl _) (.cells #[.slice a2 n2 c2] 28)))
        have HE := Lib.hid (ho2.below ((Below.refl w1.heap.size w1).alloc (Nat.le_refl _) (.cells #[.slice a2 n2 c2] 28)))
        have HN := Lib.hid hne
        have HC : Hid ((w1.alloc (.cells #[.slice a2 n2 c2] 28)).cell? ⟨w1.heap.size, 0, none⟩ = some (.slice a2 n2 c2)) := Lib.hid (by rw [cell_of_row _ _ _ _ _ _ (heap_alloc_new w1 _)]; rfl)
        have HZ := Lib.hid hbl1
        clear hne hbl1 ho2 hacc
        go_wp2_with (at_builtin; refine app_acc rfl _ _ rfl w.heap.size rfl HA.out rfl HC.out HE.out HN.out (by omega) (le_alloc HZ.out.size) ?_; intro a5 c5 w5 h5 hb5)
        go_roundw
        case rel => exact ⟨k + T, _, _, _, _, hkT, by omega, by go_num, rfl, h5, HS, HZ.out.trans (((Below.refl _ _).alloc HZ.out.size _).trans hb5)⟩
        case measure => simp [intOf]; omega
      · have hst := rest_err hrest.out (by rw [HL.out]; exact hlt) he
        have hrd : Codec.rdFrame (b.drop k) = ([], 0, (Codec.decFrame (b.drop k)).2.2) := by unfold Codec.rdFrame; rw [if_neg he]
        generalize (Codec.decFrame (b.drop k)).2.2 = er at *
        have t1 : ((er : Int) != 0) = true := by simp; simpa using he
        have HD := Lib.hid hrd
        have HS := Lib.hid hst
        clear hrd hst he hrest
        go_wp2_with fail
        refine (refreadframe_at _ _ _ _ _ hq).mono ?_
        rintro e w1 ⟨a2, n2, c2, rfl, ho2, hb1, hat⟩
        rw [HD.out] at ho2 ⊢
        go_wp2
        go_ret3
        rw [HS.out]
        exact ⟨_, _, _, rfl, hacc.below hb1, hbl.trans (hb1.mono hbl.size)⟩
    · have hst := rest_end hrest.out (by rw [HL.out]; omega)
      have HS := Lib.hid hst
      clear hst hrest
      go_wp2
      go_ret3
      rw [HS.out]
      exact ⟨_, _, _, rfl, hacc, hbl⟩
end Go.Proofs.Ytfjgapfkobpkhaa
