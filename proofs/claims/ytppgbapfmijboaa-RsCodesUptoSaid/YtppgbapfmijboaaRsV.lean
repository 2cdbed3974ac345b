/- The law's lost: shards without some. -/
import Derived.Test.YtppgbapfmijboaaRsT
import Derived.Test.YtppgbapfmijboaaRsU
set_option maxRecDepth 100000
set_option linter.unusedVariables false
set_option linter.unusedSimpArgs false
namespace Go.Proofs.Ytppgbapfmijboaa
open Go.RowKit Go.Deep

theorem ring_less {T f n : Nat} (hf : f < T) (hn : n < T) (hne : n ≠ f) : (f + T - (n + 1) % T) % T < (f + T - n) % T := by
  rcases Nat.lt_or_ge n f with h | h
  · rw [Nat.mod_eq_of_lt (by omega : n + 1 < T)]
    rw [show f + T - (n + 1) = (f - (n + 1)) + T by omega, show f + T - n = (f - n) + T by omega, Nat.add_mod_right, Nat.add_mod_right, Nat.mod_eq_of_lt (by omega), Nat.mod_eq_of_lt (by omega)]
    omega
  · by_cases e : n + 1 = T
    · rw [e, Nat.mod_self, Nat.sub_zero, Nat.add_mod_right, Nat.mod_eq_of_lt hf, show f + T - n = f + 1 by omega]
      by_cases e2 : f + 1 = T
      · omega
      · rw [Nat.mod_eq_of_lt (by omega)]; omega
    · rw [Nat.mod_eq_of_lt (by omega : n + 1 < T), Nat.mod_eq_of_lt (by omega : f + T - (n + 1) < T), Nat.mod_eq_of_lt (by omega : f + T - n < T)]
      omega
/-- What lost tells: as many as are asked for are gone. -/
def LostP (K M : Nat) (d : List UInt8) (n : Nat) (w : World) (e : Ending) (w' : World) : Prop :=
  (∃ a c G, e = .returned (.slice a (K + M) c) ∧ Bss w' a (K + M) c (Rs.gone K M d G) ∧ G.length = n ∧ G.Nodup ∧ ∀ g ∈ G, g < K + M) ∧ Below w.heap.size w w'

set_option maxHeartbeats 8000000 in
theorem lost_any (K M T : Nat) (hTT : K + M = T) (d : List UInt8) (aq : Option Addr) (cs n : Nat) (nn : Int) (hnn : nn = (n : Int)) (ap : Option Addr) (np cp : Nat) (lp : List Int) (w : World) (hs : Bss w aq T cs (Rs.all K M d)) (hp : Is w ap np cp lp) (hn : n ≤ T) (hK : 1 ≤ K) (hT : T ≤ 255) (hW : Rs.wd K d.length ≤ 100000) :
    Calls Try.prog 13 #[.slice aq T cs, .int .i64 nn, .slice ap np cp] w (LostP K M d n w) := by
  subst hnn
  have hnp := hp.le.1
  obtain ⟨csS, u1, u2, u3, u4⟩ := bss_elems hs
  have hlal : (Rs.all K M d).length = T := (mat_len _ _ _).trans hTT
  have U1 := Lib.hid (u1.below (below_alloc w (.cells #[] 22)))
  have U3 := Lib.hid u3
  have U4 := Lib.hid u4
  have HP : Hid (∀ W, Below w.heap.size w W → Is W ap np cp lp) := Lib.hid fun W h => hp.below h
  have HOE : Hid (∀ a6 c6 w6, OwnV w6 w.heap.size a6 T c6 csS → Below w.heap.size (w.alloc (.cells #[] 22)) w6 → OwnE w6 w.heap.size a6 T c6 (Rs.gone K M d [])) := Lib.hid fun a6 c6 w6 ho hb => by
    rw [gone_none]
    refine OwnE.new (ax := none) (cx := 0) ((below_alloc w _).trans hb) (Nat.le_refl _) u3 (fun i hi => ?_) hlal ho
    obtain ⟨ai, ni, ci, h1, h2⟩ := u2.2 i (by rw [hlal]; exact hi)
    exact ⟨ai, ni, ci, h1, fun W hW => bs_old h2 hW⟩
  obtain ⟨N0, hN0⟩ : ∃ N0, Rs.wd K d.length = N0 := ⟨_, rfl⟩
  have hN1 : 1 ≤ N0 := by rw [← hN0]; exact wd_pos K d.length
  have hN2 : N0 ≤ 100000 := by rw [← hN0]; exact hW
  have HGL : Hid (∀ (G : List Nat) (i : Nat), i < T → (nth (Rs.gone K M d G) i).length = if i ∈ G then 0 else N0) := Lib.hid fun G i hi => by
    rw [← hTT] at hi
    rw [gone_at hi, ← hN0]
    by_cases e : i ∈ G
    · rw [if_pos e, if_pos e]; rfl
    · rw [if_neg e, if_neg e, all_len hi]
  have hT0 : 0 < T := by omega
  have HTT := Lib.hid hTT
  clear hs hp u1 u2 u3 u4 hlal hTT hN0 hW hK
  go_enter Try.func13, Try.ntmps13
  go_wp2_with (at_builtin; refine app_matr (cs := []) rfl _ _ rfl w.heap.size rfl (ownV_lit w) rfl U1.out U3.out U4.out (by omega) (le_alloc (Nat.le_refl _)) ?_; intro a6 c6 w6 ho6 hb6 _; simp only [Nat.zero_add, List.nil_append] at ho6; have HO6 := Lib.hid (HOE.out a6 c6 w6 ho6 hb6); have HB6 := Lib.hid ((below_alloc w (.cells #[] 22)).trans hb6); clear ho6 hb6)
  obtain ⟨g6, ai6, ni6, ci6, ea6, _, _, _⟩ := HO6.out.cell hT0
  subst ea6
  go_loopw [8] (fun i wr => ∃ (k : Nat) (G : List Nat), k ≤ n ∧ i = .int .i64 k ∧ Below w.heap.size w wr ∧ OwnE wr w.heap.size (some ⟨g6, 0, none⟩) T c6 (Rs.gone K M d G) ∧ Hid (G.length = k ∧ G.Nodup ∧ ∀ g ∈ G, g < T)) (fun i _ => n - (intOf i).toNat)
  case atStart => exact ⟨0, [], Nat.zero_le _, rfl, HB6.out, HO6.out, Lib.hid ⟨rfl, List.nodup_nil, by simp⟩⟩
  case round =>
    clear HO6 HB6
    obtain ⟨k, G, hk, rfl, hb, ho, HG⟩ := hrel
    by_cases hlt : k < n
    · obtain ⟨f, hf, hfG⟩ := free_one (l := G) (T := T) (by rw [HG.out.1]; omega)
      have HFG := Lib.hid hfG
      have HO := Lib.hid ho
      have HB := Lib.hid hb
      have hcase : (∃ z : Nat, (z : Int) ≤ 9223372036854775807 ∧ k < np ∧ nth lp k = (z : Int)) ∨ (¬ k < np) ∨ (∃ z : Int, z < 0 ∧ k < np ∧ nth lp k = z) := by
        by_cases q1 : k < np
        · have := ((HP.out _ (Below.refl _ _)).bd q1).hi
          by_cases q2 : nth lp k < 0
          · exact .inr (.inr ⟨_, q2, q1, rfl⟩)
          · exact .inl ⟨(nth lp k).toNat, by omega, q1, by omega⟩
        · exact .inr (.inl q1)
      clear ho hb hfG
      rcases hcase with ⟨z, hz, hq, hzz⟩ | hq | ⟨z, hz, hq, hzz⟩
      case' inl =>
        obtain ⟨bp, op, ep, dp⟩ := (HP.out _ HB.out).get hq
        subst ep
        rw [hzz] at dp
        have hm1 : z % T < T := Nat.mod_lt _ hT0
        have hm0 : Int.tmod (z : Int) (T : Int) = ((z % T : Nat) : Int) := rfl
        obtain ⟨z0, hz0⟩ : ∃ z0, z % T = z0 := ⟨_, rfl⟩
        rw [hz0] at hm0 hm1
        clear hzz hz0
      case' inr.inr =>
        obtain ⟨bp, op, ep, dp⟩ := (HP.out _ HB.out).get hq
        subst ep
        rw [hzz] at dp
        have hz0 : decide (0 ≤ z) = false := decide_eq_false (by omega)
        clear hzz
      all_goals
        go_wp2_with fail
        go_loopw [9] (fun i w9 => ∃ q : Nat, q < T ∧ i = .int .i64 q ∧ w9 = wr) (fun i _ => (f + T - (intOf i).toNat) % T)
        case atStart =>
          first
          | exact ⟨_, hm1, rfl, rfl⟩
          | exact ⟨0, hT0, rfl, rfl⟩
        case round =>
          obtain ⟨q, hq9, rfl, rfl⟩ := hrel
          obtain ⟨g9, a9, n9, c9, e9, d9, en9, f9⟩ := HO.out.cell hq9
          cases e9
          rw [HGL.out G q hq9] at en9
          by_cases hqG : q ∈ G
          · rw [if_pos hqG] at en9
            subst en9
            have hqf : q ≠ f := fun e => HFG.out (e ▸ hqG)
            have hm2 : Int.tmod ((q : Int) + 1) (T : Int) = (((q + 1) % T : Nat) : Int) := by rw [show ((q : Int) + 1) = ((q + 1 : Nat) : Int) by omega]; rfl
            have hm3 : (q + 1) % T < T := Nat.mod_lt _ hT0
            have hm4 := ring_less hf hq9 hqf
            obtain ⟨q1, hq1⟩ : ∃ q1, (q + 1) % T = q1 := ⟨_, rfl⟩
            rw [hq1] at hm2 hm3 hm4
            clear hq1 hqG hqf
            have HM4 := Lib.hid hm4
            clear hm4
            go_wp2_with fail
            go_roundw
            case rel => exact ⟨q1, hm3, rfl, trivial⟩
            case measure => simp only [intOf, Int.toNat_natCast]; exact HM4.out
          · rw [if_neg hqG] at en9
            subst en9
            have HN := Lib.hid (HO.out.del hq9)
            have hqg := gone_set (K := K) (M := M) (d := d) (G := G) (g := q) (by rw [HTT.out]; exact hq9)
            rw [hqg] at HN
            have HG1 : Hid ((G ++ [q]).length = k + 1 ∧ (G ++ [q]).Nodup ∧ ∀ g ∈ G ++ [q], g < T) := Lib.hid (by
              refine ⟨by rw [List.length_append, HG.out.1]; rfl, ?_, fun g hg => ?_⟩
              · rw [List.nodup_append]
                refine ⟨HG.out.2.1, by simp, fun a ha b hb e => ?_⟩
                simp at hb
                subst hb e
                exact hqG ha
              · rcases List.mem_append.1 hg with h | h
                · exact HG.out.2.2 g h
                · simp at h; subst h; exact hq9)
            clear hqg hqG
            go_wp2_with fail
            go_roundw
            case rel => exact ⟨k + 1, _, by omega, by go_num, HB.out.trans HN.out.2, HN.out.1, HG1⟩
            case measure => simp [intOf]; omega
    · obtain rfl : k = n := by omega
      have HRES : Hid (LostP K M d k w (.returned (.slice (some ⟨g6, 0, none⟩) T c6)) wr) := Lib.hid (by
        refine ⟨⟨_, _, G, by rw [HTT.out], by rw [HTT.out]; exact ho.bss, HG.out.1, HG.out.2.1, by rw [HTT.out]; exact HG.out.2.2⟩, hb⟩)
      clear ho hb
      go_wp2
      go_ret
      exact HRES.out
end Go.Proofs.Ytppgbapfmijboaa
