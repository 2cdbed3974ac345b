/- The chapter's example. -/
import Derived.Test.YtmmlgcfhcdpolaaMgL
import Derived.Lib.SlBytesConst
namespace Go.Proofs.Ytmmlgcfhcdpolaa
open Go.RowKit
set_option linter.unusedVariables false

def knownL : List Ent := [⟨[97], 5, false, [120]⟩, ⟨[97], 3, false, [121]⟩, ⟨[97], 1, false, [122]⟩, ⟨[98], 2, true, []⟩]
theorem known1 : Ent.rightB knownL = true := by decide +kernel
theorem known2 : Ent.seen knownL 4 = [⟨[97], 3, false, [121]⟩] := by decide +kernel
theorem known3 : (Ent.prune knownL 3 false).length = 3 := by decide +kernel
theorem known4 : (Ent.prune knownL 3 true).length = 2 := by decide +kernel
theorem byte_lit (w : World) (z : Int) (b : UInt8) (h : z = n8 b) : Bs (w.alloc (.cells #[.int .u8 z] 5 (1, 2))) (some ⟨w.heap.size, 0, none⟩) 1 1 [b] := by subst h; exact Bs.litAt [b] (1, 2) rfl (by simp [maxLen])
theorem conv_lit (W : World) (z : Int) {k : Nat} (hk : k = W.heap.size) : (convert 23 23 (.slice (some ⟨k, 0, none⟩) 1 1)).run Try.prog (W.alloc (.cells #[.int .u8 z] 5)) = .ok (.slice (some ⟨k, 0, none⟩) 1 1) (W.alloc (.cells #[.int .u8 z] 5 (1, 2))) := by
  subst hk
  exact Lib.run_convert_bytes_const (P := Try.prog) W 23 5 #[.int .u8 z] 1 1 Try.underlying23 Try.underlying5
def knownW (w : World) : World := (((w.alloc (.cells #[.int .u8 120] 5 (1, 2))).alloc (.cells #[.int .u8 121] 5 (1, 2))).alloc (.cells #[.int .u8 122] 5 (1, 2))).alloc (.cells #[.string ⟨#[97]⟩, .int .u64 5, .bool false, .slice (some ⟨w.heap.size, 0, none⟩) 1 1, .string ⟨#[97]⟩, .int .u64 3, .bool false, .slice (some ⟨w.heap.size + 1, 0, none⟩) 1 1,
  .string ⟨#[97]⟩, .int .u64 1, .bool false, .slice (some ⟨w.heap.size + 2, 0, none⟩) 1 1, .string ⟨#[98]⟩, .int .u64 2, .bool true, .slice none 0 0] 25)
theorem knownW_below (w : World) : Below w.heap.size w (knownW w) := ((((Below.refl _ w).alloc (Nat.le_refl _) _).alloc (by simp) _).alloc (by simp; omega) _).alloc (by simp; omega) _
theorem known_es (w : World) : Es (knownW w) (some ⟨w.heap.size + 3, 0, none⟩) 4 4 knownL := by
  obtain ⟨w1, h1⟩ : ∃ w1, w.alloc (.cells #[.int .u8 120] 5 (1, 2)) = w1 := ⟨_, rfl⟩
  obtain ⟨w2, h2⟩ : ∃ w2, w1.alloc (.cells #[.int .u8 121] 5 (1, 2)) = w2 := ⟨_, rfl⟩
  obtain ⟨w3, h3⟩ : ∃ w3, w2.alloc (.cells #[.int .u8 122] 5 (1, 2)) = w3 := ⟨_, rfl⟩
  have s1 : w1.heap.size = w.heap.size + 1 := by rw [← h1]; simp
  have s2 : w2.heap.size = w.heap.size + 2 := by rw [← h2]; simp [s1]
  have s3 : w3.heap.size = w.heap.size + 3 := by rw [← h3]; simp [s2]
  have b1 : Bs w1 (some ⟨w.heap.size, 0, none⟩) 1 1 [120] := by rw [← h1]; exact byte_lit w 120 120 rfl
  have b2 : Bs w2 (some ⟨w.heap.size + 1, 0, none⟩) 1 1 [121] := by rw [← h2, ← s1]; exact byte_lit w1 121 121 rfl
  have b3 : Bs w3 (some ⟨w.heap.size + 2, 0, none⟩) 1 1 [122] := by rw [← h3, ← s2]; exact byte_lit w2 122 122 rfl
  have e12 : Below w1.heap.size w1 w2 := by rw [← h2]; exact below_alloc1 _ _
  have e23 : Below w2.heap.size w2 w3 := by rw [← h3]; exact below_alloc1 _ _
  unfold knownW
  rw [h1, h2, h3, ← s3]
  have hn := heap_alloc_new w3 (.cells #[.string ⟨#[97]⟩, .int .u64 5, .bool false, .slice (some ⟨w.heap.size, 0, none⟩) 1 1, .string ⟨#[97]⟩, .int .u64 3, .bool false, .slice (some ⟨w.heap.size + 1, 0, none⟩) 1 1,
    .string ⟨#[97]⟩, .int .u64 1, .bool false, .slice (some ⟨w.heap.size + 2, 0, none⟩) 1 1, .string ⟨#[98]⟩, .int .u64 2, .bool true, .slice none 0 0] 25)
  have e3 := below_alloc1 w3 (.cells #[.string ⟨#[97]⟩, .int .u64 5, .bool false, .slice (some ⟨w.heap.size, 0, none⟩) 1 1, .string ⟨#[97]⟩, .int .u64 3, .bool false, .slice (some ⟨w.heap.size + 1, 0, none⟩) 1 1,
    .string ⟨#[97]⟩, .int .u64 1, .bool false, .slice (some ⟨w.heap.size + 2, 0, none⟩) 1 1, .string ⟨#[98]⟩, .int .u64 2, .bool true, .slice none 0 0] 25)
  refine ⟨rfl, Nat.le_refl _, by simp [maxLen], fun i hi => ?_⟩
  have hc := fun j => cell_of_row _ _ j _ _ _ hn
  match i, hi with
  | 0, _ => exact ⟨w3.heap.size, 0, _, _, rfl, ⟨hc 0, hc 1, hc 2, hc 3⟩, ((b1.below e12).below e23).below e3⟩
  | 1, _ => exact ⟨w3.heap.size, 0, _, _, rfl, ⟨hc 4, hc 5, hc 6, hc 7⟩, (b2.below e23).below e3⟩
  | 2, _ => exact ⟨w3.heap.size, 0, _, _, rfl, ⟨hc 8, hc 9, hc 10, hc 11⟩, b3.below e3⟩
  | 3, _ => exact ⟨w3.heap.size, 0, _, _, rfl, ⟨hc 12, hc 13, hc 14, hc 15⟩, Bs.nil _⟩
  | i + 4, hi => omega
set_option maxHeartbeats 4000000 in
theorem known_any (w : World) : Calls Try.prog 10 #[] w fun e w' => e = .returned (.bool true) ∧ Below w.heap.size w w' := by
  have HB0 := Lib.hid (knownW_below w)
  have HE := Lib.hid (known_es w)
  have hlen : ∀ e ∈ knownL, e.val.length ≤ 1000000000 := by decide +kernel
  have HS : Hid (∀ W, Es W (some ⟨w.heap.size + 3, 0, none⟩) 4 4 knownL → Calls Try.prog 16 #[.slice (some ⟨w.heap.size + 3, 0, none⟩) 4 4, .int .u64 4] W (RetEs [⟨[97], 3, false, [121]⟩] 0 W)) := Lib.hid fun W h => by
    have := seen_any _ _ _ knownL 4 W h (by omega) hlen
    rw [known1, if_pos rfl, if_pos rfl, known2] at this
    exact this
  have HP : Hid (∀ b W, Es W (some ⟨w.heap.size + 3, 0, none⟩) 4 4 knownL → Calls Try.prog 19 #[.slice (some ⟨w.heap.size + 3, 0, none⟩) 4 4, .int .u64 3, .bool b] W (RetEs (Ent.prune knownL 3 b) 0 W)) := Lib.hid fun b W h => by
    have := prune_any _ _ _ knownL 3 b W h (by omega) hlen
    rw [known1, if_pos rfl, if_pos rfl] at this
    exact this
  have HR : Hid (∀ W, Es W (some ⟨w.heap.size + 3, 0, none⟩) 4 4 knownL → Calls Try.prog 14 #[.slice (some ⟨w.heap.size + 3, 0, none⟩) 4 4] W fun e w' => e = .returned (.bool true) ∧ Below W.heap.size W w') := Lib.hid fun W h => by
    have := mright_any _ _ _ knownL W h
    rwa [known1] at this
  have k1 := conv_lit w 120 rfl
  have k2 := conv_lit (w.alloc (.cells #[.int .u8 120] 5 (1, 2))) 121 (k := w.heap.size + 1) (by simp)
  have k3 := conv_lit ((w.alloc (.cells #[.int .u8 120] 5 (1, 2))).alloc (.cells #[.int .u8 121] 5 (1, 2))) 122 (k := w.heap.size + 2) (by simp)
  clear hlen
  go_enter Try.func10, Try.ntmps10
  go_wp2_with fail
  refine (HS.out _ HE.out).mono ?_
  rintro e w1 ⟨a1, n1, c1, rfl, ha1, hb1⟩
  obtain ⟨b5, o5, a5, c5, rfl, he, _⟩ := ha1.es.vals (i := 0) (by have := ha1.len; simp at this; omega)
  have hn1 : n1 = 1 := by have := ha1.len; simp at this; omega
  subst hn1
  have q1 : w1.cell? ⟨b5, o5 + 1, none⟩ = some (.int .u64 3) := by have := he.seq; simpa [nth] using this
  have hc1 := ha1.cap
  have HE1 := Lib.hid (HE.out.below hb1)
  have HB1 := Lib.hid (HB0.out.trans (hb1.mono HB0.out.size))
  clear ha1 hb1 he
  go_wp2_with fail
  refine (HP.out false _ HE1.out).mono ?_
  rintro e w2 ⟨a2, n2, c2, rfl, ha2, hb2⟩
  have hn2 : n2 = 3 := by rw [← ha2.len, known3]
  subst hn2
  have q2 := cell_later hb2 q1
  have HE2 := Lib.hid (HE1.out.below hb2)
  have HB2 := Lib.hid (HB1.out.trans (hb2.mono HB1.out.size))
  clear ha2 hb2 q1
  go_wp2_with fail
  refine (HP.out true _ HE2.out).mono ?_
  rintro e w3 ⟨a3, n3, c3, rfl, ha3, hb3⟩
  have hn3 : n3 = 2 := by rw [← ha3.len, known4]
  subst hn3
  have q3 := cell_later hb3 q2
  have HE3 := Lib.hid (HE2.out.below hb3)
  have HB3 := Lib.hid (HB2.out.trans (hb3.mono HB2.out.size))
  clear ha3 hb3 q2
  go_wp2_with fail
  refine (HR.out _ HE3.out).mono ?_
  rintro e w4 ⟨rfl, hb4⟩
  have HB4 := Lib.hid (HB3.out.trans (hb4.mono HB3.out.size))
  clear hb4
  go_wp2
  go_ret
  exact ⟨rfl, HB4.out⟩
end Go.Proofs.Ytmmlgcfhcdpolaa
