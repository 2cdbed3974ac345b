/- The chapter's example. -/
import Derived.Test.YtfcfipoldkjloaaCgL
import Derived.Lib.SlBytesConst
set_option maxRecDepth 100000
set_option linter.unusedSimpArgs false
namespace Go.Proofs.Ytfcfipoldkjloaa
open Go.RowKit
set_option linter.unusedVariables false

def knownL : List Ent := [⟨[97], 5, false, [120]⟩, ⟨[97], 3, false, [121]⟩, ⟨[97], 1, false, [122]⟩, ⟨[98], 2, true, []⟩]
theorem known1 : Ent.rightB knownL = true := by decide +kernel
theorem known2 : Ent.seen knownL 4 = [⟨[97], 3, false, [121]⟩] := by decide +kernel
theorem known3 : (Ent.prune knownL 3 false).length = 3 := by decide +kernel
theorem known4 : (Ent.prune knownL 3 true).length = 2 := by decide +kernel
theorem byte_lit (w : World) (z : Int) (b : UInt8) (h : z = n8 b) : Bs (w.alloc (.cells #[.int .u8 z] 5 (1, 2))) (some ⟨w.heap.size, 0, none⟩) 1 1 [b] := by subst h; exact Bs.litAt [b] (1, 2) rfl (by simp [maxLen])
theorem conv_lit (W : World) (z : Int) {k : Nat} (hk : k = W.heap.size) : (convert 31 31 (.slice (some ⟨k, 0, none⟩) 1 1)).run Try.prog (W.alloc (.cells #[.int .u8 z] 5)) = .ok (.slice (some ⟨k, 0, none⟩) 1 1) (W.alloc (.cells #[.int .u8 z] 5 (1, 2))) := by
  subst hk
  exact Lib.run_convert_bytes_const (P := Try.prog) W 31 5 #[.int .u8 z] 1 1 Try.underlying31 Try.underlying5
def knownW (w : World) : World := (((w.alloc (.cells #[.int .u8 120] 5 (1, 2))).alloc (.cells #[.int .u8 121] 5 (1, 2))).alloc (.cells #[.int .u8 122] 5 (1, 2))).alloc (.cells #[.string ⟨#[97]⟩, .int .u64 5, .bool false, .slice (some ⟨w.heap.size, 0, none⟩) 1 1, .string ⟨#[97]⟩, .int .u64 3, .bool false, .slice (some ⟨w.heap.size + 1, 0, none⟩) 1 1,
  .string ⟨#[97]⟩, .int .u64 1, .bool false, .slice (some ⟨w.heap.size + 2, 0, none⟩) 1 1, .string ⟨#[98]⟩, .int .u64 2, .bool true, .slice none 0 0] 33)
theorem knownW_below (w : World) : Below w.heap.size w (knownW w) := ((((Below.refl _ w).alloc (Nat.le_refl _) _).alloc (by simp) _).alloc (by simp; omega) _).alloc (by simp; omega) _
theorem known_es (w : World) : Es (knownW w) (some ⟨w.heap.size + 3, 0, none⟩) 4 4 knownL := by
  obtain ⟨w1, h1⟩ : ∃ w1, w.alloc (.cells #[.int .u8 120] 5 (1, 2)) = w1 := ⟨_, rfl⟩
  obtain ⟨w2, h2⟩ : ∃ w2, w1.alloc (.cells #[.int .u8 121] 5 (1, 2)) = w2 := ⟨_, rfl⟩
  obtain ⟨w3, h3⟩ : ∃ w3, w2.alloc (.cells #[.int .u8 122] 5 (1, 2)) = w3 := ⟨_, rfl⟩
  have s1 : w1.heap.size = w.heap.size + 1 := by rw [← h1]; simp
  have s2 : w2.heap.size = w.heap.size + 2 := by rw [← h2]; simp [s1]
  have s3 : w3.heap.size = w.heap.size + 3 := by rw [← h3]; simp [s2]
  have b1 : Bs w1 (some ⟨w.heap.size, 0, none⟩) 1 1 [120] := by rw [← h1]; exact byte_lit w 120 120 rfl
  have b2 : Bs w2 (some ⟨w.heap.size + 1, 0, none⟩) 1 1 [121] := by rw [← h2, ← s1]; exact byte_lit w1 121 121 rfl
  have b3 : Bs w3 (some ⟨w.heap.size + 2, 0, none⟩) 1 1 [122] := by rw [← h3, ← s2]; exact byte_lit w2 122 122 rfl
  have e12 : Below w1.heap.size w1 w2 := by rw [← h2]; exact below_alloc1 _ _
  have e23 : Below w2.heap.size w2 w3 := by rw [← h3]; exact below_alloc1 _ _
  unfold knownW
  rw [h1, h2, h3, ← s3]
  have hn := heap_alloc_new w3 (.cells #[.string ⟨#[97]⟩, .int .u64 5, .bool false, .slice (some ⟨w.heap.size, 0, none⟩) 1 1, .string ⟨#[97]⟩, .int .u64 3, .bool false, .slice (some ⟨w.heap.size + 1, 0, none⟩) 1 1,
    .string ⟨#[97]⟩, .int .u64 1, .bool false, .slice (some ⟨w.heap.size + 2, 0, none⟩) 1 1, .string ⟨#[98]⟩, .int .u64 2, .bool true, .slice none 0 0] 33)
  have e3 := below_alloc1 w3 (.cells #[.string ⟨#[97]⟩, .int .u64 5, .bool false, .slice (some ⟨w.heap.size, 0, none⟩) 1 1, .string ⟨#[97]⟩, .int .u64 3, .bool false, .slice (some ⟨w.heap.size + 1, 0, none⟩) 1 1,
    .string ⟨#[97]⟩, .int .u64 1, .bool false, .slice (some ⟨w.heap.size + 2, 0, none⟩) 1 1, .string ⟨#[98]⟩, .int .u64 2, .bool true, .slice none 0 0] 33)
  refine ⟨rfl, Nat.le_refl _, by simp [maxLen], fun i hi => ?_⟩
  have hc := fun j => cell_of_row _ _ j _ _ _ hn
  match i, hi with
  | 0, _ => exact ⟨w3.heap.size, 0, _, _, rfl, ⟨hc 0, hc 1, hc 2, hc 3⟩, ((b1.below e12).below e23).below e3⟩
  | 1, _ => exact ⟨w3.heap.size, 0, _, _, rfl, ⟨hc 4, hc 5, hc 6, hc 7⟩, (b2.below e23).below e3⟩
  | 2, _ => exact ⟨w3.heap.size, 0, _, _, rfl, ⟨hc 8, hc 9, hc 10, hc 11⟩, b3.below e3⟩
  | 3, _ => exact ⟨w3.heap.size, 0, _, _, rfl, ⟨hc 12, hc 13, hc 14, hc 15⟩, Bs.nil _⟩
  | i + 4, hi => omega
end Go.Proofs.Ytfcfipoldkjloaa
