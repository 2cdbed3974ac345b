/- Checksums: table, codec.Sum, the reference's step and Sum. -/
import Derived.Test.YtchdmjnhjonddaaProg
import Derived.Test.YtchdmjnhjonddaaNum
import Derived.Lib.Hide
import Derived.Deep.WholeRow
import Derived.Test.YtchdmjnhjonddaaCodecSpec
namespace Go.Proofs.Ytchdmjnhjonddaa
open Go.RowKit

theorem rep_odd {k : Nat} {c : UInt32} (h : (Nat.repeat Codec.bitStep k c &&& 1 == 1) = true) : Nat.repeat Codec.bitStep (k + 1) c = Nat.repeat Codec.bitStep k c >>> 1 ^^^ 2197175160 := by
  show (if Nat.repeat Codec.bitStep k c &&& 1 = 1 then _ else _) = _
  rw [if_pos (by simpa using h)]
theorem rep_even {k : Nat} {c : UInt32} (h : (Nat.repeat Codec.bitStep k c &&& 1 == 1) = false) : Nat.repeat Codec.bitStep (k + 1) c = Nat.repeat Codec.bitStep k c >>> 1 := by
  show (if Nat.repeat Codec.bitStep k c &&& 1 = 1 then _ else _) = _
  rw [if_neg (by simpa using h)]
set_option maxHeartbeats 400000 in
theorem step_any (c : UInt32) (x : UInt8) (w : World)  :
    Calls Try.prog 91 #[.int .u32 (n32 c), .int .u8 (n8 x)] w fun e w' => e = .returned (.int .u32 (n32 (Codec.crcByte c x))) ∧ w = w' := by
  go_enter Try.func91, Try.ntmps91
  go_wp2
  go_loop [0, 5] (fun v i => ∃ k : Nat, k ≤ 8 ∧ i = .int .i64 k ∧ v = .int .u32 (n32 (Nat.repeat Codec.bitStep k (c ^^^ x.toUInt32)))) (fun _ i => 8 - (intOf i).toNat)
  case atStart => exact ⟨0, by omega, rfl, rfl⟩
  case round =>
    obtain ⟨k, hk, rfl, rfl⟩ := hrel
    by_cases hlt : k < 8
    · go_wp2
      · go_round
        case rel => exact ⟨k + 1, by omega, by go_num, by rw [rep_odd (by assumption)]⟩
        case measure => simp [intOf]; omega
      · go_round
        case rel => exact ⟨k + 1, by omega, by go_num, by rw [rep_even (by assumption)]⟩
        case measure => simp [intOf]; omega
    · obtain rfl : k = 8 := by omega
      go_wp2
      go_ret
      exact ⟨rfl, rfl⟩

theorem crc_snoc (c : UInt32) (l : List UInt8) (b : UInt8) : Codec.crc c (l ++ [b]) = Codec.crcByte (Codec.crc c l) b := by simp [Codec.crc]

set_option maxHeartbeats 400000 in
theorem refsum_any (a : Option Addr) (n cap : Nat) (l : List UInt8) (w : World) (h : Bs w a n cap l) :
    Calls Try.prog 74 #[.slice a n cap] w fun e w' => e = .returned (.int .u32 (n32 (Codec.sum l))) ∧ w = w' := by
  have hle := h.le.1
  have HN := Lib.hid h.1
  go_enter Try.func74, Try.ntmps74
  go_wp2
  go_loop [3, 4] (fun v i => ∃ k : Nat, k ≤ n ∧ i = .int .i64 k ∧ v = .int .u32 (n32 (Codec.crc 0xFFFFFFFF (l.take k)))) (fun _ i => n - (intOf i).toNat)
  case atStart => exact ⟨0, by omega, rfl, rfl⟩
  case round =>
    obtain ⟨k, hk, rfl, rfl⟩ := hrel
    by_cases hlt : k < n
    · obtain ⟨b, off, rfl, hc⟩ := h.byte hlt
      have hs := Lib.hid (crc_snoc 0xFFFFFFFF (l.take k) (nth l k))
      go_wp2_with (go_at_call 91; refine (step_any _ _ _).mono ?_; rintro e w' ⟨rfl, rfl⟩)
      go_round
      case rel => exact ⟨k + 1, by omega, by go_num, by rw [take_snoc l (by rw [HN.out]; exact hlt), hs.out]⟩
      case measure => simp [intOf]; omega
    · obtain rfl : k = n := by omega
      go_wp2
      go_ret
      exact ⟨by rw [← HN.out, List.take_length]; rfl, rfl⟩

theorem tab_step (k : Nat) (A : Array Value) (hs : A.size = 16) (hA : ∀ j, j < k → A[j]? = some (.int .u32 (n32 (Codec.half (UInt32.ofNat j))))) (v : Value) (hv : v = .int .u32 (n32 (Codec.half (UInt32.ofNat k)))) (hk : k < 16) :
    (A.setIfInBounds k v).size = 16 ∧ ∀ j, j < k + 1 → (A.setIfInBounds k v)[j]? = some (.int .u32 (n32 (Codec.half (UInt32.ofNat j)))) := by
  refine ⟨by simpa using hs, fun j hj => ?_⟩
  rw [Array.getElem?_setIfInBounds]
  split
  · rename_i h; subst h; simp [hs, hk, hv]
  · exact hA j (by omega)
theorem tab_one {A : Array Value} (hs : A.size = 16) (hA : ∀ j, j < 16 → A[j]? = some (.int .u32 (n32 (Codec.half (UInt32.ofNat j))))) : A.all (·.oneCell') = true := by
  rw [Array.all_eq_true]
  intro i hi
  have := hA i (by omega)
  rw [Array.getElem?_eq_getElem hi] at this
  rw [Option.some.inj this]
  rfl
theorem tab_info {A : Array Value} (hs : A.size = 16) : (Try.prog.info? 134).map (·.size) = some A.size := by rw [hs]; kernel_rfl
theorem of_small {k : Nat} (h : k < 16) : Value.int .u32 (k : Int) = .int .u32 (n32 (UInt32.ofNat k)) := by
  unfold n32; rw [UInt32.toNat_ofNat', Nat.mod_eq_of_lt (by omega)]
set_option maxHeartbeats 400000 in
theorem table_any (w : World) :
    Calls Try.prog 70 #[] w fun e w' => (∃ A : Array Value, A.size = 16 ∧ (∀ j, j < 16 → A[j]? = some (.int .u32 (n32 (Codec.half (UInt32.ofNat j))))) ∧ e = .returned (.agg A)) ∧ Below w.heap.size w w' := by
  go_enter Try.func70, Try.ntmps70
  go_wp2
  go_loopw [4] (fun i wr => ∃ (k : Nat) (A : Array Value), k ≤ 16 ∧ i = .int .i64 k ∧ A.size = 16 ∧ (∀ j, j < k → A[j]? = some (.int .u32 (n32 (Codec.half (UInt32.ofNat j))))) ∧ wr = w.alloc (.cells A 134)) (fun i _ => 16 - (intOf i).toNat)
  case atStart => exact ⟨0, _, by omega, rfl, rfl, fun j hj => by omega, rfl⟩
  case round =>
    obtain ⟨k, A, hk, rfl, hs, hA, rfl⟩ := hrel
    by_cases hlt : k < 16
    · have HA := Lib.hid hA; clear hA
      have HS := Lib.hid hs
      go_wp2
      go_loop [2, 9] (fun c i => ∃ m : Nat, m ≤ 4 ∧ i = .int .i64 m ∧ c = .int .u32 (n32 (Nat.repeat Codec.bitStep m (UInt32.ofNat k)))) (fun _ i => 4 - (intOf i).toNat)
      case atStart => exact ⟨0, by omega, rfl, of_small hlt⟩
      case round =>
        obtain ⟨m, hm, rfl, rfl⟩ := hrel
        by_cases hlm : m < 4
        · go_wp2
          · go_round
            case rel => exact ⟨m + 1, by omega, by go_num, by rw [rep_odd (by assumption)]⟩
            case measure => simp [intOf]; omega
          · go_round
            case rel => exact ⟨m + 1, by omega, by go_num, by rw [rep_even (by assumption)]⟩
            case measure => simp [intOf]; omega
        · obtain rfl : m = 4 := by omega
          go_wp2
          go_roundw
          case rel => exact ⟨k + 1, _, by omega, by go_num, (tab_step k A HS.out HA.out _ rfl hlt).1, (tab_step k A HS.out HA.out _ rfl hlt).2, rfl⟩
          case measure => simp [intOf]; omega
    · obtain rfl : k = 16 := by omega
      have hi := tab_info hs
      have h1 := tab_one hs hA
      have HA := Lib.hid hA; clear hA
      have HS := Lib.hid hs; clear hs
      have HI := Lib.hid hi; clear hi
      have H1 := Lib.hid h1; clear h1
      go_wp2_with (first | (refine wpList_load_row rfl 134 _ rfl _ rfl 134 A (0, 0) _ (heap_alloc_last w _) Try.underlying134 rfl HI.out ?_) | (refine wpList_store_row rfl 134 _ _ rfl _ A rfl rfl 134 A (heap_alloc_last w _) HI.out rfl H1.out ?_; rw [World.setRow_alloc_new]))
      refine bodyPost_ret (v := .agg A) (results_cell_row rfl _ _ w.heap.size 134 A (0, 0) _ rfl (heap_alloc_last w _) Try.underlying134 rfl HI.out) rfl ⟨⟨A, HS.out, HA.out, rfl⟩, (Below.refl _ _).alloc (Nat.le_refl _) _⟩

theorem crc_two (c : UInt32) (b : UInt8) : Codec.crcByte c b = ((c ^^^ b.toUInt32) >>> 4 ^^^ Codec.half ((c ^^^ b.toUInt32) &&& 15)) >>> 4 ^^^ Codec.half (((c ^^^ b.toUInt32) >>> 4 ^^^ Codec.half ((c ^^^ b.toUInt32) &&& 15)) &&& 15) := by
  unfold Codec.crcByte
  rw [← Codec.half_split, ← Codec.half_split]

theorem n32_lo (c : UInt32) : n32 (c &&& 15) < 16 := by
  have : (c &&& 15).toNat ≤ 15 := by rw [UInt32.toNat_and]; exact Nat.and_le_right
  unfold n32; omega
theorem tab_cell {A : Array Value} (hA : ∀ j, j < 16 → A[j]? = some (.int .u32 (n32 (Codec.half (UInt32.ofNat j))))) (w : World) (c : UInt32) :
    (w.alloc (.cells A 134)).cell? ⟨w.heap.size, (n32 (c &&& 15)).toNat, none⟩ = some (.int .u32 (n32 (Codec.half (c &&& 15)))) := by
  rw [cell_of_row _ _ _ A _ _ (heap_alloc_last w _)]
  have h := n32_lo c
  have h0 := n32_nn (c &&& 15)
  rw [hA _ (by omega)]
  have e : (n32 (c &&& 15)).toNat = (c &&& 15).toNat := by unfold n32; omega
  rw [e, UInt32.ofNat_toNat]
theorem flat_snoc (ls : List (List UInt8)) {i : Nat} (hi : i < ls.length) : (ls.take (i + 1)).flatten = (ls.take i).flatten ++ nth ls i := by
  rw [take_snoc ls hi]; simp

set_option maxHeartbeats 400000 in
theorem sum_any (a : Option Addr) (n cap : Nat) (ls : List (List UInt8)) (w : World) (h : Bss w a n cap ls) :
    Calls Try.prog 40 #[.slice a n cap] w fun e w' => e = .returned (.int .u32 (n32 (Codec.sum ls.flatten))) ∧ Below w.heap.size w w' := by
  have hle := h.le.1
  have HN := Lib.hid h.1
  go_enter Try.func40, Try.ntmps40
  go_wp2_with (first | (go_at_call 70; refine (table_any _).mono ?_; rintro e w1 ⟨⟨A, hs, hA, rfl⟩, hb⟩; have HA := Lib.hid hA; have HS := Lib.hid hs; clear hA hs) | (refine wpList_store_row rfl 134 _ _ rfl _ A rfl rfl 134 _ (heap_alloc_last w1 _) (tab_info HS.out) HS.out.symm (tab_one HS.out HA.out) ?_; rw [World.setRow_alloc_new]))
  have hb2 : Below w.heap.size w (w1.alloc (.cells A 134)) := hb.alloc hb.size _
  have hn := n32_lo
  have hcell := fun c => tab_cell HA.out w1 c
  have H2 := Lib.hid (h.below hb2)
  clear h
  have HB := Lib.hid hb2
  clear hb hb2
  generalize hw : w1.alloc (.cells A 134) = w2 at *
  have HW := Lib.hid hw; clear hw
  go_loop [4, 12] (fun c i => ∃ k : Nat, k ≤ n ∧ i = .int .i64 k ∧ c = .int .u32 (n32 (Codec.crc 0xFFFFFFFF (ls.take k).flatten))) (fun _ i => n - (intOf i).toNat)
  case atStart => exact ⟨0, by omega, rfl, rfl⟩
  case round =>
    obtain ⟨k, hk, rfl, rfl⟩ := hrel
    by_cases hlt : k < n
    · obtain ⟨b, off, ai, ni, ci, rfl, hc, hr⟩ := H2.out.get hlt
      have HF := Lib.hid (flat_snoc ls (i := k) (by rw [HN.out]; exact hlt))
      generalize nth ls k = l at *
      have hle2 := hr.le.1
      have HL := Lib.hid hr.1
      have HR := Lib.hid hr
      clear hr
      go_wp2
      go_loop [4, 18] (fun c i => ∃ m : Nat, m ≤ ni ∧ i = .int .i64 m ∧ c = .int .u32 (n32 (Codec.crc (Codec.crc 0xFFFFFFFF (ls.take k).flatten) (l.take m)))) (fun _ i => ni - (intOf i).toNat)
      case atStart => exact ⟨0, by omega, rfl, rfl⟩
      case round =>
        obtain ⟨m, hm, rfl, rfl⟩ := hrel
        by_cases hlm : m < ni
        · obtain ⟨b', off', rfl, hc'⟩ := HR.out.byte hlm
          have HS2 := Lib.hid (crc_snoc (Codec.crc 0xFFFFFFFF (ls.take k).flatten) (l.take m) (nth l m))
          go_wp2
          go_round
          case rel => exact ⟨m + 1, by omega, by go_num, by rw [take_snoc l (by rw [HL.out]; exact hlm), HS2.out, crc_two]⟩
          case measure => simp [intOf]; omega
        · obtain rfl : m = ni := by omega
          go_wp2
          go_round
          case rel => exact ⟨k + 1, by omega, by go_num, by rw [HF.out, ← HL.out, List.take_length]; unfold Codec.crc; rw [List.foldl_append]⟩
          case measure => simp [intOf]; omega
    · obtain rfl : k = n := by omega
      go_wp2
      go_ret
      exact ⟨by rw [← HN.out, List.take_length]; rfl, HB.out⟩
end Go.Proofs.Ytchdmjnhjonddaa
