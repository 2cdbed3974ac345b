/- Checksums: table, codec.Sum, the reference's step and Sum. -/
import Derived.Test.YtfgifndpglgjkaaGreatDoorProg
import Derived.Test.YtfgifndpglgjkaaGreatDoorZBase
import Derived.Lib.Hide
import Derived.Deep.WholeRow
import Derived.Test.YtfgifndpglgjkaaGreatDoorZQRsL
import Derived.Test.YtfgifndpglgjkaaGreatDoorZGfA
import Derived.Lib.LazyBuf
import Derived.BigQuiet
import Derived.Deep.QuietTactic
set_option linter.unusedVariables false
set_option linter.unusedSimpArgs false
section
namespace Go.Proofs.YtfgifndpglgjkaaGreatDoor
open Go.RowKit

theorem rep_odd {k : Nat} {c : UInt32} (h : (Nat.repeat Codec.bitStep k c &&& 1 == 1) = true) : Nat.repeat Codec.bitStep (k + 1) c = Nat.repeat Codec.bitStep k c >>> 1 ^^^ 2197175160 := by
  show (if Nat.repeat Codec.bitStep k c &&& 1 = 1 then _ else _) = _
  rw [if_pos (by simpa using h)]
theorem rep_even {k : Nat} {c : UInt32} (h : (Nat.repeat Codec.bitStep k c &&& 1 == 1) = false) : Nat.repeat Codec.bitStep (k + 1) c = Nat.repeat Codec.bitStep k c >>> 1 := by
  show (if Nat.repeat Codec.bitStep k c &&& 1 = 1 then _ else _) = _
  rw [if_neg (by simpa using h)]
set_option maxHeartbeats 400000 in
theorem step_any (c : UInt32) (x : UInt8) (w : World)  :
    Calls Tryz.prog 59 #[.int .u32 (n32 c), .int .u8 (n8 x)] w fun e w' => e = .returned (.int .u32 (n32 (Codec.crcByte c x))) ∧ w = w' := by
  go_enter Tryz.func59, Tryz.ntmps59
  go_wp2
  go_loop [0, 5] (fun v i => ∃ k : Nat, k ≤ 8 ∧ i = .int .i64 k ∧ v = .int .u32 (n32 (Nat.repeat Codec.bitStep k (c ^^^ x.toUInt32)))) (fun _ i => 8 - (intOf i).toNat)
  case atStart => exact ⟨0, by omega, rfl, rfl⟩
  case round =>
    obtain ⟨k, hk, rfl, rfl⟩ := hrel
    by_cases hlt : k < 8
    · go_wp2
      · go_round
        case rel => exact ⟨k + 1, by omega, by go_num, by rw [rep_odd (by assumption)]⟩
        case measure => simp [intOf]; omega
      · go_round
        case rel => exact ⟨k + 1, by omega, by go_num, by rw [rep_even (by assumption)]⟩
        case measure => simp [intOf]; omega
    · obtain rfl : k = 8 := by omega
      go_wp2
      go_ret
      exact ⟨rfl, rfl⟩

theorem crc_snoc (c : UInt32) (l : List UInt8) (b : UInt8) : Codec.crc c (l ++ [b]) = Codec.crcByte (Codec.crc c l) b := by simp [Codec.crc]

set_option maxHeartbeats 400000 in
theorem refsum_any (a : Option Addr) (n cap : Nat) (l : List UInt8) (w : World) (h : Bs w a n cap l) :
    Calls Tryz.prog 28 #[.slice a n cap] w fun e w' => e = .returned (.int .u32 (n32 (Codec.sum l))) ∧ w = w' := by
  have hle := h.le.1
  have HN := Lib.hid h.1
  go_enter Tryz.func28, Tryz.ntmps28
  go_wp2
  go_loop [3, 4] (fun v i => ∃ k : Nat, k ≤ n ∧ i = .int .i64 k ∧ v = .int .u32 (n32 (Codec.crc 0xFFFFFFFF (l.take k)))) (fun _ i => n - (intOf i).toNat)
  case atStart => exact ⟨0, by omega, rfl, rfl⟩
  case round =>
    obtain ⟨k, hk, rfl, rfl⟩ := hrel
    by_cases hlt : k < n
    · obtain ⟨b, off, rfl, hc⟩ := h.byte hlt
      have hs := Lib.hid (crc_snoc 0xFFFFFFFF (l.take k) (nth l k))
      go_wp2_with (go_at_call 59; refine (step_any _ _ _).mono ?_; rintro e w' ⟨rfl, rfl⟩)
      go_round
      case rel => exact ⟨k + 1, by omega, by go_num, by rw [take_snoc l (by rw [HN.out]; exact hlt), hs.out]⟩
      case measure => simp [intOf]; omega
    · obtain rfl : k = n := by omega
      go_wp2
      go_ret
      exact ⟨by rw [← HN.out, List.take_length]; rfl, rfl⟩

theorem tab_step (k : Nat) (A : Array Value) (hs : A.size = 16) (hA : ∀ j, j < k → A[j]? = some (.int .u32 (n32 (Codec.half (UInt32.ofNat j))))) (v : Value) (hv : v = .int .u32 (n32 (Codec.half (UInt32.ofNat k)))) (hk : k < 16) :
    (A.setIfInBounds k v).size = 16 ∧ ∀ j, j < k + 1 → (A.setIfInBounds k v)[j]? = some (.int .u32 (n32 (Codec.half (UInt32.ofNat j)))) := by
  refine ⟨by simpa using hs, fun j hj => ?_⟩
  rw [Array.getElem?_setIfInBounds]
  split
  · rename_i h; subst h; simp [hs, hk, hv]
  · exact hA j (by omega)
theorem tab_one {A : Array Value} (hs : A.size = 16) (hA : ∀ j, j < 16 → A[j]? = some (.int .u32 (n32 (Codec.half (UInt32.ofNat j))))) : A.all (·.oneCell') = true := by
  rw [Array.all_eq_true]
  intro i hi
  have := hA i (by omega)
  rw [Array.getElem?_eq_getElem hi] at this
  rw [Option.some.inj this]
  rfl
theorem tab_info {A : Array Value} (hs : A.size = 16) : (Tryz.prog.info? 103).map (·.size) = some A.size := by rw [hs]; kernel_rfl
theorem of_small {k : Nat} (h : k < 16) : Value.int .u32 (k : Int) = .int .u32 (n32 (UInt32.ofNat k)) := by
  unfold n32; rw [UInt32.toNat_ofNat', Nat.mod_eq_of_lt (by omega)]
set_option maxHeartbeats 400000 in
theorem table_any (w : World) :
    Calls Tryz.prog 58 #[] w fun e w' => (∃ A : Array Value, A.size = 16 ∧ (∀ j, j < 16 → A[j]? = some (.int .u32 (n32 (Codec.half (UInt32.ofNat j))))) ∧ e = .returned (.agg A)) ∧ Below w.heap.size w w' := by
  go_enter Tryz.func58, Tryz.ntmps58
  go_wp2
  go_loopw [4] (fun i wr => ∃ (k : Nat) (A : Array Value), k ≤ 16 ∧ i = .int .i64 k ∧ A.size = 16 ∧ (∀ j, j < k → A[j]? = some (.int .u32 (n32 (Codec.half (UInt32.ofNat j))))) ∧ wr = w.alloc (.cells A 103)) (fun i _ => 16 - (intOf i).toNat)
  case atStart => exact ⟨0, _, by omega, rfl, rfl, fun j hj => by omega, rfl⟩
  case round =>
    obtain ⟨k, A, hk, rfl, hs, hA, rfl⟩ := hrel
    by_cases hlt : k < 16
    · have HA := Lib.hid hA; clear hA
      have HS := Lib.hid hs
      go_wp2
      go_loop [2, 9] (fun c i => ∃ m : Nat, m ≤ 4 ∧ i = .int .i64 m ∧ c = .int .u32 (n32 (Nat.repeat Codec.bitStep m (UInt32.ofNat k)))) (fun _ i => 4 - (intOf i).toNat)
      case atStart => exact ⟨0, by omega, rfl, of_small hlt⟩
      case round =>
        obtain ⟨m, hm, rfl, rfl⟩ := hrel
        by_cases hlm : m < 4
        · go_wp2
          · go_round
            case rel => exact ⟨m + 1, by omega, by go_num, by rw [rep_odd (by assumption)]⟩
            case measure => simp [intOf]; omega
          · go_round
            case rel => exact ⟨m + 1, by omega, by go_num, by rw [rep_even (by assumption)]⟩
            case measure => simp [intOf]; omega
        · obtain rfl : m = 4 := by omega
          go_wp2
          go_roundw
          case rel => exact ⟨k + 1, _, by omega, by go_num, (tab_step k A HS.out HA.out _ rfl hlt).1, (tab_step k A HS.out HA.out _ rfl hlt).2, rfl⟩
          case measure => simp [intOf]; omega
    · obtain rfl : k = 16 := by omega
      have hi := tab_info hs
      have h1 := tab_one hs hA
      have HA := Lib.hid hA; clear hA
      have HS := Lib.hid hs; clear hs
      have HI := Lib.hid hi; clear hi
      have H1 := Lib.hid h1; clear h1
      go_wp2_with (first | (refine wpList_load_row rfl 103 _ rfl _ rfl 103 A (0, 0) _ (heap_alloc_last w _) Tryz.underlying103 rfl HI.out ?_) | (refine wpList_store_row rfl 103 _ _ rfl _ A rfl rfl 103 A (heap_alloc_last w _) HI.out rfl H1.out ?_; rw [World.setRow_alloc_new]))
      refine bodyPost_ret (v := .agg A) (results_cell_row rfl _ _ w.heap.size 103 A (0, 0) _ rfl (heap_alloc_last w _) Tryz.underlying103 rfl HI.out) rfl ⟨⟨A, HS.out, HA.out, rfl⟩, (Below.refl _ _).alloc (Nat.le_refl _) _⟩

theorem crc_two (c : UInt32) (b : UInt8) : Codec.crcByte c b = ((c ^^^ b.toUInt32) >>> 4 ^^^ Codec.half ((c ^^^ b.toUInt32) &&& 15)) >>> 4 ^^^ Codec.half (((c ^^^ b.toUInt32) >>> 4 ^^^ Codec.half ((c ^^^ b.toUInt32) &&& 15)) &&& 15) := by
  unfold Codec.crcByte
  rw [← Codec.half_split, ← Codec.half_split]

theorem n32_lo (c : UInt32) : n32 (c &&& 15) < 16 := by
  have : (c &&& 15).toNat ≤ 15 := by rw [UInt32.toNat_and]; exact Nat.and_le_right
  unfold n32; omega
theorem tab_cell {A : Array Value} (hA : ∀ j, j < 16 → A[j]? = some (.int .u32 (n32 (Codec.half (UInt32.ofNat j))))) (w : World) (c : UInt32) :
    (w.alloc (.cells A 103)).cell? ⟨w.heap.size, (n32 (c &&& 15)).toNat, none⟩ = some (.int .u32 (n32 (Codec.half (c &&& 15)))) := by
  rw [cell_of_row _ _ _ A _ _ (heap_alloc_last w _)]
  have h := n32_lo c
  have h0 := n32_nn (c &&& 15)
  rw [hA _ (by omega)]
  have e : (n32 (c &&& 15)).toNat = (c &&& 15).toNat := by unfold n32; omega
  rw [e, UInt32.ofNat_toNat]
theorem flat_snoc (ls : List (List UInt8)) {i : Nat} (hi : i < ls.length) : (ls.take (i + 1)).flatten = (ls.take i).flatten ++ nth ls i := by
  rw [take_snoc ls hi]; simp

set_option maxHeartbeats 400000 in
theorem sum_any (a : Option Addr) (n cap : Nat) (ls : List (List UInt8)) (w : World) (h : Bss w a n cap ls) :
    Calls Tryz.prog 25 #[.slice a n cap] w fun e w' => e = .returned (.int .u32 (n32 (Codec.sum ls.flatten))) ∧ Below w.heap.size w w' := by
  have hle := h.le.1
  have HN := Lib.hid h.1
  go_enter Tryz.func25, Tryz.ntmps25
  go_wp2_with (first | (go_at_call 58; refine (table_any _).mono ?_; rintro e w1 ⟨⟨A, hs, hA, rfl⟩, hb⟩; have HA := Lib.hid hA; have HS := Lib.hid hs; clear hA hs) | (refine wpList_store_row rfl 103 _ _ rfl _ A rfl rfl 103 _ (heap_alloc_last w1 _) (tab_info HS.out) HS.out.symm (tab_one HS.out HA.out) ?_; rw [World.setRow_alloc_new]))
  have hb2 : Below w.heap.size w (w1.alloc (.cells A 103)) := hb.alloc hb.size _
  have hn := n32_lo
  have hcell := fun c => tab_cell HA.out w1 c
  have H2 := Lib.hid (h.below hb2)
  clear h
  have HB := Lib.hid hb2
  clear hb hb2
  generalize hw : w1.alloc (.cells A 103) = w2 at *
  have HW := Lib.hid hw; clear hw
  go_loop [4, 12] (fun c i => ∃ k : Nat, k ≤ n ∧ i = .int .i64 k ∧ c = .int .u32 (n32 (Codec.crc 0xFFFFFFFF (ls.take k).flatten))) (fun _ i => n - (intOf i).toNat)
  case atStart => exact ⟨0, by omega, rfl, rfl⟩
  case round =>
    obtain ⟨k, hk, rfl, rfl⟩ := hrel
    by_cases hlt : k < n
    · obtain ⟨b, off, ai, ni, ci, rfl, hc, hr⟩ := H2.out.get hlt
      have HF := Lib.hid (flat_snoc ls (i := k) (by rw [HN.out]; exact hlt))
      generalize nth ls k = l at *
      have hle2 := hr.le.1
      have HL := Lib.hid hr.1
      have HR := Lib.hid hr
      clear hr
      go_wp2
      go_loop [4, 18] (fun c i => ∃ m : Nat, m ≤ ni ∧ i = .int .i64 m ∧ c = .int .u32 (n32 (Codec.crc (Codec.crc 0xFFFFFFFF (ls.take k).flatten) (l.take m)))) (fun _ i => ni - (intOf i).toNat)
      case atStart => exact ⟨0, by omega, rfl, rfl⟩
      case round =>
        obtain ⟨m, hm, rfl, rfl⟩ := hrel
        by_cases hlm : m < ni
        · obtain ⟨b', off', rfl, hc'⟩ := HR.out.byte hlm
          have HS2 := Lib.hid (crc_snoc (Codec.crc 0xFFFFFFFF (ls.take k).flatten) (l.take m) (nth l m))
          go_wp2
          go_round
          case rel => exact ⟨m + 1, by omega, by go_num, by rw [take_snoc l (by rw [HL.out]; exact hlm), HS2.out, crc_two]⟩
          case measure => simp [intOf]; omega
        · obtain rfl : m = ni := by omega
          go_wp2
          go_round
          case rel => exact ⟨k + 1, by omega, by go_num, by rw [HF.out, ← HL.out, List.take_length]; unfold Codec.crc; rw [List.foldl_append]⟩
          case measure => simp [intOf]; omega
    · obtain rfl : k = n := by omega
      go_wp2
      go_ret
      exact ⟨by rw [← HN.out, List.take_length]; rfl, HB.out⟩
end Go.Proofs.YtfgifndpglgjkaaGreatDoor
end

section
namespace Go.Proofs.YtfgifndpglgjkaaGreatDoor
open Go.RowKit

set_option maxHeartbeats 400000 in
theorem clip_any (a : Option Addr) (n c : Nat) (w : World) (h : n ≤ c) :
    Calls Tryz.prog 70 #[.slice a n c] w fun e w' => e = .returned (.slice a n n) ∧ w = w' := by
  go_enter Tryz.func70, Tryz.ntmps70
  go_wp2
  go_ret
  exact ⟨rfl, rfl⟩

theorem num_step {w0 wr w' : World} {n n' v v' : Nat} {l p : List UInt8} {a'' : Option Addr} {c'' : Nat} (hv : 128 ≤ v') (he : Codec.enc v = p ++ Codec.enc v') (hn : n' = n + p.length)
    (hb : Below w0.heap.size w0 wr) (h1 : AppB w' w0.heap.size a'' (n' + 1) c'' ((l ++ p) ++ [UInt8.ofNat v' ||| 128])) (h2 : Below w0.heap.size wr w') (h3 : U64 v') :
    AppB w' w0.heap.size a'' (n' + 1) c'' (l ++ (p ++ [UInt8.ofNat v' ||| 128])) ∧ Codec.enc v = (p ++ [UInt8.ofNat v' ||| 128]) ++ Codec.enc (v' / 128) ∧ n' + 1 = n + (p ++ [UInt8.ofNat v' ||| 128]).length ∧
      U64 (v' / 128) ∧ Below w0.heap.size w0 w' := by
  refine ⟨by rw [← List.append_assoc]; exact h1, by rw [he, Codec.enc_big hv]; simp, by simp; omega, ⟨by have := h3.lt; omega⟩, hb.trans h2⟩
theorem num_room {n n' v v' : Nat} {p : List UInt8} (he : Codec.enc v = p ++ Codec.enc v') (hn' : n' = n + p.length) (hv : U64 v) (hn : Fits n) : n' + 1 ≤ 140737488355328 := by
  have h1 := Codec.enc_len10 hv.lt
  have h0 := hn.le
  have h2 := Codec.enc_pos v'
  rw [he, List.length_append] at h1
  omega

set_option maxHeartbeats 400000 in
theorem number_any (a : Option Addr) (n c : Nat) (l : List UInt8) (v : Nat) (w : World) (h : Bs w a n c l) (hv : U64 v) (hn : Fits n) :
    Calls Tryz.prog 34 #[.slice a n c, .int .u64 v] w (RetB w w.heap.size (l ++ Codec.enc v)) := by
  have hle := h.2.1
  have h' := AppB.full (B := w.heap.size) (show Bs w a n n l from ⟨h.1, Nat.le_refl _, by have := h.2.1; have := h.2.2.1; omega, h.2.2.2⟩)
  clear h
  go_enter Tryz.func34, Tryz.ntmps34
  go_wp2_with (go_at_call 70; refine (clip_any _ _ _ _ hle).mono ?_; rintro e w' ⟨rfl, rfl⟩)
  go_loopw [0, 1] (fun s x wr => ∃ (a' : Option Addr) (n' c' v' : Nat) (p : List UInt8), s = .slice a' n' c' ∧ x = .int .u64 v' ∧ AppB wr w.heap.size a' n' c' (l ++ p) ∧ Codec.enc v = p ++ Codec.enc v' ∧ n' = n + p.length ∧ U64 v' ∧ Below w.heap.size w wr) (fun _ x _ => (intOf x).toNat)
  case atStart => exact ⟨a, n, n, v, [], rfl, rfl, by simpa using h', rfl, rfl, hv, Below.refl _ _⟩
  case round =>
    obtain ⟨a', n', c', v', p, rfl, rfl, happ, he, hn', hv', hb⟩ := hrel
    have HE := Lib.hid he; have HN := Lib.hid hn'
    have hbz := hb.size
    clear he hn'
    by_cases hlt : 128 ≤ v'
    · have hd : decide ((128 : Int) ≤ (v' : Int)) = true := by simp; omega
      go_wp2_with (at_builtin; refine app_any rfl _ _ rfl w.heap.size rfl (happ.alloc _) rfl (Bs.one _ _) (num_room HE.out HN.out hv hn) (le_alloc hbz) ?_; intro a'' c'' w' h1 h1' h2 h3)
      have HG := num_step hlt HE.out HN.out hb h1 (((Below.refl _ _).alloc hbz _).trans h2) hv'
      clear h1 h1' h2 h3 happ
      go_roundw
      case rel => exact ⟨_, _, _, _, _, rfl, by go_num, HG⟩
      case measure => simp [intOf]; omega
    · have hd : decide ((128 : Int) ≤ (v' : Int)) = false := by simp; omega
      have hle' : v' < 256 := by omega
      go_wp2_with (at_builtin; refine app_any rfl _ _ rfl w.heap.size rfl (happ.alloc _) rfl (Bs.oneN _ _ hle') (num_room HE.out HN.out hv hn) (le_alloc hbz) ?_; intro a'' c'' w' h1 h1' h2 h3)
      go_ret
      refine ⟨_, _, _, rfl, ?_, hb.trans (((Below.refl _ _).alloc hbz _).trans h2)⟩
      rw [HE.out, Codec.enc_small (by omega), ← List.append_assoc]
      exact h1' (by omega)
end Go.Proofs.YtfgifndpglgjkaaGreatDoor
end

section
namespace Go.Proofs.YtfgifndpglgjkaaGreatDoor
open Go.RowKit

theorem RetB.len {w w' : World} {B : Nat} {l : List UInt8} {e : Ending} (h : RetB w B l e w') : ∃ a n c, e = .returned (.slice a n c) ∧ Own w' B a n c l ∧ Below B w w' ∧ l.length = n := by
  obtain ⟨a, n, c, h1, h2, h3⟩ := h
  exact ⟨a, n, c, h1, h2, h3, h2.bs.1⟩

theorem numr_step {wr w' : World} {B : Nat} {w0 : World} {n n' v v' : Nat} {l p : List UInt8} {a'' : Option Addr} {c'' : Nat} (hv : 128 ≤ v') (he : Codec.enc v = p ++ Codec.enc v') (hn : n' = n + p.length)
    (hb : Below B w0 wr) (h1 : AppB w' B a'' (n' + 1) c'' ((l ++ p) ++ [UInt8.ofNat v' ||| 128])) (h2 : Below B wr w') (h3 : U64 v') {a : Option Addr} (h4 : Evol w0 a w' a'') :
    AppB w' B a'' (n' + 1) c'' (l ++ (p ++ [UInt8.ofNat v' ||| 128])) ∧ Codec.enc v = (p ++ [UInt8.ofNat v' ||| 128]) ++ Codec.enc (v' / 128) ∧ n' + 1 = n + (p ++ [UInt8.ofNat v' ||| 128]).length ∧
      U64 (v' / 128) ∧ Below B w0 w' ∧ Evol w0 a w' a'' := by
  refine ⟨by rw [← List.append_assoc]; exact h1, by rw [he, Codec.enc_big hv]; simp, by simp; omega, ⟨by have := h3.lt; omega⟩, hb.trans h2, h4⟩

set_option maxHeartbeats 400000 in
theorem refnumber_any (B : Nat) (a : Option Addr) (n c : Nat) (l : List UInt8) (v : Nat) (w : World) (hB : B ≤ w.heap.size) (h : AppB w B a n c l) (hv : U64 v) (hn : Fits n) :
    Calls Tryz.prog 38 #[.slice a n c, .int .u64 v] w (RetE w B a (l ++ Codec.enc v)) := by
  go_enter Tryz.func38, Tryz.ntmps38
  go_wp2
  go_loopw [0, 1] (fun s x wr => ∃ (a' : Option Addr) (n' c' v' : Nat) (p : List UInt8), s = .slice a' n' c' ∧ x = .int .u64 v' ∧ AppB wr B a' n' c' (l ++ p) ∧ Codec.enc v = p ++ Codec.enc v' ∧ n' = n + p.length ∧ U64 v' ∧ Below B w wr ∧ Evol w a wr a') (fun _ x _ => (intOf x).toNat)
  case atStart => exact ⟨a, n, c, v, [], rfl, rfl, by simpa using h, rfl, rfl, hv, Below.refl _ _, Evol.refl _ _⟩
  case round =>
    obtain ⟨a', n', c', v', p, rfl, rfl, happ, he, hn', hv', hb, hev⟩ := hrel
    have HE := Lib.hid he; have HN := Lib.hid hn'
    have hbz := Nat.le_trans hB hb.size
    clear he hn'
    by_cases hlt : 128 ≤ v'
    · have hd : decide ((128 : Int) ≤ (v' : Int)) = true := by simp; omega
      go_wp2_with (at_builtin; refine app_any rfl _ _ rfl B rfl (happ.alloc _) rfl (Bs.one _ _) (num_room HE.out HN.out hv hn) (le_alloc hbz) ?_; intro a'' c'' w' h1 h1' h2 h3)
      have HG := numr_step hlt HE.out HN.out hb h1 (((Below.refl _ _).alloc hbz _).trans h2) hv' (hev.trans ((Evol.alloc _ _ _).trans h3))
      clear h1 h1' h2 h3 happ
      go_roundw
      case rel => exact ⟨_, _, _, _, _, rfl, by go_num, HG⟩
      case measure => simp [intOf]; omega
    · have hd : decide ((128 : Int) ≤ (v' : Int)) = false := by simp; omega
      have hle' : v' < 256 := by omega
      go_wp2_with (at_builtin; refine app_any rfl _ _ rfl B rfl (happ.alloc _) rfl (Bs.oneN _ _ hle') (num_room HE.out HN.out hv hn) (le_alloc hbz) ?_; intro a'' c'' w' h1 h1' h2 h3)
      go_ret
      refine ⟨_, _, _, rfl, ?_, hb.trans (((Below.refl _ _).alloc hbz _).trans h2), hev.trans ((Evol.alloc _ _ _).trans h3)⟩
      rw [HE.out, Codec.enc_small (by omega), ← List.append_assoc]
      exact h1' (by omega)

theorem low_step {w0 wr w' : World} {B k n v m v' : Nat} {l p : List UInt8} {a'' : Option Addr} {c'' : Nat} (hm : m < k) (he : Codec.low k v = p ++ Codec.low (k - m) v') (hp : p.length = m)
    (hb : Below B w0 wr) (h1 : Own w' B a'' (n + m + 1) c'' ((l ++ p) ++ [UInt8.ofNat v'])) (h2 : Below B wr w') {a : Option Addr} (h4 : Evol w0 a w' a'') :
    Own w' B a'' (n + (m + 1)) c'' (l ++ (p ++ [UInt8.ofNat v'])) ∧ Codec.low k v = (p ++ [UInt8.ofNat v']) ++ Codec.low (k - (m + 1)) (v' / 256) ∧ (p ++ [UInt8.ofNat v']).length = m + 1 ∧ Below B w0 w' ∧ Evol w0 a w' a'' := by
  refine ⟨by rw [← List.append_assoc]; exact h1, ?_, by simp; omega, hb.trans h2, h4⟩
  have : k - m = (k - (m + 1)) + 1 := by omega
  rw [he, this]; simp [Codec.low]

set_option maxHeartbeats 400000 in
theorem low_any (B : Nat) (a : Option Addr) (n c : Nat) (l : List UInt8) (v k : Nat) (w : World) (hB : B ≤ w.heap.size) (h : Own w B a n c l) (hn : n + k ≤ 140737488355328) :
    Calls Tryz.prog 71 #[.slice a n c, .int .u64 v, .int .i64 k] w (RetE w B a (l ++ Codec.low k v)) := by
  have HN := Lib.hid hn
  have hk : k ≤ 9223372036854775806 := by omega
  clear hn
  go_enter Tryz.func71, Tryz.ntmps71
  go_wp2
  go_loopw [0, 1, 8] (fun s x i wr => ∃ (a' : Option Addr) (c' v' m : Nat) (p : List UInt8), m ≤ k ∧ i = .int .i64 m ∧ s = .slice a' (n + m) c' ∧ x = .int .u64 v' ∧ Own wr B a' (n + m) c' (l ++ p) ∧ Codec.low k v = p ++ Codec.low (k - m) v' ∧ p.length = m ∧ Below B w wr ∧ Evol w a wr a') (fun _ _ i _ => k - (intOf i).toNat)
  case atStart => exact ⟨a, c, v, 0, [], by omega, rfl, rfl, rfl, by simpa using h, rfl, rfl, Below.refl _ _, Evol.refl _ _⟩
  case round =>
    obtain ⟨a', c', v', m, p, hm, rfl, rfl, rfl, happ, he, hp, hb, hev⟩ := hrel
    have HE := Lib.hid he; have HP := Lib.hid hp
    have hbz := Nat.le_trans hB hb.size
    clear he hp
    by_cases hlt : m < k
    · go_wp2_with (at_builtin; refine app_own rfl _ _ rfl B rfl (happ.alloc _) rfl (Bs.one _ _) (by have := HN.out; omega) (le_alloc hbz) ?_; intro a'' c'' w' h1 h2 h3)
      have HG := low_step hlt HE.out HP.out hb h1 (((Below.refl _ _).alloc hbz _).trans h2) (hev.trans ((Evol.alloc _ _ _).trans h3))
      clear h1 h2 h3 happ
      go_roundw
      case rel => exact ⟨_, _, _, m + 1, _, by omega, by go_num, rfl, by go_num, HG⟩
      case measure => simp [intOf]; omega
    · obtain rfl : m = k := by omega
      go_wp2
      go_ret
      refine ⟨_, _, _, rfl, ?_, hb, hev⟩
      have := HE.out
      simp [Codec.low] at this
      rw [this]; exact happ

set_option maxHeartbeats 400000 in
theorem four_any (B : Nat) (a : Option Addr) (n c : Nat) (l : List UInt8) (x : UInt32) (w : World) (hB : B ≤ w.heap.size) (h : Own w B a n c l) (hn : n + 4 ≤ 140737488355328) :
    Calls Tryz.prog 39 #[.slice a n c, .int .u32 (n32 x)] w (RetE w B a (l ++ Codec.four x)) := by
  go_enter Tryz.func39, Tryz.ntmps39
  go_wp2_with (at_builtin; refine app_own rfl _ _ rfl B rfl (h.alloc _) rfl (Bs.lit w (Codec.four x) (by simp [Codec.four, maxLen])) hn (le_alloc hB) ?_; intro a'' c'' w' h1 h2 h3)
  go_ret
  exact ⟨_, _, _, rfl, h1, ((Below.refl _ _).alloc hB _).trans h2, (Evol.alloc _ _ _).trans h3⟩
end Go.Proofs.YtfgifndpglgjkaaGreatDoor
end

section
namespace Go.Proofs.YtfgifndpglgjkaaGreatDoor
open Go.RowKit

theorem u64_of_fits {n : Nat} (h : Fits n) : U64 n := ⟨by have := h.le; omega⟩
theorem fits_room {n m : Nat} (h : Fits (n + m)) : n + m ≤ 140737488355328 := by have := h.le; omega

set_option maxHeartbeats 400000 in
theorem refbytes_any (B : Nat) (a ax : Option Addr) (n c m cx : Nat) (l x : List UInt8) (w : World) (hB : B ≤ w.heap.size) (h : AppB w B a n c l) (hx : Bs w ax m cx x) (hne : 0 < m → ∀ y z, ax = some y → a = some z → y.block ≠ z.block) (hn : Fits (n + m + 10)) :
    Calls Tryz.prog 40 #[.slice a n c, .slice ax m cx] w (RetB w B (l ++ (Codec.enc m ++ x))) := by
  have hle := hx.le.1
  have hu : U64 m := ⟨by have := hn.le; omega⟩
  have hf : Fits n := ⟨by have := hn.le; omega⟩
  go_enter Tryz.func40, Tryz.ntmps40
  go_wp2_with fail
  refine (refnumber_any B _ _ _ l _ _ hB h hu hf).mono ?_
  rintro e w1 ⟨a1, n1, c1, rfl, ho, hb, hev⟩
  have hx1 := hx.evol hev hne
  have hroom : n1 + m ≤ 140737488355328 := by
    have := ho.bs.1; have := hn.le; have := h.bs.1; have := Codec.enc_len10 hu.lt; simp only [List.length_append] at *; omega
  go_wp2_with (at_builtin; refine app_own rfl _ _ rfl B rfl ho rfl hx1 hroom (Nat.le_trans hB hb.size) ?_; intro a'' c'' w' h1 h2 _)
  go_ret
  exact ⟨_, _, _, rfl, by rw [← List.append_assoc]; exact h1, hb.trans h2⟩


set_option maxHeartbeats 400000 in
theorem size_any (a : Option Addr) (n c : Nat) (ls : List (List UInt8)) (w : World) (h : Bss w a n c ls) (hf : Fits (tot ls)) :
    Calls Tryz.prog 72 #[.slice a n c] w fun e w' => e = .returned (.int .i64 (tot ls)) ∧ w = w' := by
  have hle := h.le.1
  have HN := Lib.hid h.1
  go_enter Tryz.func72, Tryz.ntmps72
  go_wp2
  go_loop [3, 8] (fun s i => ∃ k : Nat, k ≤ n ∧ i = .int .i64 k ∧ s = .int .i64 (tot (ls.take k))) (fun _ i => n - (intOf i).toNat)
  case atStart => exact ⟨0, by omega, rfl, rfl⟩
  case round =>
    obtain ⟨k, hk, rfl, rfl⟩ := hrel
    by_cases hlt : k < n
    · obtain ⟨b, off, ai, ni, ci, rfl, hc, hr⟩ := h.get hlt
      have hs := tot_snoc ls (i := k) (by rw [HN.out]; exact hlt)
      have hl := tot_le ls (k + 1)
      have hf' := hf.le
      rw [hr.1] at hs
      have hb : tot (ls.take k) + ni ≤ 140737488355300 := by omega
      have HS := Lib.hid hs
      clear hs hl hf'
      generalize tot (ls.take k) = t at *
      go_wp2
      go_round
      case rel => exact ⟨k + 1, by omega, by go_num, by rw [HS.out]; go_num⟩
      case measure => simp [intOf]; omega
    · obtain rfl : k = n := by omega
      go_wp2
      go_ret
      exact ⟨by rw [← HN.out, List.take_length]; rfl, rfl⟩

set_option maxHeartbeats 400000 in
theorem bytes_any (a ax : Option Addr) (n c m cx : Nat) (l : List UInt8) (ls : List (List UInt8)) (w : World) (h : Bs w a n c l) (hx : Bss w ax m cx ls) (hn : Fits (n + tot ls + 10)) :
    Calls Tryz.prog 37 #[.slice a n c, .slice ax m cx] w (RetB w w.heap.size (l ++ Codec.bytes ls)) := by
  have hle := hx.le.1
  have HN := Lib.hid hx.1
  have hu : U64 (tot ls) := ⟨by have := hn.le; omega⟩
  have hf : Fits n := ⟨by have := hn.le; omega⟩
  have hft : Fits (tot ls) := ⟨by have := hn.le; omega⟩
  have hbd : tot ls ≤ 140737488355328 := by have := hn.le; omega
  go_enter Tryz.func37, Tryz.ntmps37
  go_wp2_with fail
  refine (size_any _ _ _ ls _ hx hft).mono ?_
  rintro e w' ⟨rfl, rfl⟩
  go_wp2_with fail
  refine (number_any _ _ _ l _ _ h hu hf).mono ?_
  rintro e w1 ⟨a1, n1, c1, rfl, ho, hb⟩
  have HN1 := Lib.hid ho.bs.1
  have HL := Lib.hid h.1
  go_wp2_with fail
  go_loopw [0, 14] (fun s i wr => ∃ (k : Nat) (a' : Option Addr) (n' c' : Nat), k ≤ m ∧ i = .int .i64 k ∧ s = .slice a' n' c' ∧ Own wr w.heap.size a' n' c' (l ++ Codec.enc (tot ls) ++ (ls.take k).flatten) ∧ Below w.heap.size w wr) (fun _ i _ => m - (intOf i).toNat)
  case atStart => exact ⟨0, _, _, _, by omega, rfl, rfl, by simpa using ho, hb⟩
  case round =>
    obtain ⟨k, a', n', c', hk, rfl, rfl, hown, hb⟩ := hrel
    have hbz := hb.size
    by_cases hlt : k < m
    · obtain ⟨b, off, ai, ni, ci, rfl, hc, hr⟩ := (hx.below hb).get hlt
      have hs := tot_snoc ls (i := k) (by rw [HN.out]; exact hlt)
      have hl := tot_le ls (k + 1)
      have hm := hown.bs.1
      have he := Codec.enc_len10 hu.lt
      have hHL := HL.out
      have hnl := hn.le
      rw [hr.1] at hs
      have hroom := Lib.hid (show n' + ni ≤ 140737488355328 by simp only [List.length_append] at hm; unfold tot at *; omega)
      have HF := Lib.hid (flat_snoc ls (i := k) (by rw [HN.out]; exact hlt))
      clear hs hl hm he hHL hnl
      go_wp2_with (at_builtin; refine app_own rfl _ _ rfl w.heap.size rfl hown rfl hr hroom.out hbz ?_; intro a'' c'' w' h1 h2 _)
      have HG : Own w' w.heap.size a'' (n' + ni) c'' (l ++ Codec.enc (tot ls) ++ (ls.take (k + 1)).flatten) ∧ Below w.heap.size w w' := ⟨by rw [HF.out, ← List.append_assoc]; exact h1, hb.trans h2⟩
      clear h1 h2 hown
      go_roundw
      case rel => exact ⟨k + 1, _, _, _, by omega, by go_num, rfl, HG⟩
      case measure => simp [intOf]; omega
    · obtain rfl : k = m := by omega
      go_wp2
      go_ret
      refine ⟨_, _, _, rfl, ?_, hb⟩
      rw [← HN.out, List.take_length, List.append_assoc] at hown
      exact hown

set_option maxHeartbeats 400000 in
theorem refframe_any (B : Nat) (a ax : Option Addr) (n c m cx : Nat) (l x : List UInt8) (w : World) (hB : B ≤ w.heap.size) (h : AppB w B a n c l) (hx : Bs w ax m cx x) (hne : 0 < m → ∀ y z, ax = some y → a = some z → y.block ≠ z.block) (hn : Fits (n + m + 20)) :
    Calls Tryz.prog 41 #[.slice a n c, .slice ax m cx] w (RetB w B (l ++ Codec.frame x)) := by
  have hle := hx.le.1
  have hu : U64 m := ⟨by have := hn.le; omega⟩
  have hf : Fits n := ⟨by have := hn.le; omega⟩
  have HX := Lib.hid hx.1
  go_enter Tryz.func41, Tryz.ntmps41
  go_wp2_with fail
  refine (refnumber_any B _ _ _ l _ _ hB h hu hf).mono ?_
  rintro e w1 ⟨a1, n1, c1, rfl, ho, hb, hev⟩
  have hx1 := hx.evol hev hne
  have hl1 : n1 + m + 4 ≤ 140737488355328 := by
    have := ho.bs.1; have := hn.le; have := h.bs.1; have := Codec.enc_len10 hu.lt; simp only [List.length_append] at *; omega
  go_wp2_with fail
  refine (refsum_any _ _ _ x _ hx1).mono ?_
  rintro e w2 ⟨rfl, rfl⟩
  go_wp2_with fail
  refine (four_any B _ _ _ _ _ _ (Nat.le_trans hB hb.size) ho (by omega)).mono ?_
  rintro e w2 ⟨a2, n2, c2, rfl, ho2, hb2, hev2⟩
  have hx2 := hx.evol (hev.trans hev2) hne
  have hl2 : n2 + m ≤ 140737488355328 := by
    have h1 := ho2.bs.1; have h2 := ho.bs.1
    rw [List.length_append, h2] at h1
    have : (Codec.four (Codec.sum x)).length = 4 := rfl
    omega
  go_wp2_with (at_builtin; refine app_own rfl _ _ rfl B rfl ho2 rfl hx2 hl2 (Nat.le_trans hB (Nat.le_trans hb.size hb2.size)) ?_; intro a'' c'' w' h1 h2 _)
  go_ret
  refine ⟨_, _, _, rfl, ?_, (hb.trans hb2).trans h2⟩
  unfold Codec.frame
  rw [HX.out]
  simpa [List.append_assoc] using h1

set_option maxHeartbeats 400000 in
theorem frame_any (ax : Option Addr) (m cx : Nat) (x : List UInt8) (w : World) (hx : Bs w ax m cx x) (hn : Fits (m + 20)) :
    Calls Tryz.prog 36 #[.slice ax m cx] w (RetB w w.heap.size (Codec.frame x)) := by
  have hle := hx.le.1
  have hu : U64 m := ⟨by have := hn.le; omega⟩
  have hf : Fits 0 := ⟨by omega⟩
  have HX := Lib.hid hx.1
  go_enter Tryz.func36, Tryz.ntmps36
  go_wp2_with fail
  refine (number_any _ _ _ [] _ _ (Bs.nil w) hu hf).mono ?_
  rintro e w1 ⟨a1, n1, c1, rfl, ho, hb⟩
  have hx1 := hx.below hb
  have hl1 : n1 + m + 4 ≤ 140737488355328 := by
    have := ho.bs.1; have := hn.le; have := Codec.enc_len10 hu.lt; simp only [List.nil_append] at *; omega
  go_wp2_with fail
  refine (sum_any _ _ _ [x] _ (Bss.one hx1)).mono ?_
  rintro e w2 ⟨rfl, hb2⟩
  have hb12 : Below w1.heap.size w1 w2 := ((Below.refl _ _).alloc (Nat.le_refl _) _).trans (hb2.mono (by simp))
  have ho2 := ho.below hb12
  go_wp2_with fail
  refine (low_any w.heap.size _ _ _ _ (Codec.sum x).toNat 4 _ (Nat.le_trans hb.size hb12.size) ho2 (by omega)).mono ?_
  rintro e w3 ⟨a3, n3, c3, rfl, ho3, hb3, hev3⟩
  have hb13 : Below w.heap.size w w3 := (hb.trans (hb12.mono hb.size)).trans hb3
  have hx3 := hx.below hb13
  have hl2 : n3 + m ≤ 140737488355328 := by
    have h1 := ho3.bs.1; have h2 := ho.bs.1
    rw [List.length_append, h2, Codec.low_len] at h1
    omega
  go_wp2_with (at_builtin; refine app_own rfl _ _ rfl w.heap.size rfl ho3 rfl hx3 hl2 hb13.size ?_; intro a'' c'' w' h1 h2 _)
  go_ret
  refine ⟨_, _, _, rfl, ?_, hb13.trans h2⟩
  unfold Codec.frame
  rw [HX.out]
  rw [Codec.four_eq] at h1
  simpa [List.append_assoc] using h1

theorem frames_snoc (ls : List (List UInt8)) {i : Nat} (hi : i < ls.length) : Codec.frames (ls.take (i + 1)) = Codec.frames (ls.take i) ++ Codec.frame (nth ls i) := by
  unfold Codec.frames
  rw [take_snoc ls hi]; simp
theorem frame_len {x : List UInt8} (h : U64 x.length) : (Codec.frame x).length ≤ x.length + 14 := by
  have := Codec.enc_len10 h.lt
  have h4 : (Codec.four (Codec.sum x)).length = 4 := rfl
  unfold Codec.frame
  simp only [List.length_append]
  omega
theorem frames_len : ∀ (ls : List (List UInt8)), (∀ x ∈ ls, U64 x.length) → (Codec.frames ls).length ≤ tot ls + 14 * ls.length := by
  intro ls
  induction ls with
  | nil => intro _; simp [Codec.frames, tot]
  | cons x ls ih =>
    intro h
    have h1 := frame_len (h x (by simp))
    have h2 := ih (fun y hy => h y (by simp [hy]))
    simp only [Codec.frames, tot, List.map_cons, List.flatten_cons, List.length_append, List.length_cons] at *
    omega
theorem frames_room {ls : List (List UInt8)} {i : Nat} (hi : i < ls.length) (hf : Fits (tot ls + 20 * ls.length)) : (Codec.frames (ls.take i)).length + (Codec.frame (nth ls i)).length ≤ 140737488355328 ∧ Fits ((nth ls i).length + 20) := by
  have hf' := hf.le
  have hu : ∀ x ∈ ls.take (i + 1), U64 x.length := by
    intro x hx
    obtain ⟨l1, l2, e⟩ := List.append_of_mem hx
    have h1 := tot_le ls (i + 1)
    rw [e] at h1
    simp only [tot, List.flatten_append, List.flatten_cons, List.length_append] at h1 hf'
    exact ⟨by omega⟩
  have h1 := frames_len _ hu
  have h2 := tot_le ls (i + 1)
  rw [frames_snoc ls hi, List.length_append] at h1
  have h3 : (ls.take (i + 1)).length ≤ ls.length := by simp; omega
  have h4 := tot_snoc ls hi
  exact ⟨by omega, ⟨by omega⟩⟩

end Go.Proofs.YtfgifndpglgjkaaGreatDoor
end

section
namespace Go.Proofs.YtfgifndpglgjkaaGreatDoor
open Go.RowKit

set_option maxHeartbeats 400000 in
theorem clone_any (a : Option Addr) (n c : Nat) (l : List UInt8) (w : World) (h : Bs w a n c l) (hf : Fits n) :
    Calls Tryz.prog 78 #[.slice a n c] w (RetB w w.heap.size l) := by
  have hq := fun (w : World) => Lib.run_eql_slice_nil (P := Tryz.prog) w 25 5 a n c 0 0 Tryz.underlying25
  cases a with
  | none =>
    go_enter Tryz.func78, Tryz.ntmps78
    go_wp2
    go_ret
    have hl : l = [] := by
      cases l with
      | nil => rfl
      | cons b l => obtain ⟨_, _, h1, _⟩ := h.2.2.2 0 _ rfl; cases h1
    subst hl
    exact ⟨_, _, _, rfl, Own.nil _ _, Below.refl _ _⟩
  | some ad =>
    go_enter Tryz.func78, Tryz.ntmps78
    go_wp2_with (at_builtin; refine app_own rfl _ _ rfl w.heap.size rfl (Own.lit w w.heap.size [] (Nat.le_refl _) (by simp [maxLen])) rfl (h.below ((Below.refl _ _).alloc (Nat.le_refl _) _)) (by have := hf.le; simp; omega) (le_alloc (Nat.le_refl _)) ?_; intro a'' c'' w' h1 h2 _)
    go_ret
    exact ⟨_, _, _, rfl, by simpa using h1, ((Below.refl _ _).alloc (Nat.le_refl _) _).trans h2⟩

theorem or_step {u k : Nat} {c : UInt8} (hu : u < 128 ^ k) (hk : k ≤ 9) (h9 : k = 9 → c.toNat % 128 ≤ 1) : bits .or .u64 (u : Int) (IntKind.u64.wrap (((c.toNat &&& 127 : Nat) : Int) * 2 ^ (7 * k))) = ((u + c.toNat % 128 * 128 ^ k : Nat) : Int) := by
  have hm : c.toNat &&& 127 = c.toNat % 128 := Nat.and_two_pow_sub_one_eq_mod _ 7
  have hx : c.toNat % 128 < 128 := Nat.mod_lt _ (by decide)
  rw [hm]
  generalize c.toNat % 128 = x at *
  have hp : (128 : Nat) ^ k = 2 ^ (7 * k) := by rw [show (128 : Nat) = 2 ^ 7 from rfl, ← Nat.pow_mul]
  have hb : u + x * 128 ^ k < 18446744073709551616 := by
    by_cases h : k = 9
    · subst h
      have := h9 rfl
      have e9 : (128 : Nat) ^ 9 = 9223372036854775808 := by decide
      rw [e9] at hu ⊢
      have : x * 9223372036854775808 ≤ 1 * 9223372036854775808 := Nat.mul_le_mul_right _ this
      omega
    · have hle : 128 ^ k ≤ 128 ^ 8 := Nat.pow_le_pow_right (by decide) (by omega)
      have e8 : (128 : Nat) ^ 8 = 72057594037927936 := by decide
      rw [e8] at hle
      have : x * 128 ^ k ≤ 127 * 128 ^ k := Nat.mul_le_mul_right _ (by omega)
      omega
  have es : IntKind.u64.wrap ((x : Int) * 2 ^ (7 * k)) = ((x * 128 ^ k : Nat) : Int) := by
    rw [IntKind.wrap_u64, hp]
    have : (x : Int) * 2 ^ (7 * k) = ((x * 2 ^ (7 * k) : Nat) : Int) := by push_cast; rfl
    rw [this]
    rw [hp] at hb
    omega
  rw [es, u64_or_nat _ _ (by omega) (by omega)]
  congr 1
  rw [hp] at hu ⊢
  rw [← Nat.shiftLeft_eq, Nat.add_comm, Nat.shiftLeft_add_eq_or_of_lt hu, Nat.or_comm]
theorem and64_127 (c : UInt8) : bits .and .u64 (c.toNat : Int) 127 = ((c.toNat &&& 127 : Nat) : Int) := by
  have := c.toNat_lt
  exact u64_and_nat c.toNat 127 (by omega) (by decide)
theorem dec_step {l : List UInt8} {k u : Nat} (h : k < l.length) :
    Codec.decF k u (l.drop k) = if k = 9 ∧ 1 < (nth l k).toNat then (0, 0, 12) else if (nth l k).toNat < 128 then (if (nth l k).toNat = 0 ∧ 0 < k then (0, 0, 12) else (u + (nth l k).toNat % 128 * 128 ^ k, k + 1, 0)) else Codec.decF (k + 1) (u + (nth l k).toNat % 128 * 128 ^ k) (l.drop (k + 1)) := by
  rw [List.drop_eq_getElem_cons h, nth_eq l h]; rfl
theorem dec_grow {u x k : Nat} (hu : u < 128 ^ k) : u + x % 128 * 128 ^ k < 128 ^ (k + 1) := by
  have : x % 128 * 128 ^ k ≤ 127 * 128 ^ k := Nat.mul_le_mul_right _ (by have := Nat.mod_lt x (show 0 < 128 by decide); omega)
  rw [Nat.pow_succ]; omega

set_option maxHeartbeats 1000000 in
theorem readnum_any (a : Option Addr) (n c : Nat) (l : List UInt8) (w : World) (h : Bs w a n c l) :
    Calls Tryz.prog 80 #[.slice a n c] w fun e w' => e = .returned (.tuple #[.int .u64 (Codec.dec l).1, .int .i64 (Codec.dec l).2.1, .int .i64 (Codec.dec l).2.2]) ∧ w = w' := by
  have hle := h.le.1
  have HN := Lib.hid h.1
  go_enter Tryz.func80, Tryz.ntmps80
  go_wp2
  go_loop [5, 10] (fun v i => ∃ (k u : Nat), k ≤ n ∧ k ≤ 9 ∧ i = .int .i64 k ∧ v = .int .u64 u ∧ u < 128 ^ k ∧ Codec.dec l = Codec.decF k u (l.drop k)) (fun _ i => n - (intOf i).toNat)
  case atStart => exact ⟨0, 0, by omega, by omega, rfl, rfl, by simp, rfl⟩
  case round =>
    obtain ⟨k, u, hk, hk9, rfl, rfl, hu, hd⟩ := hrel
    have HU := Lib.hid hu
    by_cases hlt : k < n
    · rw [dec_step (by rw [h.1]; exact hlt)] at hd
      have HD := Lib.hid hd
      clear hu hd
      obtain ⟨b, off, rfl, hc⟩ := h.byte hlt
      have hcb := (nth l k).toNat_lt
      by_cases w1 : k = 9 ∧ 1 < (nth l k).toNat
      · have HF := Lib.hid (HD.out.trans (if_pos w1))
        obtain ⟨rfl, w1'⟩ := w1
        have e2 : decide ((1 : Int) < n8 (nth l 9)) = true := n8_gt_lit (k := 1) w1'
        go_wp2
        go_ret3
        exact ⟨by rw [HF.out]; rfl, rfl⟩
      · have HD2 := Lib.hid (HD.out.trans (if_neg w1))
        have hx9 : k = 9 → (nth l k).toNat % 128 ≤ 1 := by intro e; omega
        have HO := Lib.hid (or_step (c := nth l k) HU.out hk9 hx9)
        have HX := Lib.hid hx9
        have HW := Lib.hid w1
        clear hx9 w1
        by_cases w2 : (nth l k).toNat < 128
        · have e3 : decide (n8 (nth l k) < 128) = true := n8_lt_lit (k := 128) w2
          have HD3 := Lib.hid (HD2.out.trans (if_pos w2))
          by_cases w3 : (nth l k).toNat = 0
          · have e4 : (nth l k == 0) = true := by rw [beq_iff_eq]; exact UInt8.toNat_inj.1 w3
            have e2 : decide ((1 : Int) < n8 (nth l k)) = false := n8_ngt_lit (k := 1) (by omega)
            have W3 := Lib.hid w3; clear w3
            by_cases w4 : 0 < k
            · have HF := Lib.hid (HD3.out.trans (if_pos ⟨W3.out, w4⟩))
              have e5 : decide ((0 : Int) < (k : Int)) = true := by simp; omega
              cases e1 : ((k : Int) == 9)
              all_goals
                go_wp2
                go_ret3
                exact ⟨by rw [HF.out]; rfl, rfl⟩
            · have e5 : decide ((0 : Int) < (k : Int)) = false := by simp; omega
              have e1 : ((k : Int) == 9) = false := by simp; omega
              have HF := Lib.hid (HD3.out.trans (if_neg (by omega)))
              go_wp2
              go_ret3
              refine ⟨?_, rfl⟩
              obtain rfl : k = 0 := by omega
              have hz : u = 0 := by have := HU.out; simpa using this
              have hx : nth l 0 = 0 := by simpa using e4
              rw [HF.out, hz, hx]
              rfl
          · have HF := Lib.hid (HD3.out.trans (if_neg (by omega)))
            have e4 : (nth l k == 0) = false := by rw [beq_eq_false_iff_ne]; intro e; rw [e] at w3; exact w3 rfl
            cases e1 : ((k : Int) == 9)
            · go_wp2
              go_ret3
              refine ⟨?_, rfl⟩
              rw [HF.out, HO.out]
              rfl
            · have e2 : decide ((1 : Int) < n8 (nth l k)) = false := n8_ngt_lit (k := 1) (by have := HW.out; simp at e1; omega)
              go_wp2
              go_ret3
              refine ⟨?_, rfl⟩
              rw [HF.out, HO.out]
              rfl
        · have HF := Lib.hid (HD2.out.trans (if_neg w2))
          have e3 : decide (n8 (nth l k) < 128) = false := n8_nlt_lit (k := 128) (by omega)
          have hk8 : k < 9 := by have := HW.out; omega
          have e1 : ((k : Int) == 9) = false := by simp; omega
          have HG := Lib.hid (dec_grow (x := (nth l k).toNat) HU.out)
          go_wp2
          go_round
          case rel => exact ⟨k + 1, _, by omega, by omega, by go_num, by rw [HO.out], HG.out, HF.out⟩
          case measure => simp [intOf]; omega
    · obtain rfl : k = n := by omega
      have hd' : Codec.dec l = (0, 0, 11) := by rw [hd, ← HN.out, List.drop_length]; rfl
      have HF := Lib.hid hd'
      clear hd hd' hu
      go_wp2
      go_ret3
      exact ⟨by rw [HF.out]; rfl, rfl⟩

end Go.Proofs.YtfgifndpglgjkaaGreatDoor
end
