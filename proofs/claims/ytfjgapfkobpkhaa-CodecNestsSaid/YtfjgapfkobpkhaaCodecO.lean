/- The walk of the law CodecNests. -/
import Derived.Test.YtfjgapfkobpkhaaCodecG
import Derived.Test.YtfjgapfkobpkhaaCodecK
namespace Go.Proofs.Ytfjgapfkobpkhaa
open Go.RowKit

/-- Frames and counted bytes by turns. -/
def Codec.nest (x : List UInt8) : Nat → List UInt8
  | 0 => x
  | k + 1 => if k % 2 = 0 then Codec.frame (Codec.nest x k) else Codec.bytes [Codec.nest x k]
theorem nest_len (x : List UInt8) (hx : x.length ≤ 1000) : ∀ k, k ≤ 200 → (Codec.nest x k).length ≤ 1000 + 14 * k
  | 0, _ => by simpa [Codec.nest] using hx
  | k + 1, hk => by
    have ih := nest_len x hx k (by omega)
    unfold Codec.nest
    by_cases h : k % 2 = 0
    · rw [if_pos h]
      have := frame_len (x := Codec.nest x k) ⟨by omega⟩
      omega
    · rw [if_neg h]
      have := Codec.enc_len10 (v := (Codec.nest x k).length) (by omega)
      simp only [Codec.bytes, List.flatten_cons, List.flatten_nil, List.append_nil, List.length_append]
      omega
theorem rdBytes_bytes (y : List UInt8) (hy : y.length < 100000) (m : Nat) (hm : y.length ≤ m) : Codec.rdBytes (Codec.bytes [y]) (m : Int) = (y, (Codec.bytes [y]).length, 0) := by
  have hd : Codec.dec (Codec.bytes [y]) = (y.length, (Codec.enc y.length).length, 0) := by
    simp only [Codec.bytes, List.flatten_cons, List.flatten_nil, List.append_nil]
    exact Codec.dec_enc (by omega) _
  have hlen : (Codec.bytes [y]).length = (Codec.enc y.length).length + y.length := by simp [Codec.bytes]
  have hdr : (Codec.bytes [y]).drop (Codec.enc y.length).length = y := by
    simp only [Codec.bytes, List.flatten_cons, List.flatten_nil, List.append_nil]
    exact List.drop_left
  unfold Codec.rdBytes
  rw [hd]
  dsimp only
  rw [if_neg (by simp), if_neg (by omega), if_neg (by rw [hlen]; omega), hdr, List.take_length, hlen]
theorem rdFrame_frame (y : List UInt8) (hy : y.length < 100000) : Codec.rdFrame (Codec.frame y) = (y, (Codec.frame y).length, 0) := by
  have := (Codec.decFrame_frame (x := y) (by omega) []).2
  rwa [List.append_nil] at this

set_option maxHeartbeats 4000000 in
theorem codecNests_walk (ax : Option Addr) (nx cx : Nat) (x : List UInt8) (deep : Int) (w : World) (hx : Bs w ax nx cx x) :
    Calls Try.prog 10 #[.slice ax nx cx, .int .i64 deep] w fun e w' => e = .returned (.bool true) ∧ Below w.heap.size w w' := by
  have hlex := hx.le.1
  have HX := Lib.hid hx.1
  go_enter Try.func10, Try.ntmps10
  go_wp2_with fail
  refine (known_any _).mono ?_
  rintro e w1 ⟨rfl, hb1⟩
  by_cases g1 : 1000 < nx
  · have t1 : decide ((1000 : Int) < (nx : Int)) = true := decide_eq_true (by omega)
    go_wp2
    go_ret
    exact ⟨rfl, hb1⟩
  have t1 : decide ((1000 : Int) < (nx : Int)) = false := decide_eq_false (by omega)
  by_cases g2 : deep < 0
  · have t2 : decide (deep < 0) = true := decide_eq_true g2
    go_wp2
    go_ret
    exact ⟨rfl, hb1⟩
  obtain ⟨d, rfl⟩ : ∃ d : Nat, deep = (d : Int) := ⟨deep.toNat, by omega⟩
  have t2 : decide ((d : Int) < 0) = false := decide_eq_false g2
  by_cases g3 : 200 < d
  · have t3 : decide ((200 : Int) < (d : Int)) = true := decide_eq_true (by omega)
    go_wp2
    go_ret
    exact ⟨rfl, hb1⟩
  have t3 : decide ((200 : Int) < (d : Int)) = false := decide_eq_false (by omega)
  have hnx : nx ≤ 1000 := by omega
  have hd : d ≤ 200 := by omega
  have hnest : ∀ k, k ≤ 200 → (Codec.nest x k).length ≤ 1000 + 14 * k := nest_len x (by rw [HX.out]; exact hnx)
  clear g1 g2 g3
  go_wp2_with (at_builtin; refine app_own (l := []) rfl _ _ rfl w1.heap.size rfl (Own.lit w1 w1.heap.size [] (Nat.le_refl _) (by simp [maxLen])) rfl ((hx.below hb1).below ((Below.refl _ _).alloc (Nat.le_refl _) _)) (by simp; omega) (le_alloc (Nat.le_refl _)) ?_; intro a3 c3 w3 h3 hb3 _; simp only [List.length_nil, Nat.zero_add, List.nil_append] at h3; have hb3' := hb1.trans ((((Below.refl w1.heap.size w1).alloc (Nat.le_refl _) _).trans hb3).mono hb1.size))
  clear t1 t2 t3 hb3
  have hbs3 := h3.bs
  clear h3
  go_loopw [5, 6] (fun b i wr => ∃ (k : Nat) (a : Option Addr) (n c : Nat), k ≤ d ∧ i = .int .i64 k ∧ b = .slice a n c ∧ Bs wr a n c (Codec.nest x k) ∧ Below w.heap.size w wr) (fun _ i _ => d - (intOf i).toNat)
  case atStart => exact ⟨0, _, _, _, by omega, rfl, rfl, hbs3, hb3'⟩
  case round =>
    obtain ⟨k, a, n, c, hk, rfl, rfl, hB, hbl⟩ := hrel
    clear hbs3 hb3'
    have hn : n ≤ 1000 + 14 * k := by have := hnest k (by omega); rw [hB.1] at this; exact this
    have hlen := hB.le.1
    by_cases hlt : k < d
    · by_cases hp : k % 2 = 0
      · have e1 : Codec.nest x (k + 1) = Codec.frame (Codec.nest x k) := by show (if k % 2 = 0 then _ else _) = _; rw [if_pos hp]
        have E1 := Lib.hid e1
        have t4 : ((k : Int) % 2 == 0) = true := by rw [beq_iff_eq]; omega
        clear e1 hp
        go_wp2_with fail
        refine (frame_any _ _ _ _ _ hB ⟨by omega⟩).mono ?_
        rintro e w6 ⟨a6, n6, c6, rfl, ho6, hb6⟩
        go_wp2
        go_roundw
        case rel => exact ⟨k + 1, _, _, _, by omega, by go_num, rfl, by rw [E1.out]; exact ho6.bs, hbl.trans (hb6.mono hbl.size)⟩
        case measure => simp [intOf]; omega
      · have e1 : Codec.nest x (k + 1) = Codec.bytes [Codec.nest x k] := by show (if k % 2 = 0 then _ else _) = _; rw [if_neg hp]
        have E1 := Lib.hid e1
        have t4 : ((k : Int) % 2 == 0) = false := by rw [beq_eq_false_iff_ne]; omega
        clear e1 hp
        have HB := Lib.hid (Bss.one hB)
        go_wp2_with fail
        refine (bytes_any _ _ _ _ _ _ [] _ _ (Bs.nil _) HB.out ⟨by simp [tot, hB.1]; omega⟩).mono ?_
        rintro e w6 ⟨a6, n6, c6, rfl, ho6, hb6⟩
        go_wp2
        go_roundw
        case rel => exact ⟨k + 1, _, _, _, by omega, by go_num, rfl, by rw [E1.out]; exact ho6.bs, hbl.trans ((((Below.refl _ _).alloc (Nat.le_refl _) _).trans (hb6.mono (by simp))).mono hbl.size)⟩
        case measure => simp [intOf]; omega
    · obtain rfl : k = d := by omega
      clear hlt
      go_wp2
      go_loopw [5, 7] (fun b i wr => ∃ (j : Nat) (a : Option Addr) (n c : Nat), j ≤ k ∧ i = .int .i64 ((j : Int) - 1) ∧ b = .slice a n c ∧ Bs wr a n c (Codec.nest x j) ∧ Below w.heap.size w wr) (fun _ i _ => (intOf i + 1).toNat)
      case atStart => exact ⟨_, _, _, _, Nat.le_refl _, rfl, rfl, hB, hbl⟩
      case round =>
        clear hB hbl hn hlen hk
        obtain ⟨j, a, n, c, hj, rfl, rfl, hB, hbl⟩ := hrel
        have hn : n ≤ 1000 + 14 * j := by have := hnest j (by omega); rw [hB.1] at this; exact this
        have hlen := hB.le.1
        by_cases h0 : j = 0
        · subst h0
          go_wp2_with fail
          refine (same_any _ _ _ _ _ _ _ _ _ hB (hx.below hbl)).mono ?_
          rintro e w6 ⟨rfl, rfl⟩
          have s6 : decide (Codec.nest x 0 = x) = true := decide_eq_true rfl
          rw [s6]
          go_wp2
          go_ret
          exact ⟨rfl, hbl⟩
        · obtain ⟨i, rfl⟩ : ∃ i, j = i + 1 := ⟨j - 1, by omega⟩
          have hi := hnest i (by omega)
          have ei : ((i + 1 : Nat) : Int) - 1 = (i : Int) := by omega
          have HN := Lib.hid hB.1
          rw [ei]
          by_cases hp : i % 2 = 0
          · have e1 : Codec.nest x (i + 1) = Codec.frame (Codec.nest x i) := by show (if i % 2 = 0 then _ else _) = _; rw [if_pos hp]
            have hr := rdFrame_frame (Codec.nest x i) (by omega)
            rw [← e1, HN.out] at hr
            have HR := Lib.hid hr
            have t4 : ((i : Int) % 2 == 0) = true := by rw [beq_iff_eq]; omega
            have t5 : ((n : Int) != (n : Int)) = false := by simp
            clear e1 hp hr
            go_wp2_with fail
            refine (readframe_any _ _ _ _ _ hB ⟨by omega⟩).mono ?_
            rintro e w6 ⟨a6, n6, c6, rfl, ho6, hb6⟩
            rw [HR.out] at ho6 ⊢
            go_wp2
            go_roundw
            case rel => exact ⟨i, _, _, _, by omega, by go_num, rfl, ho6, hbl.trans (hb6.mono hbl.size)⟩
            case measure => simp [intOf]
          · have e1 : Codec.nest x (i + 1) = Codec.bytes [Codec.nest x i] := by show (if i % 2 = 0 then _ else _) = _; rw [if_neg hp]
            have hl : (Codec.nest x i).length ≤ n := by
              have h1 : (Codec.bytes [Codec.nest x i]).length = n := by rw [← e1]; exact HN.out
              have h2 : (Codec.bytes [Codec.nest x i]).length = (Codec.enc (Codec.nest x i).length).length + (Codec.nest x i).length := by simp [Codec.bytes]
              omega
            have hr := rdBytes_bytes (Codec.nest x i) (by omega) n hl
            rw [← e1, HN.out] at hr
            have HR := Lib.hid hr
            have t4 : ((i : Int) % 2 == 0) = false := by rw [beq_eq_false_iff_ne]; omega
            have t5 : ((n : Int) != (n : Int)) = false := by simp
            clear e1 hp hr hl
            go_wp2_with fail
            refine (readbytes_any _ _ _ _ (n : Int) _ hB ⟨by omega⟩ (by omega) (by omega)).mono ?_
            rintro e w6 ⟨a6, n6, c6, rfl, ho6, hb6⟩
            rw [HR.out] at ho6 ⊢
            go_wp2
            go_roundw
            case rel => exact ⟨i, _, _, _, by omega, by go_num, rfl, ho6, hbl.trans (hb6.mono hbl.size)⟩
            case measure => simp [intOf]
end Go.Proofs.Ytfjgapfkobpkhaa
