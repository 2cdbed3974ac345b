/- One byte of a payload that is another one is found: no program in sight. -/
import Derived.Test.YtkbfefooaajhkaaDoorCodecSpec
namespace Go.Proofs.YtkbfefooaajhkaaDoor.Codec

theorem bit31 (c : UInt32) : (bitStep c).toBitVec.getLsbD 31 = c.toBitVec.getLsbD 0 := by
  rw [bitStep_eq]
  cases h : c.toBitVec.getLsbD 0 <;> simp
theorem bitlow (c : UInt32) {i : Nat} (hi : i < 31) : (bitStep c).toBitVec.getLsbD i = (c.toBitVec.getLsbD (i + 1) ^^ (c.toBitVec.getLsbD 0 && (0x82F63B78 : UInt32).toBitVec.getLsbD i)) := by
  rw [bitStep_eq]
  cases h : c.toBitVec.getLsbD 0 <;> simp [Nat.add_comm]
theorem bitStep_inj {a b : UInt32} (h : bitStep a = bitStep b) : a = b := by
  have h0 : a.toBitVec.getLsbD 0 = b.toBitVec.getLsbD 0 := by rw [← bit31, ← bit31, h]
  apply u32_ext
  intro i hi
  cases i with
  | zero => exact h0
  | succ i =>
    have h1 := bitlow a (i := i) (by omega)
    have h2 := bitlow b (i := i) (by omega)
    rw [h, h2, h0] at h1
    have : ∀ x y z : Bool, (x ^^ z) = (y ^^ z) → x = y := by decide
    exact (this _ _ _ h1).symm
theorem half_inj {a b : UInt32} (h : half a = half b) : a = b := bitStep_inj (bitStep_inj (bitStep_inj (bitStep_inj h)))
theorem xor_left_inj {a b c : UInt32} (h : c ^^^ a = c ^^^ b) : a = b := by
  have := congrArg (fun x => c ^^^ x) h
  simpa [← UInt32.xor_assoc] using this
theorem crcByte_inj {c d : UInt32} {b : UInt8} (h : crcByte c b = crcByte d b) : c = d := by
  have := half_inj (half_inj h)
  rw [UInt32.xor_comm c, UInt32.xor_comm d] at this
  exact xor_left_inj this
theorem crcByte_inj' {c : UInt32} {a b : UInt8} (h : crcByte c a = crcByte c b) : a = b := by
  have := xor_left_inj (half_inj (half_inj h))
  apply UInt8.toNat_inj.1
  have h2 := congrArg UInt32.toNat this
  simpa using h2
theorem crc_inj : ∀ (l : List UInt8) {c d : UInt32}, crc c l = crc d l → c = d
  | [], _, _, h => h
  | b :: l, _, _, h => crcByte_inj (crc_inj l h)
theorem crc_append (c : UInt32) (l m : List UInt8) : crc c (l ++ m) = crc (crc c l) m := by unfold crc; rw [List.foldl_append]
theorem sum_set {x : List UInt8} {k : Nat} (hk : k < x.length) {v : UInt8} (hv : v ≠ x[k]) : sum (x.set k v) ≠ sum x := by
  intro h
  unfold sum at h
  rw [UInt32.xor_comm _ 0xFFFFFFFF, UInt32.xor_comm _ 0xFFFFFFFF] at h
  have h1 := xor_left_inj h
  have e1 : x.set k v = x.take k ++ (v :: x.drop (k + 1)) := by rw [List.set_eq_take_append_cons_drop, if_pos hk]
  have e2 : x = x.take k ++ (x[k] :: x.drop (k + 1)) := by rw [List.getElem_cons_drop, List.take_append_drop]
  rw [e1, crc_append] at h1
  have h2 : crc 0xFFFFFFFF x = crc (crc 0xFFFFFFFF (x.take k)) (x[k] :: x.drop (k + 1)) := by rw [← crc_append, ← e2]
  rw [h2] at h1
  exact hv (crcByte_inj' (crc_inj _ h1))
theorem four_inj {c d : UInt32} (h : four c = four d) : c = d := by
  have h1 := (rf4_iff c.toUInt8 (c >>> 8).toUInt8 (c >>> 16).toUInt8 (c >>> 24).toUInt8 c).2 rfl
  have h2 := (rf4_iff c.toUInt8 (c >>> 8).toUInt8 (c >>> 16).toUInt8 (c >>> 24).toUInt8 d).2 h
  rw [h1, h2]
theorem frame_set {x : List UInt8} {k : Nat} (hk : k < x.length) (hx : x.length ≤ 67108864) {v : UInt8} (hv : v ≠ x[k]) :
    rdFrame ((frame x).set ((frame x).length - x.length + k) v) = ([], 0, 13) := by
  have hlen : (frame x).length = (enc x.length).length + 4 + x.length := by unfold frame; simp [four]; omega
  have e1 : (frame x).set ((frame x).length - x.length + k) v = enc x.length ++ (four (sum x) ++ x.set k v) := by
    have e : (frame x).length - x.length + k = (enc x.length ++ four (sum x)).length + k := by rw [hlen]; simp [four]
    rw [e]
    unfold frame
    rw [List.set_append_right _ _ (by omega), Nat.add_sub_cancel_left, List.append_assoc]
  rw [e1]
  have hd := dec_enc (u := x.length) (by omega) (four (sum x) ++ x.set k v)
  have d1 : (enc x.length ++ (four (sum x) ++ x.set k v)).drop (enc x.length).length = four (sum x) ++ x.set k v := List.drop_left
  have d2 : (enc x.length ++ (four (sum x) ++ x.set k v)).drop ((enc x.length).length + 4) = x.set k v := by rw [← List.drop_drop, d1]; rfl
  have t1 : (four (sum x) ++ x.set k v).take 4 = four (sum x) := rfl
  have t2 : (x.set k v).take x.length = x.set k v := List.take_of_length_le (by simp)
  have hf : decFrame (enc x.length ++ (four (sum x) ++ x.set k v)) = (0, 0, 13) := by
    unfold decFrame
    rw [hd]
    dsimp only
    rw [if_neg (by simp), if_neg (by omega), if_neg (by simp [four]), d1, d2, t1, t2, if_neg]
    intro h
    exact sum_set hk hv (four_inj h).symm
  unfold rdFrame
  rw [hf]
  rfl
theorem frame_get {x : List UInt8} {k : Nat} (hk : k < x.length) : ∃ h, (frame x)[(frame x).length - x.length + k]'h = x[k] := by
  have hlen : (frame x).length = (enc x.length ++ four (sum x)).length + x.length := by unfold frame; rw [List.length_append]
  have e : (frame x).length - x.length + k = (enc x.length ++ four (sum x)).length + k := by omega
  refine ⟨by omega, ?_⟩
  have h1 : (frame x)[(frame x).length - x.length + k]? = some x[k] := by
    rw [e]
    unfold frame
    rw [List.getElem?_append_right (by omega), Nat.add_sub_cancel_left, List.getElem?_eq_getElem hk]
  rw [List.getElem?_eq_getElem (by omega)] at h1
  exact Option.some.inj h1
theorem bit_ne : ∀ r, r < 8 → UInt8.ofNat (2 ^ r) ≠ 0 := by decide
theorem xor_ne {a m : UInt8} (h : m ≠ 0) : a ^^^ m ≠ a := by
  intro e
  have := congrArg (fun x => a ^^^ x) e
  simp [← UInt8.xor_assoc] at this
  exact h this
end Go.Proofs.YtkbfefooaajhkaaDoor.Codec
