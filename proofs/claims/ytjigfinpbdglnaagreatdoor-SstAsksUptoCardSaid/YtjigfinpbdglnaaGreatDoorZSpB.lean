/- The reference's Newest, From (as for the table in memory). -/
import Derived.Test.YtjigfinpbdglnaaGreatDoorZSoM
import Derived.Test.YtjigfinpbdglnaaGreatDoorZSbQ
set_option linter.unusedVariables false
set_option linter.unusedSimpArgs false
set_option maxRecDepth 100000
set_option linter.unusedVariables false
set_option linter.unusedSimpArgs false
namespace Go.Proofs.YtjigfinpbdglnaaGreatDoor
open Go.RowKit

/-- An entry stored into a block's first cells. -/
def put4 (w : World) (b : Nat) (e : Ent) (a : Option Addr) (c : Nat) : World :=
  (((w.setCell ⟨b, 0, none⟩ (.string (bstr e.key))).setCell ⟨b, 1, none⟩ (.int .u64 e.seq)).setCell ⟨b, 2, none⟩ (.bool e.gone)).setCell ⟨b, 3, none⟩ (.slice a e.val.length c)
theorem put4_other {w : World} {b : Nat} {e : Ent} {a : Option Addr} {c : Nat} {p : Addr} (h : ∀ j, j < 4 → (⟨b, j, none⟩ : Addr) ≠ p) : (put4 w b e a c).cell? p = w.cell? p := by
  unfold put4
  rw [World.cell?_setCell_other _ _ _ _ (h 3 (by omega)), World.cell?_setCell_other _ _ _ _ (h 2 (by omega)), World.cell?_setCell_other _ _ _ _ (h 1 (by omega)), World.cell?_setCell_other _ _ _ _ (h 0 (by omega))]
theorem addr_ne {b j k : Nat} (h : j ≠ k) : (⟨b, j, none⟩ : Addr) ≠ ⟨b, k, none⟩ := fun e => h (by cases e; rfl)
theorem put4_at {w : World} {b : Nat} {e e' : Ent} {a a' : Option Addr} {c c' : Nat} (h : EntAt w b 0 e' a' c') : EntAt (put4 w b e a c) b 0 e a c := by
  have h0 := h.key
  have h1 := h.seq
  have h2 := h.gone
  have h3 := h.val
  simp only [Nat.zero_add] at h0 h1 h2 h3
  unfold put4
  refine EntAt.of_cells fun j v hj => ?_
  rw [Nat.zero_add]
  match j, hj with
  | 0, hj =>
    cases hj
    rw [World.cell?_setCell_other _ _ _ _ (addr_ne (by decide)), World.cell?_setCell_other _ _ _ _ (addr_ne (by decide)), World.cell?_setCell_other _ _ _ _ (addr_ne (by decide))]
    exact World.cell?_setCell_same' _ _ _ (by rw [h0]; rfl)
  | 1, hj =>
    cases hj
    rw [World.cell?_setCell_other _ _ _ _ (addr_ne (by decide)), World.cell?_setCell_other _ _ _ _ (addr_ne (by decide))]
    exact World.cell?_setCell_same' _ _ _ (by rw [World.cell?_setCell_other _ _ _ _ (addr_ne (by decide)), h1]; rfl)
  | 2, hj =>
    cases hj
    rw [World.cell?_setCell_other _ _ _ _ (addr_ne (by decide))]
    exact World.cell?_setCell_same' _ _ _ (by rw [World.cell?_setCell_other _ _ _ _ (addr_ne (by decide)), World.cell?_setCell_other _ _ _ _ (addr_ne (by decide)), h2]; rfl)
  | 3, hj =>
    cases hj
    exact World.cell?_setCell_same' _ _ _ (by rw [World.cell?_setCell_other _ _ _ _ (addr_ne (by decide)), World.cell?_setCell_other _ _ _ _ (addr_ne (by decide)), World.cell?_setCell_other _ _ _ _ (addr_ne (by decide)), h3]; rfl)
  | j + 4, hj => simp [entCells] at hj
theorem shape_same {w w' : World} {g : Nat} (h : w'.heap[g]? = w.heap[g]?) : w'.shape? g = w.shape? g := by simp [World.shape?, h]
theorem shape_set (w : World) (a : Addr) (v : Value) (g : Nat) : (w.setCell a v).shape? g = w.shape? g := by
  simp only [World.setCell, World.shape?, Array.getElem?_modify]
  by_cases hb : a.block = g
  · simp only [hb, if_true]
    cases hh : w.heap[g]? with
    | none => simp
    | some x =>
      cases x <;> simp
      split <;> simp
  · simp [hb]
structure Keep (S : List Nat) (w w' : World) : Prop where
  os : w'.os = w.os
  tape : w'.tape = w.tape
  output : w'.output = w.output
  size : w.heap.size ≤ w'.heap.size
  block : ∀ g, g < w.heap.size → g ∉ S → w'.heap[g]? = w.heap[g]?
  byte : ∀ p n, w.cell? p = some (.int .u8 n) → w'.cell? p = some (.int .u8 n)
  frz : ∀ a : Addr, a.block < w.heap.size → w'.frozen? a = w.frozen? a
  shp : ∀ g, g < w.heap.size → w'.shape? g = w.shape? g
theorem Keep.refl (S : List Nat) (w : World) : Keep S w w := ⟨rfl, rfl, rfl, Nat.le_refl _, fun _ _ _ => rfl, fun _ _ h => h, fun _ _ => rfl, fun _ _ => rfl⟩
theorem Keep.trans {S : List Nat} {a b c : World} (h : Keep S a b) (k : Keep S b c) : Keep S a c :=
  ⟨k.os.trans h.os, k.tape.trans h.tape, k.output.trans h.output, Nat.le_trans h.size k.size, fun g hg hn => (k.block g (Nat.lt_of_lt_of_le hg h.size) hn).trans (h.block g hg hn),
   fun p n hp => k.byte p n (h.byte p n hp), fun p hp => (k.frz p (Nat.lt_of_lt_of_le hp h.size)).trans (h.frz p hp), fun g hg => (k.shp g (Nat.lt_of_lt_of_le hg h.size)).trans (h.shp g hg)⟩
theorem Keep.of_below {S : List Nat} {w w' : World} (h : Below w.heap.size w w') : Keep S w w' :=
  ⟨h.os, h.tape, h.output, h.size, fun g hg _ => h.block g hg, fun p n hp => cell_later h hp, fun p hp => h.frozen hp, fun g hg => shape_same (h.block g hg)⟩
theorem Keep.more {S S' : List Nat} {w w' : World} (h : Keep S w w') (hs : ∀ g, g ∈ S → g ∈ S') : Keep S' w w' :=
  ⟨h.os, h.tape, h.output, h.size, fun g hg hn => h.block g hg (fun hm => hn (hs g hm)), h.byte, h.frz, h.shp⟩
/-- What is new may be forgotten. -/
theorem Keep.old {S S' : List Nat} {w w' : World} (h : Keep S w w') (hs : ∀ g, g ∈ S → g < w.heap.size → g ∈ S') : Keep S' w w' :=
  ⟨h.os, h.tape, h.output, h.size, fun g hg hn => h.block g hg (fun hm => hn (hs g hm hg)), h.byte, h.frz, h.shp⟩
theorem Keep.trans' {S S' : List Nat} {a b c : World} (h : Keep S a b) (k : Keep S' b c) (hs : ∀ g, g ∈ S' → g ∈ S ∨ a.heap.size ≤ g) : Keep S a c :=
  ⟨k.os.trans h.os, k.tape.trans h.tape, k.output.trans h.output, Nat.le_trans h.size k.size, fun g hg hn => (k.block g (Nat.lt_of_lt_of_le hg h.size) (fun hm => by rcases hs g hm with e | e; exact hn e; omega)).trans (h.block g hg hn),
   fun p n hp => k.byte p n (h.byte p n hp), fun p hp => (k.frz p (Nat.lt_of_lt_of_le hp h.size)).trans (h.frz p hp), fun g hg => (k.shp g (Nat.lt_of_lt_of_le hg h.size)).trans (h.shp g hg)⟩
theorem Keep.below {S : List Nat} {B : Nat} {w w' : World} (h : Keep S w w') (hS : ∀ b ∈ S, B ≤ b) (hB : B ≤ w.heap.size) : Below B w w' :=
  ⟨h.os, h.tape, h.output, h.size, fun g hg => h.block g (by omega) (fun hm => by have := hS g hm; omega)⟩
theorem Keep.set {S : List Nat} {w w1 : World} {p : Addr} (h : Keep S w w1) (v : Value) (hp : w.heap.size ≤ p.block ∨ p.block ∈ S ∧ ∀ n, w1.cell? p ≠ some (.int .u8 n)) : Keep S w (w1.setCell p v) := by
  refine ⟨h.os, h.tape, h.output, by rw [World.size_setCell]; exact h.size, fun g hg hn => ?_, fun q n hq => ?_, fun a ha => by rw [World.frozen?_setCell]; exact h.frz a ha, fun g hg => by rw [shape_set]; exact h.shp g hg⟩
  · refine (Below.heap_setCell _ _ _ _ ?_).trans (h.block g hg hn)
    intro e
    rcases hp with h1 | ⟨h1, _⟩
    · omega
    · rw [← e] at h1; exact hn h1
  · refine (World.cell?_setCell_other _ _ _ _ ?_).trans (h.byte q n hq)
    intro e
    subst e
    rcases hp with h1 | ⟨_, h1⟩
    · have := World.block_lt_of_cell? _ _ hq
      omega
    · exact h1 n (h.byte _ n hq)
theorem Keep.cell {S : List Nat} {w w' : World} {p : Addr} {v : Value} (h : Keep S w w') (hn : p.block ∉ S) (hc : w.cell? p = some v) : w'.cell? p = some v :=
  (World.cell?_of_block (h.block p.block (World.block_lt_of_cell? _ _ hc) hn)).trans hc
theorem Bs.keep {S : List Nat} {w w' : World} {a : Option Addr} {n c : Nat} {l : List UInt8} (h : Bs w a n c l) (k : Keep S w w') : Bs w' a n c l :=
  ⟨h.1, h.2.1, h.2.2.1, fun j v hj => by
    obtain ⟨b, off, rfl, hc⟩ := h.2.2.2 j v hj
    refine ⟨b, off, rfl, ?_⟩
    have hv := List.mem_of_getElem? hj
    unfold vs at hv
    obtain ⟨x, _, rfl⟩ := List.mem_map.1 hv
    exact k.byte _ _ hc⟩
theorem Keep.put4 {S : List Nat} {w w1 : World} {b : Nat} {e e' : Ent} {a a' : Option Addr} {c c' : Nat} (h : Keep S w w1) (hb : w.heap.size ≤ b ∨ b ∈ S ∧ EntAt w1 b 0 e' a' c') : Keep S w (put4 w1 b e a c) := by
  unfold Go.Proofs.YtjigfinpbdglnaaGreatDoor.put4
  rcases hb with hb | ⟨hb, hE⟩
  · exact (((h.set _ (.inl hb)).set _ (.inl hb)).set _ (.inl hb)).set _ (.inl hb)
  · have h0 := hE.key
    have h1 := hE.seq
    have h2 := hE.gone
    have h3 := hE.val
    simp only [Nat.zero_add] at h0 h1 h2 h3
    refine (((h.set _ (.inr ⟨hb, fun n => ?_⟩)).set _ (.inr ⟨hb, fun n => ?_⟩)).set _ (.inr ⟨hb, fun n => ?_⟩)).set _ (.inr ⟨hb, fun n => ?_⟩)
    · rw [h0]; exact fun e => by cases e
    · rw [World.cell?_setCell_other _ _ _ _ (addr_ne (by decide)), h1]; exact fun e => by cases e
    · rw [World.cell?_setCell_other _ _ _ _ (addr_ne (by decide)), World.cell?_setCell_other _ _ _ _ (addr_ne (by decide)), h2]; exact fun e => by cases e
    · rw [World.cell?_setCell_other _ _ _ _ (addr_ne (by decide)), World.cell?_setCell_other _ _ _ _ (addr_ne (by decide)), World.cell?_setCell_other _ _ _ _ (addr_ne (by decide)), h3]; exact fun e => by cases e
/-- The first version of a key up to a number. -/
def Ent.firstAt (l : List Ent) (key : List UInt8) (up : Nat) : Option Ent := l.find? (fun x => decide (x.key = key ∧ x.seq ≤ up))
/-- An entry, its bytes somewhere, or none. -/
def RNew (w : World) (o : Option Ent) (e : Ending) (w' : World) : Prop :=
  Below w.heap.size w w' ∧ match o with
    | some x => ∃ a c, e = .returned (.tuple #[ev x a c, .bool true]) ∧ Bs w' a x.val.length c x.val
    | none => e = .returned (.tuple #[ev default none 0, .bool false])
theorem find_at {α : Type} [Inhabited α] {p : α → Bool} {l : List α} {k : Nat} (hk : k < l.length) (hlo : ∀ i, i < k → p (nth l i) = false) (hat : p (nth l k) = true) : l.find? p = some (nth l k) := by
  rw [List.find?_eq_some_iff_getElem]
  exact ⟨hat, k, hk, (nth_eq _ hk).symm, fun j hj => by rw [← nth_eq _ (by omega)]; simp [hlo j hj]⟩
theorem find_no {α : Type} [Inhabited α] {p : α → Bool} {l : List α} (hlo : ∀ i, i < l.length → p (nth l i) = false) : l.find? p = none := by
  rw [List.find?_eq_none]
  intro x hx
  obtain ⟨i, hi, rfl⟩ := List.mem_iff_getElem.1 hx
  have := hlo i hi
  rw [nth_eq _ hi] at this
  simp [this]
set_option maxHeartbeats 2000000 in
theorem refnewest_any (a : Option Addr) (n c : Nat) (l : List Ent) (key : List UInt8) (up : Nat) (w : World) (h : Es w a n c l) :
    Calls Tryz.prog 11 #[.slice a n c, .string (bstr key), .int .u64 up] w (RNew w (Ent.firstAt l key up)) := by
  have hle := h.le.1
  have HN := Lib.hid h.1
  have HE := Lib.hid h
  clear h
  go_enter Tryz.func11, Tryz.ntmps11
  go_upto_region 1 with fail
  have hb0 := below_alloc1 w (.cells #[.string ⟨#[]⟩, .int .u64 0, .bool false, .slice none 0 0] 37)
  have hx0 := load_box w default none 0
  have hf0 : ∀ j, (w.alloc (.cells #[.string ⟨#[]⟩, .int .u64 0, .bool false, .slice none 0 0] 37)).frozen? ⟨w.heap.size, j, none⟩ = false := fun j => (frozen?_alloc_cells _ _ _ _).trans (by simp [World.frozen?])
  obtain ⟨W0, hW0⟩ : ∃ W0, w.alloc (.cells #[.string ⟨#[]⟩, .int .u64 0, .bool false, .slice none 0 0] 37) = W0 := ⟨_, rfl⟩
  have e1 : w.alloc (.cells #[.string (bstr (default : Ent).key), .int .u64 (default : Ent).seq, .bool (default : Ent).gone, .slice none (default : Ent).val.length 0] 37) = W0 := hW0
  rw [e1] at hx0
  rw [hW0] at hb0 hf0 ⊢
  have hz0 : W0.heap.size = w.heap.size + 1 := by rw [← hW0]; exact World.size_alloc _ _
  have HX0 := Lib.hid hx0
  have HB0 := Lib.hid hb0
  have HF0 := Lib.hid hf0
  clear hW0 e1 hb0 hx0 hf0
  go_wp2_with fail
  go_loopw [8] (fun i wr => ∃ k : Nat, k ≤ n ∧ i = .int .i64 k ∧ Hid (∀ j, j < k → decide ((nth l j).key = key ∧ (nth l j).seq ≤ up) = false) ∧ Hid (Below W0.heap.size W0 wr)) (fun i _ => n - (intOf i).toNat)
  case atStart => exact ⟨0, Nat.zero_le _, rfl, Lib.hid (fun j hj => by omega), Lib.hid (Below.refl _ _)⟩
  case round =>
    obtain ⟨k, hk, rfl, hlo, hbw⟩ := hrel
    have HLO := Lib.hid hlo.out
    have HBW := Lib.hid hbw.out
    have hsz := hbw.out.size
    clear hlo
    by_cases hlt : k < n
    · obtain ⟨b, off, ax, cx, rfl, hex, hvx⟩ := ((HE.out.below HB0.out).below hbw.out).vals hlt
      have HP : Hid ((nth l k).key = key ∧ (nth l k).seq ≤ up → Ent.firstAt l key up = some (nth l k)) := Lib.hid fun hp => find_at (by rw [HN.out]; exact hlt) HLO.out (decide_eq_true hp)
      have HQ : Hid (¬ ((nth l k).key = key ∧ (nth l k).seq ≤ up) → ∀ j, j < k + 1 → decide ((nth l j).key = key ∧ (nth l j).seq ≤ up) = false) := Lib.hid fun hp j hj => by
        by_cases e : j = k
        · rw [e]; exact decide_eq_false hp
        · exact HLO.out j (by omega)
      have p1 := hex.key
      have p2 := hex.seq
      have p3 := hex.gone
      have p4 := hex.val
      have HVX := Lib.hid hvx
      have hxr := HX0.out.below hbw.out
      have HXR := Lib.hid hxr
      have x2 := hxr.seq
      have x3 := hxr.gone
      have x1 := hxr.key
      have x4 := hxr.val
      have hfr : ∀ j, wr.frozen? ⟨w.heap.size, j, none⟩ = false := fun j => (hbw.out.frozen (p := ⟨w.heap.size, j, none⟩) (by show w.heap.size < _; omega)).trans (HF0.out j)
      obtain ⟨x, hx⟩ : ∃ x, x = nth l k := ⟨_, rfl⟩
      rw [← hx] at HP HQ p1 p2 p3 p4 HVX
      clear hx hex hvx hxr hbw
      by_cases hke : x.key = key
      · have t1 : ((bstr x.key).toList == (bstr key).toList) = true := by rw [bstr_beq]; exact decide_eq_true hke
        by_cases hse : x.seq ≤ up
        · have t2 : decide (x.seq ≤ up) = true := decide_eq_true hse
          have HFI := Lib.hid (HP.out ⟨hke, hse⟩)
          clear hke hse
          have hst := put4_at (e := x) (a := ax) (c := cx) HXR.out
          have y1 := hst.key
          have y2 := hst.seq
          have y3 := hst.gone
          have y4 := hst.val
          simp only [Nat.zero_add] at y1 y2 y3 y4
          unfold put4 at y1 y2 y3 y4
          have HK := Lib.hid ((Keep.refl [w.heap.size] wr).put4 (e := x) (a := ax) (c := cx) (.inr ⟨List.mem_singleton.2 rfl, HXR.out⟩))
          have HV4 := Lib.hid (HVX.out.keep HK.out)
          have HBE := Lib.hid ((HB0.out.trans (HBW.out.mono HB0.out.size)).trans (HK.out.below (B := w.heap.size) (fun b hb => by rw [List.mem_singleton.1 hb]; exact Nat.le_refl _) (by omega)))
          go_wp2
          refine bodyPost_ret (v := .tuple #[ev x ax cx, .bool true]) (by simp [results, Tryz.results11, go_sem, ev, y1, y2, y3, y4]) rfl ⟨HBE.out, ?_⟩
          rw [HFI.out]
          exact ⟨ax, cx, rfl, HV4.out⟩
        · have t2 : decide (x.seq ≤ up) = false := decide_eq_false hse
          have HNO := Lib.hid (HQ.out (fun hp => hse hp.2))
          clear hke hse
          go_wp2
          go_roundw
          case rel => exact ⟨k + 1, by omega, by go_num, HNO, HBW⟩
          case measure => simp [intOf]; omega
      · have t1 : ((bstr x.key).toList == (bstr key).toList) = false := by rw [bstr_beq]; exact decide_eq_false hke
        have HNO := Lib.hid (HQ.out (fun hp => hke hp.1))
        clear hke
        go_wp2
        go_roundw
        case rel => exact ⟨k + 1, by omega, by go_num, HNO, HBW⟩
        case measure => simp [intOf]; omega
    · obtain rfl : k = n := by omega
      have hfr : ∀ j, wr.frozen? ⟨w.heap.size, j, none⟩ = false := fun j => (hbw.out.frozen (p := ⟨w.heap.size, j, none⟩) (by show w.heap.size < _; omega)).trans (HF0.out j)
      have hxr := HX0.out.below hbw.out
      have x2 := hxr.seq
      have x3 := hxr.gone
      have x1 := hxr.key
      have x4 := hxr.val
      have hst := put4_at (e := default) (a := none) (c := 0) hxr
      have y1 : ((((wr.setCell ⟨w.heap.size, 0, none⟩ (.string ⟨#[]⟩)).setCell ⟨w.heap.size, 1, none⟩ (.int .u64 0)).setCell ⟨w.heap.size, 2, none⟩ (.bool false)).setCell ⟨w.heap.size, 3, none⟩ (.slice none 0 0)).cell? ⟨w.heap.size, 0, none⟩ = some (.string ⟨#[]⟩) := hst.key
      have y2 : ((((wr.setCell ⟨w.heap.size, 0, none⟩ (.string ⟨#[]⟩)).setCell ⟨w.heap.size, 1, none⟩ (.int .u64 0)).setCell ⟨w.heap.size, 2, none⟩ (.bool false)).setCell ⟨w.heap.size, 3, none⟩ (.slice none 0 0)).cell? ⟨w.heap.size, 1, none⟩ = some (.int .u64 0) := hst.seq
      have y3 : ((((wr.setCell ⟨w.heap.size, 0, none⟩ (.string ⟨#[]⟩)).setCell ⟨w.heap.size, 1, none⟩ (.int .u64 0)).setCell ⟨w.heap.size, 2, none⟩ (.bool false)).setCell ⟨w.heap.size, 3, none⟩ (.slice none 0 0)).cell? ⟨w.heap.size, 2, none⟩ = some (.bool false) := hst.gone
      have y4 : ((((wr.setCell ⟨w.heap.size, 0, none⟩ (.string ⟨#[]⟩)).setCell ⟨w.heap.size, 1, none⟩ (.int .u64 0)).setCell ⟨w.heap.size, 2, none⟩ (.bool false)).setCell ⟨w.heap.size, 3, none⟩ (.slice none 0 0)).cell? ⟨w.heap.size, 3, none⟩ = some (.slice none 0 0) := hst.val
      have HK := Lib.hid ((Keep.refl [w.heap.size] wr).put4 (e := default) (a := none) (c := 0) (.inr ⟨List.mem_singleton.2 rfl, hxr⟩))
      have HBE := Lib.hid ((HB0.out.trans (HBW.out.mono HB0.out.size)).trans (HK.out.below (B := w.heap.size) (fun b hb => by rw [List.mem_singleton.1 hb]; exact Nat.le_refl _) (by omega)))
      have HNO : Hid (Ent.firstAt l key up = none) := Lib.hid (find_no (fun i hi => HLO.out i (by have := HN.out; omega)))
      clear hst hxr
      go_wp2
      refine bodyPost_ret (v := .tuple #[ev default none 0, .bool false]) (by simp [results, Tryz.results11, go_sem, ev, y1, y2, y3, y4]; exact ⟨rfl, rfl, rfl, rfl⟩) rfl ⟨HBE.out, ?_⟩
      rw [HNO.out]
/-- The first place at or behind a key. -/
def Ent.fromAt (l : List Ent) (key : List UInt8) : Nat := l.findIdx (fun x => !Ent.klt x.key key)
theorem findIdx_at {α : Type} [Inhabited α] {p : α → Bool} {l : List α} {k : Nat} (hk : k ≤ l.length) (hlo : ∀ i, i < k → p (nth l i) = false) (hat : k < l.length → p (nth l k) = true) : l.findIdx p = k := by
  rcases Nat.lt_or_ge k l.length with h | h
  · rw [List.findIdx_eq h]
    exact ⟨by rw [← nth_eq _ h]; exact hat h, fun j hj => by rw [← nth_eq _ (by omega)]; exact hlo j hj⟩
  · obtain rfl : k = l.length := by omega
    rw [List.findIdx_eq_length]
    intro x hx
    obtain ⟨i, hi, rfl⟩ := List.mem_iff_getElem.1 hx
    rw [← nth_eq _ hi]
    exact hlo i hi
set_option maxHeartbeats 2000000 in
theorem reffrom_any (a : Option Addr) (n c : Nat) (l : List Ent) (key : List UInt8) (w : World) (h : Es w a n c l) :
    Calls Tryz.prog 17 #[.slice a n c, .string (bstr key)] w fun e w' => e = .returned (.int .i64 (Ent.fromAt l key : Nat)) ∧ Below w.heap.size w w' := by
  have hle := h.le.1
  have HN := Lib.hid h.1
  have HE := Lib.hid h
  clear h
  go_enter Tryz.func17, Tryz.ntmps17
  go_wp2_with fail
  go_loopw [5] (fun i wr => ∃ k : Nat, k ≤ n ∧ i = .int .i64 k ∧ Hid (∀ j, j < k → Ent.klt (nth l j).key key = true) ∧ Hid (Below w.heap.size w wr)) (fun i _ => n - (intOf i).toNat)
  case atStart => exact ⟨0, Nat.zero_le _, rfl, Lib.hid (fun j hj => by omega), Lib.hid (Below.refl _ _)⟩
  case round =>
    obtain ⟨k, hk, rfl, hlo, hbw⟩ := hrel
    have HLO := Lib.hid hlo.out
    have HBW := Lib.hid hbw.out
    clear hlo
    by_cases hlt : k < n
    · obtain ⟨b, off, ax, cx, rfl, hex, hvx⟩ := (HE.out.below hbw.out).vals hlt
      have p1 := hex.key
      have HQ : Hid (Ent.klt (nth l k).key key = true → ∀ j, j < k + 1 → Ent.klt (nth l j).key key = true) := Lib.hid fun hp j hj => by
        by_cases e : j = k
        · rw [e]; exact hp
        · exact HLO.out j (by omega)
      have HR : Hid (Ent.klt (nth l k).key key = false → Ent.fromAt l key = k) := Lib.hid fun hp => findIdx_at (by rw [HN.out]; omega) (fun i hi => by rw [HLO.out i hi]; rfl) (fun _ => by rw [hp]; rfl)
      obtain ⟨x, hx⟩ : ∃ x, x = nth l k := ⟨_, rfl⟩
      rw [← hx] at HQ HR p1
      clear hx hex hvx hbw
      rcases Bool.eq_false_or_eq_true (Ent.klt x.key key) with ht | ht
      · have t1 : Op.bytesLess (bstr x.key).toList (bstr key).toList = true := by rw [bstr_list, bstr_list]; exact ht
        have HNO := Lib.hid (HQ.out ht)
        clear ht
        go_wp2
        go_roundw
        case rel => exact ⟨k + 1, by omega, by go_num, HNO, HBW⟩
        case measure => simp [intOf]; omega
      · have t1 : Op.bytesLess (bstr x.key).toList (bstr key).toList = false := by rw [bstr_list, bstr_list]; exact ht
        have HNO := Lib.hid (HR.out ht)
        clear ht
        go_wp2
        go_ret
        exact ⟨by rw [HNO.out]; rfl, HBW.out⟩
    · obtain rfl : k = n := by omega
      have HNO : Hid (Ent.fromAt l key = k) := Lib.hid (findIdx_at (by rw [HN.out]; omega) (fun i hi => by rw [HLO.out i hi]; rfl) (fun h0 => by rw [HN.out] at h0; omega))
      go_wp2
      go_ret
      exact ⟨by rw [HNO.out]; rfl, HBW.out⟩
end Go.Proofs.YtjigfinpbdglnaaGreatDoor
