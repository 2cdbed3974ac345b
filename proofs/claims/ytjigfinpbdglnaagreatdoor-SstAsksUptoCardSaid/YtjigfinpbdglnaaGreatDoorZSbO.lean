/- Sorted tables: a payload of one entry; a table's small functions. -/
import Derived.Test.YtjigfinpbdglnaaGreatDoorZSbN
set_option linter.unusedVariables false
set_option linter.unusedSimpArgs false
set_option maxRecDepth 100000
set_option linter.unusedVariables false
set_option linter.unusedSimpArgs false
namespace Go.Proofs.YtjigfinpbdglnaaGreatDoor
open Go.RowKit

theorem bs_empty {w w' : World} {a : Option Addr} {n c : Nat} (h : Bs w a n c []) : Bs w' a n c [] := ⟨h.1, h.2.1, h.2.2.1, Row.nil _ _⟩
set_option maxHeartbeats 4000000 in
theorem sentries1_any (a : Option Addr) (n c : Nat) (e : Ent) (w : World) (h : Bs w a n c (Sst.ent e)) (hs : U64 e.seq) (hk : e.key.length ≤ 65535) (hv : e.val.length ≤ 33554432) :
    Calls Tryz.prog 48 #[.slice a n c] w fun en w' => ∃ a' c', en = .returned (.tuple #[.slice a' 1 c', .bool true]) ∧ AccE w' w.heap.size a' 1 c' [e] ∧ Below w.heap.size w w' := by
  have hel := ent_len hs (by omega)
  have hn := h.1
  have hr1 := heap_alloc_new w (.cells #[.slice a n c, .bool false] 143)
  have hb1 := below_alloc1 w (.cells #[.slice a n c, .bool false] 143)
  obtain ⟨w1, hw1⟩ : ∃ w1, w.alloc (.cells #[.slice a n c, .bool false] 143) = w1 := ⟨_, rfl⟩
  rw [hw1] at hr1 hb1
  have HR1 : Hid (RS w1 w.heap.size (Sst.ent e ++ [])) := Lib.hid ⟨a, n, c, hr1, by rw [List.append_nil]; exact h.below hb1⟩
  have HH1 := Lib.hid hr1
  have HB1 := Lib.hid hb1
  have HW1 := Lib.hid hw1
  have hnp : 0 < n := by omega
  have hle := h.le.1
  clear h hr1 hb1 hw1 hn hel
  go_enter Tryz.func48, Tryz.ntmps48
  go_upto_region 2 with fail
  rw [HW1.out]
  go_wp2_with fail
  go_loopw [5] (fun ov wr => (ov = .slice none 0 0 ∧ wr = w1) ∨ (∃ a' c', ov = .slice a' 1 c' ∧ Hid (AccE wr w.heap.size a' 1 c' [e]) ∧ Hid (RS wr w.heap.size []) ∧ Hid (Below w.heap.size w wr))) (fun ov _ => match ov with | .slice _ k _ => 1 - k | _ => 0)
  case atStart => exact .inl ⟨rfl, rfl⟩
  case round =>
    rcases hrel with ⟨rfl, hwr⟩ | ⟨a', c', rfl, HA, HR, HB⟩
    · obtain rfl := hwr
      obtain ⟨c0, c1, cf⟩ := cells2 HH1.out
      have tn : decide ((0 : Int) < (n : Int)) = true := decide_eq_true (by omega)
      have tn' : decide (0 < n) = true := decide_eq_true hnp
      go_wp2_with fail
      refine (rentry_ok w.heap.size e [] _ HR1.out hs hk hv (by simp)).mono ?_
      rintro en w2 ⟨⟨a2, c2, rfl, hb2⟩, hr2, ho2⟩
      have HB2 := Lib.hid hb2
      have HR2 := Lib.hid hr2
      have HBW2 := Lib.hid (HB1.out.trans (ho2.below HB1.out.size (fun x hx => by cases hx; exact Nat.le_refl _)))
      have hlt : w.heap.size < w2.heap.size := by obtain ⟨_, _, _, g, _⟩ := hr2; exact (Array.getElem?_eq_some_iff.1 g).1
      have HBX := Lib.hid (ent_box (w := w2) rfl e a2 c2)
      unfold ev
      clear hb2 hr2 ho2 c0 c1 cf
      go_wp2_with (at_builtin; refine app_ent rfl _ _ rfl w2.heap.size rfl (AccE.nil _ _) rfl HBX.out (HB2.out.below (below_alloc1 _ _)) (fun _ x y _ hy => by cases hy) (by omega) (le_alloc (Nat.le_refl _)) ?_; intro a3 c3 w3 h3 hb3 _; have HA3 := Lib.hid h3; have HB3 : Hid (Below w2.heap.size w2 w3) := Lib.hid (((Below.refl _ _).alloc (Nat.le_refl _) _).trans hb3); clear h3 hb3)
      go_roundw
      case rel => exact .inr ⟨a3, c3, rfl, Lib.hid (HA3.out.mono (Nat.le_of_lt hlt)), Lib.hid (by obtain ⟨a5, n5, c5, g1, g2⟩ := HR2.out; exact ⟨a5, n5, c5, (HB3.out.block _ hlt).trans g1, bs_empty g2⟩), Lib.hid (HBW2.out.trans (HB3.out.mono HBW2.out.size))⟩
      case measure => simp
    · obtain ⟨a5, n5, c5, g1, g2⟩ := HR.out
      obtain rfl : n5 = 0 := by have := g2.1; simpa using this.symm
      obtain ⟨c0, c1, cf⟩ := cells2 g1
      clear g1 g2
      go_wp2
      go_ret2
      exact ⟨a', c', rfl, HA.out, HB.out⟩
/-- A table: its entries, how many blocks, its filter. -/
structure Tb (w : World) (bk : Nat) (a : Option Addr) (n c : Nat) (l : List Ent) (m : Nat) (af : Option Addr) (nf cf : Nat) (f : List UInt8) : Prop where
  heap : w.heap[bk]? = some (.cells #[.slice a n c, .int .i64 m, .slice af nf cf] 80 (0, 0))
  es : Es w a n c l
  fs : Bs w af nf cf f
theorem Tb.below {w w' : World} {bk : Nat} {a : Option Addr} {n c : Nat} {l : List Ent} {m : Nat} {af : Option Addr} {nf cf : Nat} {f : List UInt8} (h : Tb w bk a n c l m af nf cf f) (k : Below w.heap.size w w') : Tb w' bk a n c l m af nf cf f :=
  ⟨(k.block bk (Array.getElem?_eq_some_iff.1 h.heap).1).trans h.heap, h.es.below k, h.fs.below k⟩
theorem cells3 {w : World} {b : Nat} {t : TypeId} {v0 v1 v2 : Value} (h : w.heap[b]? = some (.cells #[v0, v1, v2] t (0, 0))) :
    w.cell? ⟨b, 0, none⟩ = some v0 ∧ w.cell? ⟨b, 1, none⟩ = some v1 ∧ w.cell? ⟨b, 2, none⟩ = some v2 ∧ ∀ j, w.frozen? ⟨b, j, none⟩ = false :=
  ⟨(cell_of_row _ _ 0 _ _ _ h).trans rfl, (cell_of_row _ _ 1 _ _ _ h).trans rfl, (cell_of_row _ _ 2 _ _ _ h).trans rfl, fun j => by simp [World.frozen?, h]⟩
theorem tlen_any {w : World} {bk : Nat} {a : Option Addr} {n c : Nat} {l : List Ent} {m : Nat} {af : Option Addr} {nf cf : Nat} {f : List UInt8} (h : Tb w bk a n c l m af nf cf f) : Calls Tryz.prog 20 #[.pointer (some ⟨bk, 0, none⟩)] w fun e w' => e = .returned (.int .i64 n) ∧ w = w' := by
  have hle := h.es.le.1
  obtain ⟨c0, c1, c2, _⟩ := cells3 h.heap
  go_enter Tryz.func20, Tryz.ntmps20
  go_wp2
  go_ret
  exact ⟨rfl, rfl⟩
theorem tblocks_any {w : World} {bk : Nat} {a : Option Addr} {n c : Nat} {l : List Ent} {m : Nat} {af : Option Addr} {nf cf : Nat} {f : List UInt8} (h : Tb w bk a n c l m af nf cf f) : Calls Tryz.prog 21 #[.pointer (some ⟨bk, 0, none⟩)] w fun e w' => e = .returned (.int .i64 m) ∧ w = w' := by
  obtain ⟨c0, c1, c2, _⟩ := cells3 h.heap
  go_enter Tryz.func21, Tryz.ntmps21
  go_wp2
  go_ret
  exact ⟨rfl, rfl⟩
end Go.Proofs.YtjigfinpbdglnaaGreatDoor
