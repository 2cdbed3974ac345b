/- Sorted tables: an entry apart, its place, Get. -/
import Derived.Test.YtchdmjnhjonddaaSbQ
set_option maxRecDepth 100000
set_option linter.unusedVariables false
set_option linter.unusedSimpArgs false
namespace Go.Proofs.Ytchdmjnhjonddaa
open Go.RowKit

/-- An entry is told; its bytes are the call's own. -/
def RetEv (e : Ent) (w : World) (en : Ending) (w' : World) : Prop := ∃ a c, en = .returned (ev e a c) ∧ Own w' w.heap.size a e.val.length c e.val ∧ Below w.heap.size w w'
set_option maxHeartbeats 1000000 in
theorem sapart_any (e : Ent) (a : Option Addr) (c : Nat) (w : World) (h : Bs w a e.val.length c e.val) (hf : e.val.length ≤ 1000000000) :
    Calls Try.prog 62 #[ev e a c] w (RetEv e w) := by
  have hb := two_boxes w (.cells #[.string (bstr e.key), .int .u64 e.seq, .bool e.gone, .slice a e.val.length c] 61) (.cells #[.string ByteArray.empty, .int .u64 0, .bool false, .slice none 0 0] 61)
  have HB := Lib.hid hb
  have HV := Lib.hid (h.below hb)
  clear hb h
  unfold ev
  go_enter Try.func62, Try.ntmps62
  go_wp2_with fail
  refine (clone_any _ _ _ e.val _ HV.out ⟨by omega⟩).mono ?_
  rintro en w1 ⟨a1, n1, c1, rfl, ho, hb1⟩
  obtain rfl : n1 = e.val.length := by have := ho.bs.1; omega
  have hz : w.heap.size + 1 < w1.heap.size := by have := hb1.size; simp at this; omega
  have g0 : w1.heap[w.heap.size]? = some (.cells #[.string (bstr e.key), .int .u64 e.seq, .bool e.gone, .slice a e.val.length c] 61 (0, 0)) := by
    rw [hb1.block _ (by simp; omega)]
    exact (Below.heap_alloc _ _ _ (by simp)).trans (heap_alloc_new w _)
  have g1 : w1.heap[w.heap.size + 1]? = some (.cells #[.string ByteArray.empty, .int .u64 0, .bool false, .slice none 0 0] 61 (0, 0)) := by
    rw [hb1.block _ (by simp)]
    have := heap_alloc_new (w.alloc (.cells #[.string (bstr e.key), .int .u64 e.seq, .bool e.gone, .slice a e.val.length c] 61)) (.cells #[.string ByteArray.empty, .int .u64 0, .bool false, .slice none 0 0] 61)
    rwa [World.size_alloc] at this
  have f0 : ∀ o, w1.frozen? ⟨w.heap.size, o, none⟩ = false := fun o => by simp [World.frozen?, g0]
  have f1 : ∀ o, w1.frozen? ⟨w.heap.size + 1, o, none⟩ = false := fun o => by simp [World.frozen?, g1]
  have p0 := cell_of_row _ _ 0 _ _ _ g0
  have p1 := cell_of_row _ _ 1 _ _ _ g0
  have p2 := cell_of_row _ _ 2 _ _ _ g0
  have p3 := cell_of_row _ _ 3 _ _ _ g0
  have q0 := cell_of_row _ _ 0 _ _ _ g1
  have q1 := cell_of_row _ _ 1 _ _ _ g1
  have q2 := cell_of_row _ _ 2 _ _ _ g1
  have q3 := cell_of_row _ _ 3 _ _ _ g1
  simp at p0 p1 p2 p3 q0 q1 q2 q3
  have HO := Lib.hid ho
  have HB1 := Lib.hid hb1
  clear ho hb1 g0 g1
  go_wp2
  have hk : ∀ (v v0 v1 v2 v3 : Value) g, w.heap.size + 2 ≤ g → (((((w1.setCell ⟨w.heap.size, 3, none⟩ v).setCell ⟨w.heap.size + 1, 0, none⟩ v0).setCell ⟨w.heap.size + 1, 1, none⟩ v1).setCell ⟨w.heap.size + 1, 2, none⟩ v2).setCell ⟨w.heap.size + 1, 3, none⟩ v3).heap[g]? = w1.heap[g]? := by
    intro v v0 v1 v2 v3 g hg
    rw [Below.heap_setCell _ _ _ _ (by show g ≠ w.heap.size + 1; omega), Below.heap_setCell _ _ _ _ (by show g ≠ w.heap.size + 1; omega), Below.heap_setCell _ _ _ _ (by show g ≠ w.heap.size + 1; omega), Below.heap_setCell _ _ _ _ (by show g ≠ w.heap.size + 1; omega), Below.heap_setCell _ _ _ _ (by show g ≠ w.heap.size; omega)]
  refine bodyPost_ret (v := ev e a1 c1) (by simp [results, Try.results62, go_sem, ev, p0, p1, p2, q0, q1, q2, q3]) rfl ⟨a1, c1, rfl, ?_, ?_⟩
  · refine own_mono (own_keep (HO.out : World.ownsRow _ _ _ _ _ _ _) fun g hg => hk _ _ _ _ _ g (by simpa using hg)) (by simp; omega)
  · exact (((((HB.out.trans (HB1.out.mono HB.out.size)).setCell (p := ⟨w.heap.size, 3, none⟩) (Nat.le_refl _) _).setCell (p := ⟨w.heap.size + 1, 0, none⟩) (Nat.le_succ _) _).setCell (p := ⟨w.heap.size + 1, 1, none⟩) (Nat.le_succ _) _).setCell (p := ⟨w.heap.size + 1, 2, none⟩) (Nat.le_succ _) _).setCell (p := ⟨w.heap.size + 1, 3, none⟩) (Nat.le_succ _) _
theorem own_lowOthB {w w' : World} {B e s n c bt : Nat} {a : Option Addr} {cs : List Value} (h : w.ownsRow B e s (.slice a n c) n cs) (k : Oth (some ⟨bt, 0, none⟩) w w') (hp : bt < B) : w'.ownsRow B e s (.slice a n c) n cs := by
  refine ⟨h.1, ?_⟩
  rcases h.2 with g | ⟨g, cap, cur, g1, g2, g3, g4⟩
  · exact .inl g
  · exact .inr ⟨g, cap, cur, g1, g2, (k.block g (Array.getElem?_eq_some_iff.1 g3).1 (fun x hx => by cases hx; simp only; omega)).trans g3, g4⟩
theorem Own.lowOth {w w' : World} {B bt n c : Nat} {a : Option Addr} {l : List UInt8} (h : Own w B a n c l) (k : Oth (some ⟨bt, 0, none⟩) w w') (hp : bt < B) : Own w' B a n c l := own_lowOthB h k hp
theorem place_any {w : World} {bk : Nat} {a : Option Addr} {n c : Nat} {l : List Ent} {m : Nat} {af : Option Addr} {nf cf : Nat} {f : List UInt8} (h : Tb w bk a n c l m af nf cf f) (s : List UInt8) (up p : Nat) (hn : n ≤ 1000000000) (hp : p ≤ n)
    (h1 : ∀ i, i < p → Ent.cmp (nth l i) ⟨s, up, false, []⟩ < 0) (h2 : ∀ i, p ≤ i → i < n → 0 ≤ Ent.cmp (nth l i) ⟨s, up, false, []⟩) :
    Calls Try.prog 61 #[.pointer (some ⟨bk, 0, none⟩), .string (bstr s), .int .u64 up] w fun e w' => e = .returned (.int .i64 p) ∧ Below w.heap.size w w' := by
  have hle := h.es.le.1
  obtain ⟨c0, c1, c2, _⟩ := cells3 h.heap
  have HE := Lib.hid h.es
  have H1 := Lib.hid h1
  have H2 := Lib.hid h2
  clear h h1 h2
  go_enter Try.func61, Try.ntmps61
  go_wp2_with fail
  refine (bsf_any a n c l ⟨s, up, false, []⟩ none 0 p w HE.out hn hp H1.out H2.out).mono ?_
  rintro en w1 ⟨bb, rfl, hb1⟩
  have HB1 := Lib.hid hb1
  clear hb1
  go_wp2
  go_ret
  exact ⟨rfl, HB1.out⟩
set_option maxHeartbeats 4000000 in
theorem get_yes {w : World} {bk : Nat} {a : Option Addr} {n c : Nat} {l : List Ent} {m : Nat} {af : Option Addr} {nf cf : Nat} {f : List UInt8} (h : Tb w bk a n c l m af nf cf f) (s : List UInt8) (up p : Nat) (hn : n ≤ 1000000000) (hp : p < n) (hk : (nth l p).key = s) (hv : (nth l p).val.length ≤ 1000000000)
    (h1 : ∀ i, i < p → Ent.cmp (nth l i) ⟨s, up, false, []⟩ < 0) (h2 : ∀ i, p ≤ i → i < n → 0 ≤ Ent.cmp (nth l i) ⟨s, up, false, []⟩) :
    Calls Try.prog 30 #[.pointer (some ⟨bk, 0, none⟩), .string (bstr s), .int .u64 up] w fun e w' => ∃ a1 c1, e = .returned (.tuple #[ev (nth l p) a1 c1, .bool true]) ∧ Own w' w.heap.size a1 (nth l p).val.length c1 (nth l p).val ∧ Below w.heap.size w w' := by
  have hle := h.es.le.1
  have hr1 := heap_alloc_new w (.cells #[.string ⟨#[]⟩, .int .u64 0, .bool false, .slice none 0 0] 61)
  have hb1 := below_alloc1 w (.cells #[.string ⟨#[]⟩, .int .u64 0, .bool false, .slice none 0 0] 61)
  have hs1 : (w.alloc (.cells #[.string ⟨#[]⟩, .int .u64 0, .bool false, .slice none 0 0] 61)).heap.size = w.heap.size + 1 := by simp
  obtain ⟨w1, hw1⟩ : ∃ w1, w.alloc (.cells #[.string ⟨#[]⟩, .int .u64 0, .bool false, .slice none 0 0] 61) = w1 := ⟨_, rfl⟩
  rw [hw1] at hr1 hb1 hs1
  have HW1 := Lib.hid hw1
  have HR1 := Lib.hid hr1
  have HB1 := Lib.hid hb1
  have HS1 := Lib.hid hs1
  have HPL := Lib.hid (place_any (h.below hb1) s up p hn (Nat.le_of_lt hp) h1 h2)
  have HT := Lib.hid (h.below hb1)
  obtain ⟨b, off, ai, ci, eab, he, hvv⟩ := h.es.2.2.2 p hp
  subst eab
  have HEA := Lib.hid (he.below hb1)
  have HVA := Lib.hid (hvv.below hb1)
  clear h h1 h2 hw1 hr1 hb1 hs1 he hvv
  generalize nth l p = y at *
  subst hk
  go_enter Try.func30, Try.ntmps30
  go_upto_region 1 with fail
  rw [HW1.out]
  go_wp2_with fail
  refine HPL.out.mono ?_
  rintro en w2 ⟨rfl, hb2⟩
  have HB2 := Lib.hid hb2
  have HT2 := Lib.hid (HT.out.below hb2)
  have HR2 := Lib.hid ((hb2.block _ (by rw [HS1.out]; omega)).trans HR1.out)
  have HW2 := Lib.hid (HB1.out.trans (hb2.mono HB1.out.size))
  obtain ⟨c0, c1, c2, _⟩ := cells3 HT2.out.heap
  have he := HEA.out.below hb2
  have hvv := HVA.out.below hb2
  have p1 := he.key
  have p2 := he.seq
  have p3 := he.gone
  have p4 := he.val
  have HV2 := Lib.hid hvv
  have t1 : decide ((p : Int) < (n : Int)) = true := decide_eq_true (by omega)
  have t1' : decide (p < n) = true := decide_eq_true hp
  have hgt : ¬ n ≤ p := by omega
  clear he hvv hb2
  have tb : ((bstr y.key).toList == (bstr y.key).toList) = true := by rw [bstr_beq]; exact decide_eq_true rfl
  have tb' : decide (y.key = y.key) = true := decide_eq_true rfl
  have HAP := Lib.hid (fun (V : World) (hb : Below w2.heap.size w2 V) => sapart_any y ai ci V (HV2.out.below hb) hv)
  unfold ev at HAP
  go_wp2_with (go_at_call 62; refine (HAP.out w2 (Below.refl _ _)).mono ?_; rintro en w3 ⟨a3, c3, rfl, ho3, hb3⟩; unfold ev; have HO3 := Lib.hid ho3; have HB3 := Lib.hid hb3; have HW3 := Lib.hid (HW2.out.trans (hb3.mono HW2.out.size)); have HR3 := Lib.hid ((hb3.block _ (Array.getElem?_eq_some_iff.1 HR2.out).1).trans HR2.out); obtain ⟨k0, k1, k2, k3, kf⟩ := cells4 HR3.out; clear ho3 hb3)
  obtain ⟨hs, hoth⟩ := set4 (.string (bstr y.key)) (.int .u64 y.seq) (.bool y.gone) (.slice a3 y.val.length c3) HR3.out
  have hz3 : w.heap.size < w3.heap.size := (Array.getElem?_eq_some_iff.1 HR3.out).1
  have hbb := HW3.out.trans (hoth.below HW3.out.size (fun x hx => by cases hx; exact Nat.le_refl _))
  have HO9 := Lib.hid ((HO3.out.mono (B' := w.heap.size + 1) (by have := HB2.out.size; have := HS1.out; omega)).lowOth hoth (by omega))
  generalize World.setCell _ _ _ = W9 at *
  obtain ⟨q0, q1, q2, q3, _⟩ := cells4 hs
  refine bodyPost_ret (v := .tuple #[ev y a3 c3, .bool true]) (by simp [results, Try.results30, go_sem, ev, q0, q1, q2, q3]) rfl ⟨a3, c3, rfl, ?_, hbb⟩
  exact HO9.out.mono (Nat.le_succ _)
set_option maxHeartbeats 4000000 in
theorem get_no {w : World} {bk : Nat} {a : Option Addr} {n c : Nat} {l : List Ent} {m : Nat} {af : Option Addr} {nf cf : Nat} {f : List UInt8} (h : Tb w bk a n c l m af nf cf f) (s : List UInt8) (up p : Nat) (hn : n ≤ 1000000000) (hp : p ≤ n) (hk : p < n → (nth l p).key ≠ s)
    (h1 : ∀ i, i < p → Ent.cmp (nth l i) ⟨s, up, false, []⟩ < 0) (h2 : ∀ i, p ≤ i → i < n → 0 ≤ Ent.cmp (nth l i) ⟨s, up, false, []⟩) :
    Calls Try.prog 30 #[.pointer (some ⟨bk, 0, none⟩), .string (bstr s), .int .u64 up] w fun e w' => e = .returned (.tuple #[.agg #[.string ⟨#[]⟩, .int .u64 0, .bool false, .slice none 0 0], .bool false]) ∧ Below w.heap.size w w' := by
  have hle := h.es.le.1
  have hr1 := heap_alloc_new w (.cells #[.string ⟨#[]⟩, .int .u64 0, .bool false, .slice none 0 0] 61)
  have hb1 := below_alloc1 w (.cells #[.string ⟨#[]⟩, .int .u64 0, .bool false, .slice none 0 0] 61)
  have hs1 : (w.alloc (.cells #[.string ⟨#[]⟩, .int .u64 0, .bool false, .slice none 0 0] 61)).heap.size = w.heap.size + 1 := by simp
  obtain ⟨w1, hw1⟩ : ∃ w1, w.alloc (.cells #[.string ⟨#[]⟩, .int .u64 0, .bool false, .slice none 0 0] 61) = w1 := ⟨_, rfl⟩
  rw [hw1] at hr1 hb1 hs1
  have HW1 := Lib.hid hw1
  have HR1 := Lib.hid hr1
  have HB1 := Lib.hid hb1
  have HS1 := Lib.hid hs1
  have HPL := Lib.hid (place_any (h.below hb1) s up p hn hp h1 h2)
  have HT := Lib.hid (h.below hb1)
  have HKK := Lib.hid hk
  clear h h1 h2 hw1 hr1 hb1 hs1 hk
  go_enter Try.func30, Try.ntmps30
  go_upto_region 1 with fail
  rw [HW1.out]
  go_wp2_with fail
  refine HPL.out.mono ?_
  rintro en w2 ⟨rfl, hb2⟩
  have HB2 := Lib.hid hb2
  have HT2 := Lib.hid (HT.out.below hb2)
  have HR2 := Lib.hid ((hb2.block _ (by rw [HS1.out]; omega)).trans HR1.out)
  have HW2 := Lib.hid (HB1.out.trans (hb2.mono HB1.out.size))
  obtain ⟨c0, c1, c2, _⟩ := cells3 HT2.out.heap
  obtain ⟨k0, k1, k2, k3, kf⟩ := cells4 HR2.out
  clear hb2
  by_cases hpn : p < n
  · obtain ⟨b, off, ai, ci, rfl, he, hvv⟩ := HT2.out.es.2.2.2 p hpn
    have p1 := he.key
    have t1 : decide ((p : Int) < (n : Int)) = true := decide_eq_true (by omega)
    have t1' : decide (p < n) = true := decide_eq_true hpn
    have hgt : ¬ n ≤ p := by omega
    have hne := HKK.out hpn
    clear he hvv HKK
    generalize (nth l p).key = y at *
    have tb : ((bstr y).toList == (bstr s).toList) = false := by rw [bstr_beq]; exact decide_eq_false hne
    have tb' : decide (y = s) = false := decide_eq_false hne
    clear hne
    go_wp2
    obtain ⟨hs, hoth⟩ := set4 (.string ⟨#[]⟩) (.int .u64 0) (.bool false) (.slice none 0 0) HR2.out
    have hbb := HW2.out.trans (hoth.below HW2.out.size (fun x hx => by cases hx; exact Nat.le_refl _))
    generalize World.setCell _ _ _ = W9 at *
    obtain ⟨q0, q1, q2, q3, _⟩ := cells4 hs
    exact bodyPost_ret (v := .tuple #[.agg #[.string ⟨#[]⟩, .int .u64 0, .bool false, .slice none 0 0], .bool false]) (by simp [results, Try.results30, go_sem, q0, q1, q2, q3]) rfl ⟨rfl, hbb⟩
  · have t1 : decide ((p : Int) < (n : Int)) = false := decide_eq_false (by omega)
    have t1' : decide (p < n) = false := decide_eq_false hpn
    clear HKK
    go_wp2
    obtain ⟨hs, hoth⟩ := set4 (.string ⟨#[]⟩) (.int .u64 0) (.bool false) (.slice none 0 0) HR2.out
    have hbb := HW2.out.trans (hoth.below HW2.out.size (fun x hx => by cases hx; exact Nat.le_refl _))
    generalize World.setCell _ _ _ = W9 at *
    obtain ⟨q0, q1, q2, q3, _⟩ := cells4 hs
    exact bodyPost_ret (v := .tuple #[.agg #[.string ⟨#[]⟩, .int .u64 0, .bool false, .slice none 0 0], .bool false]) (by simp [results, Try.results30, go_sem, q0, q1, q2, q3]) rfl ⟨rfl, hbb⟩
end Go.Proofs.Ytchdmjnhjonddaa
