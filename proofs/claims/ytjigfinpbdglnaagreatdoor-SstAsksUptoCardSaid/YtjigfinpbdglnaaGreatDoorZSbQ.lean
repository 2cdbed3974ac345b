/- Sorted tables: the place of an entry. -/
import Derived.Test.YtjigfinpbdglnaaGreatDoorZSbO
import Derived.Test.YtjigfinpbdglnaaGreatDoorZSbP
import Derived.Lib.SlBytesConst
import Derived.Test.YtjigfinpbdglnaaGreatDoorZCgD
set_option linter.unusedVariables false
set_option linter.unusedSimpArgs false
section
set_option maxRecDepth 100000
set_option linter.unusedVariables false
set_option linter.unusedSimpArgs false
namespace Go.Proofs.YtjigfinpbdglnaaGreatDoor
open Go.RowKit

set_option maxHeartbeats 8000000 in
/-- The place of the first entry that is not ahead of one. -/
theorem bsf_any (a : Option Addr) (n c : Nat) (l : List Ent) (x : Ent) (ax : Option Addr) (cx p : Nat) (w : World) (h : Es w a n c l) (hn : n ≤ 1000000000) (hp : p ≤ n)
    (h1 : ∀ i, i < p → Ent.cmp (nth l i) x < 0) (h2 : ∀ i, p ≤ i → i < n → 0 ≤ Ent.cmp (nth l i) x) :
    Calls Tryz.prog 72 #[.slice a n c, ev x ax cx, .func (.func 73) #[] #[]] w fun e w' => ∃ b, e = .returned (.tuple #[.int .i64 p, .bool b]) ∧ Below w.heap.size w w' := by
  have HN := Lib.hid h.1
  have HE := Lib.hid h
  have H1 := Lib.hid h1
  have H2 := Lib.hid h2
  have hx := ent_box (w := w) rfl x ax cx
  have hbx := below_alloc1 w (.cells #[.string (bstr x.key), .int .u64 x.seq, .bool x.gone, .slice ax x.val.length cx] 37)
  obtain ⟨w1, hw1⟩ : ∃ w1, w.alloc (.cells #[.string (bstr x.key), .int .u64 x.seq, .bool x.gone, .slice ax x.val.length cx] 37) = w1 := ⟨_, rfl⟩
  rw [hw1] at hx hbx
  have HW1 := Lib.hid hw1
  have HX := Lib.hid hx
  have HBX := Lib.hid hbx
  clear h h1 h2 hw1 hx hbx
  unfold ev
  go_enter Tryz.func72, Tryz.ntmps72
  go_upto_region 3 with fail
  rw [HW1.out]
  go_loopw [9, 10, 11] (fun s7 s8 _ wr => ∃ lo hi : Nat, s7 = .int .i64 lo ∧ s8 = .int .i64 hi ∧ lo ≤ p ∧ p ≤ hi ∧ hi ≤ n ∧ Hid (Below w1.heap.size w1 wr)) (fun s7 s8 _ _ => (intOf s8).toNat - (intOf s7).toNat)
  case atStart => exact ⟨0, n, rfl, rfl, Nat.zero_le _, hp, Nat.le_refl _, Lib.hid (Below.refl _ _)⟩
  case round =>
    obtain ⟨lo, hi, rfl, rfl, hlp, hph, hin, hb⟩ := hrel
    by_cases hlt : lo < hi
    · go_upto_region 5 with fail
      have hme : ((lo : Int) + (hi : Int)) / 2 = (((lo + hi) / 2 : Nat) : Int) := by omega
      rw [hme]
      clear hme
      obtain ⟨m, hm⟩ : ∃ m, m = (lo + hi) / 2 := ⟨_, rfl⟩
      rw [← hm]
      have hm1 : lo ≤ m := by omega
      have hm2 : m < hi := by omega
      clear hm
      by_cases hmp : m < p
      · have hcm := H1.out m hmp
        obtain ⟨b, off, ai, ci, rfl, he, hv⟩ := (HE.out.below (HBX.out.trans (hb.out.mono HBX.out.size))).2.2.2 m (by omega)
        generalize nth l m = y at *
        have hx := HX.out.below hb.out
        have p1 := he.key
        have p2 := he.seq
        have p3 := he.gone
        have p4 := he.val
        have q1 := hx.key
        have q2 := hx.seq
        have q3 := hx.gone
        have q4 := hx.val
        simp only [Nat.zero_add] at q2 q3 q4
        have HC0 := Lib.hid (fun V : World => cmp_any y x ai ax ci cx V)
        unfold ev at HC0
        generalize Ent.cmp y x = cm at *
        clear he hv hx
        have t : decide (cm < 0) = true := decide_eq_true hcm
        clear hcm
        refine wp_region_class (by kernel_rfl) (by kernel_rfl) (Below.refl _ _) ?_
        have m1 := BW.cell p1
        have m2 := BW.cell p2
        have m3 := BW.cell p3
        have m4 := BW.cell p4
        have n1 := BW.cell q1
        have n2 := BW.cell q2
        have n3 := BW.cell q3
        have n4 := BW.cell q4
        repeat (first | go_big_quiet_step ((go_at_call 73; exact calls_class (HC0.out _))))
        refine wpQuiet_nil ?_
        intro w7 hb7; replace hb7 := BW.of hb7
        have HB7 := Lib.hid (hb.out.trans (hb7.mono hb.out.size))
        clear hb7 p1 p2 p3 p4 q1 q2 q3 q4 m1 m2 m3 m4 n1 n2 n3 n4
        go_wp2
        go_roundw
        case rel => exact ⟨m + 1, hi, by go_num, rfl, by omega, by omega, by omega, HB7⟩
        case measure => simp [intOf]; omega
      · have hcm := H2.out m (by omega) (by omega)
        obtain ⟨b, off, ai, ci, rfl, he, hv⟩ := (HE.out.below (HBX.out.trans (hb.out.mono HBX.out.size))).2.2.2 m (by omega)
        generalize nth l m = y at *
        have hx := HX.out.below hb.out
        have p1 := he.key
        have p2 := he.seq
        have p3 := he.gone
        have p4 := he.val
        have q1 := hx.key
        have q2 := hx.seq
        have q3 := hx.gone
        have q4 := hx.val
        simp only [Nat.zero_add] at q2 q3 q4
        have HC0 := Lib.hid (fun V : World => cmp_any y x ai ax ci cx V)
        unfold ev at HC0
        generalize Ent.cmp y x = cm at *
        clear he hv hx
        have t : decide (cm < 0) = false := decide_eq_false (by omega)
        clear hcm
        refine wp_region_class (by kernel_rfl) (by kernel_rfl) (Below.refl _ _) ?_
        have m1 := BW.cell p1
        have m2 := BW.cell p2
        have m3 := BW.cell p3
        have m4 := BW.cell p4
        have n1 := BW.cell q1
        have n2 := BW.cell q2
        have n3 := BW.cell q3
        have n4 := BW.cell q4
        repeat (first | go_big_quiet_step ((go_at_call 73; exact calls_class (HC0.out _))))
        refine wpQuiet_nil ?_
        intro w7 hb7; replace hb7 := BW.of hb7
        have HB7 := Lib.hid (hb.out.trans (hb7.mono hb.out.size))
        clear hb7 p1 p2 p3 p4 q1 q2 q3 q4 m1 m2 m3 m4 n1 n2 n3 n4
        go_wp2
        go_roundw
        case rel => exact ⟨lo, m, rfl, rfl, by omega, by omega, by omega, HB7⟩
        case measure => simp [intOf]; omega
    · obtain rfl : lo = p := by omega
      obtain rfl : hi = lo := by omega
      have hlt' : decide ((hi : Int) < (hi : Int)) = false := by simp
      by_cases hln : hi < n
      · have tn : decide ((hi : Int) < (n : Int)) = true := decide_eq_true (by omega)
        have tn' : decide (hi < n) = true := decide_eq_true hln
        obtain ⟨b, off, ai, ci, rfl, he, hv⟩ := (HE.out.below (HBX.out.trans (hb.out.mono HBX.out.size))).2.2.2 hi (by omega)
        generalize nth l hi = y at *
        have hx := HX.out.below hb.out
        have p1 := he.key
        have p2 := he.seq
        have p3 := he.gone
        have p4 := he.val
        have q1 := hx.key
        have q2 := hx.seq
        have q3 := hx.gone
        have q4 := hx.val
        simp only [Nat.zero_add] at q2 q3 q4
        have HC0 := Lib.hid (fun V : World => cmp_any y x ai ax ci cx V)
        unfold ev at HC0
        generalize Ent.cmp y x = cm at *
        clear he hv hx
        clear hlt
        go_upto_region 8 with fail
        refine wp_region_class (by kernel_rfl) (by kernel_rfl) (Below.refl _ _) ?_
        have m1 := BW.cell p1
        have m2 := BW.cell p2
        have m3 := BW.cell p3
        have m4 := BW.cell p4
        have n1 := BW.cell q1
        have n2 := BW.cell q2
        have n3 := BW.cell q3
        have n4 := BW.cell q4
        repeat (first | go_big_quiet_step ((go_at_call 73; exact calls_class (HC0.out _))))
        refine wpQuiet_nil ?_
        intro w7 hb7; replace hb7 := BW.of hb7
        have HB7 := Lib.hid (hb.out.trans (hb7.mono hb.out.size))
        clear hb7 p1 p2 p3 p4 q1 q2 q3 q4 m1 m2 m3 m4 n1 n2 n3 n4
        go_wp2
        go_ret2
        exact ⟨_, rfl, HBX.out.trans (HB7.out.mono HBX.out.size)⟩
      · have tn : decide ((hi : Int) < (n : Int)) = false := decide_eq_false (by omega)
        have tn' : decide (hi < n) = false := decide_eq_false hln
        clear hlt
        go_upto_region 8 with fail
        refine wp_region_class (by kernel_rfl) (by kernel_rfl) (Below.refl _ _) ?_
        repeat (first | go_big_quiet_step (fail))
        refine wpQuiet_nil ?_
        intro w7 hb7; replace hb7 := BW.of hb7
        have HB7 := Lib.hid (hb.out.trans (hb7.mono hb.out.size))
        clear hb7
        go_wp2
        go_ret2
        exact ⟨_, rfl, HBX.out.trans (HB7.out.mono HBX.out.size)⟩
end Go.Proofs.YtjigfinpbdglnaaGreatDoor
end

section
set_option maxRecDepth 100000
set_option linter.unusedVariables false
set_option linter.unusedSimpArgs false
namespace Go.Proofs.YtjigfinpbdglnaaGreatDoor
open Go.RowKit

/-- An entry is told; its bytes are the call's own. -/
def RetEv (e : Ent) (w : World) (en : Ending) (w' : World) : Prop := ∃ a c, en = .returned (ev e a c) ∧ Own w' w.heap.size a e.val.length c e.val ∧ Below w.heap.size w w'
set_option maxHeartbeats 1000000 in
theorem sapart_any (e : Ent) (a : Option Addr) (c : Nat) (w : World) (h : Bs w a e.val.length c e.val) (hf : e.val.length ≤ 1000000000) :
    Calls Tryz.prog 35 #[ev e a c] w (RetEv e w) := by
  have hb := two_boxes w (.cells #[.string (bstr e.key), .int .u64 e.seq, .bool e.gone, .slice a e.val.length c] 37) (.cells #[.string ByteArray.empty, .int .u64 0, .bool false, .slice none 0 0] 37)
  have HB := Lib.hid hb
  have HV := Lib.hid (h.below hb)
  clear hb h
  unfold ev
  go_enter Tryz.func35, Tryz.ntmps35
  go_wp2_with fail
  refine (clone_any _ _ _ e.val _ HV.out ⟨by omega⟩).mono ?_
  rintro en w1 ⟨a1, n1, c1, rfl, ho, hb1⟩
  obtain rfl : n1 = e.val.length := by have := ho.bs.1; omega
  have hz : w.heap.size + 1 < w1.heap.size := by have := hb1.size; simp at this; omega
  have g0 : w1.heap[w.heap.size]? = some (.cells #[.string (bstr e.key), .int .u64 e.seq, .bool e.gone, .slice a e.val.length c] 37 (0, 0)) := by
    rw [hb1.block _ (by simp; omega)]
    exact (Below.heap_alloc _ _ _ (by simp)).trans (heap_alloc_new w _)
  have g1 : w1.heap[w.heap.size + 1]? = some (.cells #[.string ByteArray.empty, .int .u64 0, .bool false, .slice none 0 0] 37 (0, 0)) := by
    rw [hb1.block _ (by simp)]
    have := heap_alloc_new (w.alloc (.cells #[.string (bstr e.key), .int .u64 e.seq, .bool e.gone, .slice a e.val.length c] 37)) (.cells #[.string ByteArray.empty, .int .u64 0, .bool false, .slice none 0 0] 37)
    rwa [World.size_alloc] at this
  have f0 : ∀ o, w1.frozen? ⟨w.heap.size, o, none⟩ = false := fun o => by simp [World.frozen?, g0]
  have f1 : ∀ o, w1.frozen? ⟨w.heap.size + 1, o, none⟩ = false := fun o => by simp [World.frozen?, g1]
  have p0 := cell_of_row _ _ 0 _ _ _ g0
  have p1 := cell_of_row _ _ 1 _ _ _ g0
  have p2 := cell_of_row _ _ 2 _ _ _ g0
  have p3 := cell_of_row _ _ 3 _ _ _ g0
  have q0 := cell_of_row _ _ 0 _ _ _ g1
  have q1 := cell_of_row _ _ 1 _ _ _ g1
  have q2 := cell_of_row _ _ 2 _ _ _ g1
  have q3 := cell_of_row _ _ 3 _ _ _ g1
  simp at p0 p1 p2 p3 q0 q1 q2 q3
  have HO := Lib.hid ho
  have HB1 := Lib.hid hb1
  clear ho hb1 g0 g1
  go_wp2
  have hk : ∀ (v v0 v1 v2 v3 : Value) g, w.heap.size + 2 ≤ g → (((((w1.setCell ⟨w.heap.size, 3, none⟩ v).setCell ⟨w.heap.size + 1, 0, none⟩ v0).setCell ⟨w.heap.size + 1, 1, none⟩ v1).setCell ⟨w.heap.size + 1, 2, none⟩ v2).setCell ⟨w.heap.size + 1, 3, none⟩ v3).heap[g]? = w1.heap[g]? := by
    intro v v0 v1 v2 v3 g hg
    rw [Below.heap_setCell _ _ _ _ (by show g ≠ w.heap.size + 1; omega), Below.heap_setCell _ _ _ _ (by show g ≠ w.heap.size + 1; omega), Below.heap_setCell _ _ _ _ (by show g ≠ w.heap.size + 1; omega), Below.heap_setCell _ _ _ _ (by show g ≠ w.heap.size + 1; omega), Below.heap_setCell _ _ _ _ (by show g ≠ w.heap.size; omega)]
  refine bodyPost_ret (v := ev e a1 c1) (by simp [results, Tryz.results35, go_sem, ev, p0, p1, p2, q0, q1, q2, q3]) rfl ⟨a1, c1, rfl, ?_, ?_⟩
  · refine own_mono (own_keep (HO.out : World.ownsRow _ _ _ _ _ _ _) fun g hg => hk _ _ _ _ _ g (by simpa using hg)) (by simp; omega)
  · exact (((((HB.out.trans (HB1.out.mono HB.out.size)).setCell (p := ⟨w.heap.size, 3, none⟩) (Nat.le_refl _) _).setCell (p := ⟨w.heap.size + 1, 0, none⟩) (Nat.le_succ _) _).setCell (p := ⟨w.heap.size + 1, 1, none⟩) (Nat.le_succ _) _).setCell (p := ⟨w.heap.size + 1, 2, none⟩) (Nat.le_succ _) _).setCell (p := ⟨w.heap.size + 1, 3, none⟩) (Nat.le_succ _) _
theorem own_lowOthB {w w' : World} {B e s n c bt : Nat} {a : Option Addr} {cs : List Value} (h : w.ownsRow B e s (.slice a n c) n cs) (k : Oth (some ⟨bt, 0, none⟩) w w') (hp : bt < B) : w'.ownsRow B e s (.slice a n c) n cs := by
  refine ⟨h.1, ?_⟩
  rcases h.2 with g | ⟨g, cap, cur, g1, g2, g3, g4⟩
  · exact .inl g
  · exact .inr ⟨g, cap, cur, g1, g2, (k.block g (Array.getElem?_eq_some_iff.1 g3).1 (fun x hx => by cases hx; simp only; omega)).trans g3, g4⟩
theorem Own.lowOth {w w' : World} {B bt n c : Nat} {a : Option Addr} {l : List UInt8} (h : Own w B a n c l) (k : Oth (some ⟨bt, 0, none⟩) w w') (hp : bt < B) : Own w' B a n c l := own_lowOthB h k hp
theorem place_any {w : World} {bk : Nat} {a : Option Addr} {n c : Nat} {l : List Ent} {m : Nat} {af : Option Addr} {nf cf : Nat} {f : List UInt8} (h : Tb w bk a n c l m af nf cf f) (s : List UInt8) (up p : Nat) (hn : n ≤ 1000000000) (hp : p ≤ n)
    (h1 : ∀ i, i < p → Ent.cmp (nth l i) ⟨s, up, false, []⟩ < 0) (h2 : ∀ i, p ≤ i → i < n → 0 ≤ Ent.cmp (nth l i) ⟨s, up, false, []⟩) :
    Calls Tryz.prog 34 #[.pointer (some ⟨bk, 0, none⟩), .string (bstr s), .int .u64 up] w fun e w' => e = .returned (.int .i64 p) ∧ Below w.heap.size w w' := by
  have hle := h.es.le.1
  obtain ⟨c0, c1, c2, _⟩ := cells3 h.heap
  have HE := Lib.hid h.es
  have H1 := Lib.hid h1
  have H2 := Lib.hid h2
  clear h h1 h2
  go_enter Tryz.func34, Tryz.ntmps34
  go_wp2_with fail
  refine (bsf_any a n c l ⟨s, up, false, []⟩ none 0 p w HE.out hn hp H1.out H2.out).mono ?_
  rintro en w1 ⟨bb, rfl, hb1⟩
  have HB1 := Lib.hid hb1
  clear hb1
  go_wp2
  go_ret
  exact ⟨rfl, HB1.out⟩
set_option maxHeartbeats 4000000 in
theorem get_yes {w : World} {bk : Nat} {a : Option Addr} {n c : Nat} {l : List Ent} {m : Nat} {af : Option Addr} {nf cf : Nat} {f : List UInt8} (h : Tb w bk a n c l m af nf cf f) (s : List UInt8) (up p : Nat) (hn : n ≤ 1000000000) (hp : p < n) (hk : (nth l p).key = s) (hv : (nth l p).val.length ≤ 1000000000)
    (h1 : ∀ i, i < p → Ent.cmp (nth l i) ⟨s, up, false, []⟩ < 0) (h2 : ∀ i, p ≤ i → i < n → 0 ≤ Ent.cmp (nth l i) ⟨s, up, false, []⟩) :
    Calls Tryz.prog 10 #[.pointer (some ⟨bk, 0, none⟩), .string (bstr s), .int .u64 up] w fun e w' => ∃ a1 c1, e = .returned (.tuple #[ev (nth l p) a1 c1, .bool true]) ∧ Own w' w.heap.size a1 (nth l p).val.length c1 (nth l p).val ∧ Below w.heap.size w w' := by
  have hle := h.es.le.1
  have hr1 := heap_alloc_new w (.cells #[.string ⟨#[]⟩, .int .u64 0, .bool false, .slice none 0 0] 37)
  have hb1 := below_alloc1 w (.cells #[.string ⟨#[]⟩, .int .u64 0, .bool false, .slice none 0 0] 37)
  have hs1 : (w.alloc (.cells #[.string ⟨#[]⟩, .int .u64 0, .bool false, .slice none 0 0] 37)).heap.size = w.heap.size + 1 := by simp
  obtain ⟨w1, hw1⟩ : ∃ w1, w.alloc (.cells #[.string ⟨#[]⟩, .int .u64 0, .bool false, .slice none 0 0] 37) = w1 := ⟨_, rfl⟩
  rw [hw1] at hr1 hb1 hs1
  have HW1 := Lib.hid hw1
  have HR1 := Lib.hid hr1
  have HB1 := Lib.hid hb1
  have HS1 := Lib.hid hs1
  have HPL := Lib.hid (place_any (h.below hb1) s up p hn (Nat.le_of_lt hp) h1 h2)
  have HT := Lib.hid (h.below hb1)
  obtain ⟨b, off, ai, ci, eab, he, hvv⟩ := h.es.2.2.2 p hp
  subst eab
  have HEA := Lib.hid (he.below hb1)
  have HVA := Lib.hid (hvv.below hb1)
  clear h h1 h2 hw1 hr1 hb1 hs1 he hvv
  generalize nth l p = y at *
  subst hk
  go_enter Tryz.func10, Tryz.ntmps10
  go_upto_region 1 with fail
  rw [HW1.out]
  go_wp2_with fail
  refine HPL.out.mono ?_
  rintro en w2 ⟨rfl, hb2⟩
  have HB2 := Lib.hid hb2
  have HT2 := Lib.hid (HT.out.below hb2)
  have HR2 := Lib.hid ((hb2.block _ (by rw [HS1.out]; omega)).trans HR1.out)
  have HW2 := Lib.hid (HB1.out.trans (hb2.mono HB1.out.size))
  obtain ⟨c0, c1, c2, _⟩ := cells3 HT2.out.heap
  have he := HEA.out.below hb2
  have hvv := HVA.out.below hb2
  have p1 := he.key
  have p2 := he.seq
  have p3 := he.gone
  have p4 := he.val
  have HV2 := Lib.hid hvv
  have t1 : decide ((p : Int) < (n : Int)) = true := decide_eq_true (by omega)
  have t1' : decide (p < n) = true := decide_eq_true hp
  have hgt : ¬ n ≤ p := by omega
  clear he hvv hb2
  have tb : ((bstr y.key).toList == (bstr y.key).toList) = true := by rw [bstr_beq]; exact decide_eq_true rfl
  have tb' : decide (y.key = y.key) = true := decide_eq_true rfl
  have HAP := Lib.hid (fun (V : World) (hb : Below w2.heap.size w2 V) => sapart_any y ai ci V (HV2.out.below hb) hv)
  unfold ev at HAP
  go_wp2_with (go_at_call 35; refine (HAP.out w2 (Below.refl _ _)).mono ?_; rintro en w3 ⟨a3, c3, rfl, ho3, hb3⟩; unfold ev; have HO3 := Lib.hid ho3; have HB3 := Lib.hid hb3; have HW3 := Lib.hid (HW2.out.trans (hb3.mono HW2.out.size)); have HR3 := Lib.hid ((hb3.block _ (Array.getElem?_eq_some_iff.1 HR2.out).1).trans HR2.out); obtain ⟨k0, k1, k2, k3, kf⟩ := cells4 HR3.out; clear ho3 hb3)
  obtain ⟨hs, hoth⟩ := set4 (.string (bstr y.key)) (.int .u64 y.seq) (.bool y.gone) (.slice a3 y.val.length c3) HR3.out
  have hz3 : w.heap.size < w3.heap.size := (Array.getElem?_eq_some_iff.1 HR3.out).1
  have hbb := HW3.out.trans (hoth.below HW3.out.size (fun x hx => by cases hx; exact Nat.le_refl _))
  have HO9 := Lib.hid ((HO3.out.mono (B' := w.heap.size + 1) (by have := HB2.out.size; have := HS1.out; omega)).lowOth hoth (by omega))
  generalize World.setCell _ _ _ = W9 at *
  obtain ⟨q0, q1, q2, q3, _⟩ := cells4 hs
  refine bodyPost_ret (v := .tuple #[ev y a3 c3, .bool true]) (by simp [results, Tryz.results10, go_sem, ev, q0, q1, q2, q3]) rfl ⟨a3, c3, rfl, ?_, hbb⟩
  exact HO9.out.mono (Nat.le_succ _)
set_option maxHeartbeats 4000000 in
theorem get_no {w : World} {bk : Nat} {a : Option Addr} {n c : Nat} {l : List Ent} {m : Nat} {af : Option Addr} {nf cf : Nat} {f : List UInt8} (h : Tb w bk a n c l m af nf cf f) (s : List UInt8) (up p : Nat) (hn : n ≤ 1000000000) (hp : p ≤ n) (hk : p < n → (nth l p).key ≠ s)
    (h1 : ∀ i, i < p → Ent.cmp (nth l i) ⟨s, up, false, []⟩ < 0) (h2 : ∀ i, p ≤ i → i < n → 0 ≤ Ent.cmp (nth l i) ⟨s, up, false, []⟩) :
    Calls Tryz.prog 10 #[.pointer (some ⟨bk, 0, none⟩), .string (bstr s), .int .u64 up] w fun e w' => e = .returned (.tuple #[.agg #[.string ⟨#[]⟩, .int .u64 0, .bool false, .slice none 0 0], .bool false]) ∧ Below w.heap.size w w' := by
  have hle := h.es.le.1
  have hr1 := heap_alloc_new w (.cells #[.string ⟨#[]⟩, .int .u64 0, .bool false, .slice none 0 0] 37)
  have hb1 := below_alloc1 w (.cells #[.string ⟨#[]⟩, .int .u64 0, .bool false, .slice none 0 0] 37)
  have hs1 : (w.alloc (.cells #[.string ⟨#[]⟩, .int .u64 0, .bool false, .slice none 0 0] 37)).heap.size = w.heap.size + 1 := by simp
  obtain ⟨w1, hw1⟩ : ∃ w1, w.alloc (.cells #[.string ⟨#[]⟩, .int .u64 0, .bool false, .slice none 0 0] 37) = w1 := ⟨_, rfl⟩
  rw [hw1] at hr1 hb1 hs1
  have HW1 := Lib.hid hw1
  have HR1 := Lib.hid hr1
  have HB1 := Lib.hid hb1
  have HS1 := Lib.hid hs1
  have HPL := Lib.hid (place_any (h.below hb1) s up p hn hp h1 h2)
  have HT := Lib.hid (h.below hb1)
  have HKK := Lib.hid hk
  clear h h1 h2 hw1 hr1 hb1 hs1 hk
  go_enter Tryz.func10, Tryz.ntmps10
  go_upto_region 1 with fail
  rw [HW1.out]
  go_wp2_with fail
  refine HPL.out.mono ?_
  rintro en w2 ⟨rfl, hb2⟩
  have HB2 := Lib.hid hb2
  have HT2 := Lib.hid (HT.out.below hb2)
  have HR2 := Lib.hid ((hb2.block _ (by rw [HS1.out]; omega)).trans HR1.out)
  have HW2 := Lib.hid (HB1.out.trans (hb2.mono HB1.out.size))
  obtain ⟨c0, c1, c2, _⟩ := cells3 HT2.out.heap
  obtain ⟨k0, k1, k2, k3, kf⟩ := cells4 HR2.out
  clear hb2
  by_cases hpn : p < n
  · obtain ⟨b, off, ai, ci, rfl, he, hvv⟩ := HT2.out.es.2.2.2 p hpn
    have p1 := he.key
    have t1 : decide ((p : Int) < (n : Int)) = true := decide_eq_true (by omega)
    have t1' : decide (p < n) = true := decide_eq_true hpn
    have hgt : ¬ n ≤ p := by omega
    have hne := HKK.out hpn
    clear he hvv HKK
    generalize (nth l p).key = y at *
    have tb : ((bstr y).toList == (bstr s).toList) = false := by rw [bstr_beq]; exact decide_eq_false hne
    have tb' : decide (y = s) = false := decide_eq_false hne
    clear hne
    go_wp2
    obtain ⟨hs, hoth⟩ := set4 (.string ⟨#[]⟩) (.int .u64 0) (.bool false) (.slice none 0 0) HR2.out
    have hbb := HW2.out.trans (hoth.below HW2.out.size (fun x hx => by cases hx; exact Nat.le_refl _))
    generalize World.setCell _ _ _ = W9 at *
    obtain ⟨q0, q1, q2, q3, _⟩ := cells4 hs
    exact bodyPost_ret (v := .tuple #[.agg #[.string ⟨#[]⟩, .int .u64 0, .bool false, .slice none 0 0], .bool false]) (by simp [results, Tryz.results10, go_sem, q0, q1, q2, q3]) rfl ⟨rfl, hbb⟩
  · have t1 : decide ((p : Int) < (n : Int)) = false := decide_eq_false (by omega)
    have t1' : decide (p < n) = false := decide_eq_false hpn
    clear HKK
    go_wp2
    obtain ⟨hs, hoth⟩ := set4 (.string ⟨#[]⟩) (.int .u64 0) (.bool false) (.slice none 0 0) HR2.out
    have hbb := HW2.out.trans (hoth.below HW2.out.size (fun x hx => by cases hx; exact Nat.le_refl _))
    generalize World.setCell _ _ _ = W9 at *
    obtain ⟨q0, q1, q2, q3, _⟩ := cells4 hs
    exact bodyPost_ret (v := .tuple #[.agg #[.string ⟨#[]⟩, .int .u64 0, .bool false, .slice none 0 0], .bool false]) (by simp [results, Tryz.results10, go_sem, q0, q1, q2, q3]) rfl ⟨rfl, hbb⟩
end Go.Proofs.YtjigfinpbdglnaaGreatDoor
end

section
set_option maxRecDepth 100000
set_option linter.unusedVariables false
set_option linter.unusedSimpArgs false
namespace Go.Proofs.YtjigfinpbdglnaaGreatDoor
open Go.RowKit

def Sst.bit (f : List UInt8) (p : Nat) : Bool := decide ((nth f (p / 8)).toNat / 2 ^ (p % 8) % 2 = 1)
def Sst.may (f s : List UInt8) : Bool := (List.range 4).all fun j => Sst.bit f (Sst.spot s (8 * f.length) j)
theorem may_no {f s : List UInt8} {k : Nat} (hk : k < 4) (h : Sst.bit f (Sst.spot s (8 * f.length) k) = false) : Sst.may f s = false := by
  unfold Sst.may
  rw [List.all_eq_false]
  exact ⟨k, List.mem_range.2 hk, by rw [h]; simp⟩
theorem may_yes {f s : List UInt8} (h : ∀ k, k < 4 → Sst.bit f (Sst.spot s (8 * f.length) k) = true) : Sst.may f s = true := by
  unfold Sst.may
  rw [List.all_eq_true]
  exact fun k hk => h k (List.mem_range.1 hk)
theorem spot_lt {s : List UInt8} {m j : Nat} (h : 0 < m) : Sst.spot s m j < m := Nat.mod_lt _ h
theorem bit_and (x : UInt8) (r : Nat) : bits .and .u8 (n8 x / 2 ^ r) 1 = ((x.toNat / 2 ^ r % 2 : Nat) : Int) := by
  have e : n8 x / 2 ^ r = ((x.toNat / 2 ^ r : Nat) : Int) := by unfold n8; rw [Int.natCast_ediv, Int.natCast_pow]; rfl
  have hx := x.toNat_lt
  have h1 : x.toNat / 2 ^ r < 256 := Nat.lt_of_le_of_lt (Nat.div_le_self _ _) hx
  rw [e, show (1 : Int) = ((1 : Nat) : Int) from rfl, Go.u8_and_nat _ _ h1 (by omega), Nat.and_one_is_mod]
set_option maxHeartbeats 4000000 in
theorem may_any {w : World} {bk : Nat} {a : Option Addr} {n c : Nat} {l : List Ent} {m : Nat} {af : Option Addr} {nf cf : Nat} {f : List UInt8} (h : Tb w bk a n c l m af nf cf f) (s : List UInt8) (hn : 1 ≤ nf) (hnb : nf ≤ 1000000) (hs : s.length ≤ 1000000000) :
    Calls Tryz.prog 13 #[.pointer (some ⟨bk, 0, none⟩), .string (bstr s)] w fun e w' => e = .returned (.bool (Sst.may f s)) ∧ Below w.heap.size w w' := by
  have hfl := h.fs.1
  have hle := h.fs.le.1
  have hlc := h.fs.2.1
  obtain ⟨c0, c1, c2, _⟩ := cells3 h.heap
  have HT := Lib.hid h
  have HPC := Lib.hid (places_any s (8 * nf) w (by omega) (by omega) hs)
  have HSL : Hid (∀ j, Sst.spot s (8 * nf) j < 8 * nf) := Lib.hid (fun j => spot_lt (by omega))
  have HNO : Hid (∀ k, k < 4 → Sst.bit f (Sst.spot s (8 * nf) k) = false → Sst.may f s = false) := Lib.hid (fun k hk hb => may_no hk (by rw [hfl]; exact hb))
  have HYES : Hid ((∀ k, k < 4 → Sst.bit f (Sst.spot s (8 * nf) k) = true) → Sst.may f s = true) := Lib.hid (fun hb => may_yes (by rw [hfl]; exact hb))
  have HBIT : Hid (∀ p, Sst.bit f p = decide ((nth f (p / 8)).toNat / 2 ^ (p % 8) % 2 = 1)) := Lib.hid (fun p => rfl)
  have HFL := Lib.hid hfl
  clear h hfl
  obtain ⟨M, hM⟩ : ∃ M, M = 8 * nf := ⟨_, rfl⟩
  have em : (8 : Int) * (nf : Int) = (M : Int) := by omega
  have hMb : M ≤ 8000000 := by omega
  rw [← hM] at HPC HSL HNO HYES
  have HM := Lib.hid hM
  clear hM
  go_enter Tryz.func13, Tryz.ntmps13
  go_wp2_with fail
  refine HPC.out.mono ?_
  rintro en w1 ⟨rfl, hb1⟩
  have HB1 := Lib.hid hb1
  have HIX : Hid (∀ k, k < 4 → ∀ W, (Instr.index 82 (.agg #[.int .u64 (Sst.spot s M 0 : Nat), .int .u64 (Sst.spot s M 1 : Nat), .int .u64 (Sst.spot s M 2 : Nat), .int .u64 (Sst.spot s M 3 : Nat)]) (.int .i64 (k : Nat))).run Tryz.prog W = .ok (.int .u64 (Sst.spot s M k : Nat)) W) := Lib.hid (by
    intro k hk W
    obtain rfl | rfl | rfl | rfl : k = 0 ∨ k = 1 ∨ k = 2 ∨ k = 3 := by omega
    · exact idx0 _ _ _ _ W
    · exact idx1 _ _ _ _ W
    · exact idx2 _ _ _ _ W
    · exact idx3 _ _ _ _ W)
  clear hb1 HPC
  generalize Sst.spot s M 0 = s0 at *
  generalize Sst.spot s M 1 = s1 at *
  generalize Sst.spot s M 2 = s2 at *
  generalize Sst.spot s M 3 = s3 at *
  have c2' := cell_later HB1.out c2
  have c0' := cell_later HB1.out c0
  clear c0 c1 c2
  go_wp2_with fail
  go_loopw [16] (fun iv wr => ∃ k : Nat, k ≤ 4 ∧ iv = .int .i64 k ∧ wr = w1 ∧ Hid (∀ j, j < k → Sst.bit f (Sst.spot s M j) = true)) (fun iv _ => 4 - (intOf iv).toNat)
  case atStart => exact ⟨0, by omega, rfl, rfl, Lib.hid (fun j hj => by omega)⟩
  case round =>
    obtain ⟨k, hk, rfl, rfl, HJ⟩ := hrel
    by_cases hlt : k < 4
    · have hx := HIX.out k hlt
      have hsl := HSL.out k
      have HBT := Lib.hid (HBIT.out (Sst.spot s M k))
      have HNK := Lib.hid (HNO.out k hlt)
      have HJK : Hid (Sst.bit f (Sst.spot s M k) = true → ∀ j, j < k + 1 → Sst.bit f (Sst.spot s M j) = true) := Lib.hid (fun hb j hj => by
        by_cases e : j = k
        · rw [e]; exact hb
        · exact HJ.out j (by omega))
      have hM8 := HM.out
      generalize Sst.spot s M k = p at *
      obtain ⟨d, hd⟩ : ∃ d, d = p / 8 := ⟨_, rfl⟩
      obtain ⟨r, hr⟩ : ∃ r, r = p % 8 := ⟨_, rfl⟩
      have hr8 : r < 8 := by omega
      have hd8 : d < nf := by omega
      have ed : ((p : Int)) / 8 = (d : Int) := by omega
      have er : ((p : Int)) % 8 = (r : Int) := by omega
      rw [← hd, ← hr] at HBT
      obtain ⟨bf, of, rfl, hcf⟩ := (HT.out.fs.below HB1.out).2.2.2 d (.int .u8 (n8 (nth f d))) (by
        unfold vs
        rw [List.getElem?_map, List.getElem?_eq_getElem (by rw [HFL.out]; exact hd8), ← nth_eq _ (by rw [HFL.out]; exact hd8)]
        rfl)
      have htk : decide (k < 4) = true := decide_eq_true hlt
      clear hd hr hM8
      by_cases hb : (nth f d).toNat / 2 ^ r % 2 = 1
      · have hbt : Sst.bit f p = true := by rw [HBT.out]; exact decide_eq_true hb
        have tt : (bits BinOp.and IntKind.u8 (n8 (nth f d) / 2 ^ r) 1 == 0) = false := by rw [bit_and, hb]; rfl
        have HJ2 := Lib.hid (HJK.out hbt)
        clear hb hbt
        go_wp2
        go_roundw
        case rel => exact ⟨k + 1, by omega, by go_num, trivial, HJ2⟩
        case measure => simp [intOf]; omega
      · have hbt : Sst.bit f p = false := by rw [HBT.out]; exact decide_eq_false hb
        have hb0 : (nth f d).toNat / 2 ^ r % 2 = 0 := by omega
        have tt : (bits BinOp.and IntKind.u8 (n8 (nth f d) / 2 ^ r) 1 == 0) = true := by rw [bit_and, hb0]; rfl
        have HNN := Lib.hid (HNK.out hbt)
        clear hb hbt hb0
        go_wp2
        go_ret
        exact ⟨by rw [HNN.out]; rfl, HB1.out⟩
    · obtain rfl : k = 4 := by omega
      have HYY := Lib.hid (HYES.out HJ.out)
      clear hlt
      go_wp2
      go_ret
      exact ⟨by rw [HYY.out]; rfl, HB1.out⟩
end Go.Proofs.YtjigfinpbdglnaaGreatDoor
end

section
set_option maxRecDepth 100000
set_option linter.unusedVariables false
set_option linter.unusedSimpArgs false
namespace Go.Proofs.YtjigfinpbdglnaaGreatDoor
open Go.RowKit

def kE : Ent := ⟨[107], 3, false, [118]⟩
def kB0 : List UInt8 := Sst.fin [] 10
def kB1 : List UInt8 := Sst.fin [kE] 10
theorem kB0_good : Sst.Good kB0 18 0 5 [] [] where
  len := by decide +kernel
  lt1 := by decide
  lt2 := by decide
  big := by decide
  f1 := by decide +kernel
  f2 := by decide +kernel
  f3 := by decide +kernel
  f4 := .inl ⟨rfl, rfl, rfl⟩
  f5 := by decide +kernel
  f6 := by decide +kernel
  f7 := by decide +kernel
theorem kB1_good : Sst.Good kB1 33 11 20 [kE] [⟨[107], 0, 11⟩] where
  len := by decide +kernel
  lt1 := by decide
  lt2 := by decide
  big := by decide
  f1 := by decide +kernel
  f2 := by decide +kernel
  f3 := by decide +kernel
  f4 := .inr ⟨kE, rfl, by decide, by decide +kernel, by decide +kernel, rfl, ⟨by decide⟩, by decide, by decide⟩
  f5 := by decide +kernel
  f6 := by decide +kernel
  f7 := by decide +kernel
theorem kBuild0 : Sst.build [] 10 = (kB0, 0) := build_ok (C := 10) (by decide) (by decide) (by simp)
theorem kBuild1 : Sst.build [kE] 10 = (kB1, 0) := build_ok (C := 10) (by decide) (by decide +kernel) (by
  simp only [List.mem_singleton, exists_eq_left]
  unfold Sst.long kE
  simp)
theorem kLen0 : kB0.length = 46 := by decide +kernel
theorem kMay : Sst.may (Sst.filter [kE]) [107] = true := by decide +kernel
theorem kLenF : (Sst.filter [kE]).length = 8 := by decide +kernel
theorem kCmp5 : Ent.cmp kE ⟨[107], 5, false, []⟩ = 1 := by decide +kernel
theorem kCmp2 : Ent.cmp kE ⟨[107], 2, false, []⟩ = -1 := by decide +kernel
end Go.Proofs.YtjigfinpbdglnaaGreatDoor
end

section
set_option maxRecDepth 100000
set_option linter.unusedVariables false
set_option linter.unusedSimpArgs false
namespace Go.Proofs.YtjigfinpbdglnaaGreatDoor
open Go.RowKit

/-- The list that known() lays: its byte, its entry. -/
theorem kE_es (w : World) : Es ((w.alloc (.cells #[.int .u8 118] 5 (1, 2))).alloc (.cells #[.string ⟨#[107]⟩, .int .u64 3, .bool false, .slice (some ⟨w.heap.size, 0, none⟩) 1 1] 37)) (some ⟨w.heap.size + 1, 0, none⟩) 1 1 [kE] := by
  refine ⟨rfl, Nat.le_refl _, by simp [maxLen], fun i hi => ?_⟩
  obtain rfl : i = 0 := by omega
  have hz : (w.alloc (.cells #[.int .u8 118] 5 (1, 2))).heap.size = w.heap.size + 1 := by simp
  have h := heap_alloc_new (w.alloc (.cells #[.int .u8 118] 5 (1, 2))) (.cells #[.string ⟨#[107]⟩, .int .u64 3, .bool false, .slice (some ⟨w.heap.size, 0, none⟩) 1 1] 37)
  rw [hz] at h
  have hb : Bs (w.alloc (.cells #[.int .u8 118] 5 (1, 2))) (some ⟨w.heap.size, 0, none⟩) 1 1 [118] := Bs.litAt [118] (1, 2) rfl (by simp [maxLen])
  exact ⟨w.heap.size + 1, 0, some ⟨w.heap.size, 0, none⟩, 1, rfl, ⟨(cell_of_row _ _ 0 _ _ _ h).trans rfl, (cell_of_row _ _ 1 _ _ _ h).trans rfl, (cell_of_row _ _ 2 _ _ _ h).trans rfl, (cell_of_row _ _ 3 _ _ _ h).trans rfl⟩, hb.below (below_alloc1 _ _)⟩
theorem kOk0 : Sst.Ok [] := ⟨fun e he => (by cases he), by decide, by decide⟩
theorem kOk1 : Sst.Ok [kE] := ⟨fun e he => (by simp only [List.mem_singleton] at he; subst he; exact ⟨by decide⟩), by decide +kernel, by decide⟩
theorem conv_lit (W : World) (z : Int) {k : Nat} (hk : k = W.heap.size) : (convert 22 22 (.slice (some ⟨k, 0, none⟩) 1 1)).run Tryz.prog (W.alloc (.cells #[.int .u8 z] 5)) = .ok (.slice (some ⟨k, 0, none⟩) 1 1) (W.alloc (.cells #[.int .u8 z] 5 (1, 2))) := by
  subst hk
  exact Lib.run_convert_bytes_const (P := Tryz.prog) W 22 5 #[.int .u8 z] 1 1 Tryz.underlying22 Tryz.underlying5
set_option maxHeartbeats 4000000 in
theorem known_any (w : World) : Calls Tryz.prog 5 #[] w fun e w' => e = .returned (.bool true) ∧ Below w.heap.size w w' := by
  have HB0 := Lib.hid (sbuild_any none 0 0 [] 10 w (Es.nil w) kOk0 (by omega))
  rw [kBuild0] at HB0
  go_enter Tryz.func5, Tryz.ntmps5
  go_wp2_with fail
  refine HB0.out.mono ?_
  rintro en w1 ⟨a1, n1, c1, rfl, ho1, hb1⟩
  clear HB0
  have HO1 := Lib.hid ho1.bs
  have HB1 := Lib.hid hb1
  obtain rfl : n1 = 46 := by have := ho1.bs.1; rw [kLen0] at this; exact this.symm
  clear ho1 hb1
  go_wp2_with fail
  refine (sopen_any a1 46 c1 kB0 18 0 5 [] [] w1 HO1.out kB0_good).mono ?_
  rintro en w2 ⟨bt, al, cl, af, nf, cf, rfl, ht2, hb2⟩
  have HT2 := Lib.hid ht2
  have HB2 := Lib.hid (HB1.out.trans (hb2.mono HB1.out.size))
  clear ht2 hb2
  have hes := kE_es w2
  have hz3 : (w2.alloc (.cells #[.int .u8 118] 5 (1, 2))).heap.size = w2.heap.size + 1 := by simp
  have hb3 : Below w2.heap.size w2 ((w2.alloc (.cells #[.int .u8 118] 5 (1, 2))).alloc (.cells #[.string ⟨#[107]⟩, .int .u64 3, .bool false, .slice (some ⟨w2.heap.size, 0, none⟩) 1 1] 37)) := (below_alloc1 _ _).trans ((below_alloc1 _ _).mono (by simp))
  obtain ⟨w3, hw3⟩ : ∃ w3, ((w2.alloc (.cells #[.int .u8 118] 5 (1, 2))).alloc (.cells #[.string ⟨#[107]⟩, .int .u64 3, .bool false, .slice (some ⟨w2.heap.size, 0, none⟩) 1 1] 37)) = w3 := ⟨_, rfl⟩
  rw [hw3] at hes hb3
  have HW3 := Lib.hid hw3
  have HES := Lib.hid hes
  have HB3 := Lib.hid (HB2.out.trans (hb3.mono HB2.out.size))
  have HT3 := Lib.hid (HT2.out.below hb3)
  have HBU := Lib.hid (sbuild_any (some ⟨w2.heap.size + 1, 0, none⟩) 1 1 [kE] 10 w3 hes kOk1 (by omega))
  rw [kBuild1] at HBU
  clear hes hw3 hb3 hz3
  have cl1 := fun (z : Int) => conv_lit w2 z (k := w2.heap.size) rfl
  go_wp2_with fail
  rw [HW3.out]
  refine HBU.out.mono ?_
  rintro en w4 ⟨a4, n4, c4, rfl, ho4, hb4⟩
  have HO4 := Lib.hid ho4.bs
  have HB4 := Lib.hid (HB3.out.trans (hb4.mono HB3.out.size))
  have HT4 := Lib.hid (HT3.out.below hb4)
  clear ho4 hb4 HBU
  go_wp2_with fail
  refine (sopen_any a4 n4 c4 kB1 33 11 20 [kE] [⟨[107], 0, 11⟩] w4 HO4.out kB1_good).mono ?_
  rintro en w5 ⟨bu, au, cu, fu, nu, gu, rfl, ht5, hb5⟩
  have HU5 := Lib.hid ht5
  have HT5 := Lib.hid (HT4.out.below hb5)
  have HB5 := Lib.hid (HB4.out.trans (hb5.mono HB4.out.size))
  clear ht5 hb5
  go_upto_region 7 with fail
  have HG5 : Hid (Calls Tryz.prog 10 #[.pointer (some ⟨bu, 0, none⟩), .string ⟨#[107]⟩, .int .u64 5] w5 fun e w' => ∃ a1 c1, e = .returned (.tuple #[.agg #[.string ⟨#[107]⟩, .int .u64 3, .bool false, .slice a1 1 c1], .bool true]) ∧ Own w' w5.heap.size a1 1 c1 [118] ∧ Below w5.heap.size w5 w') := Lib.hid (get_yes HU5.out [107] 5 0 (by decide) (by decide) rfl (by decide) (fun i hi => by omega) (fun i _ hi => by
    obtain rfl : i = 0 := by simp only [List.length_singleton] at hi; omega
    have h := kCmp5
    show 0 ≤ Ent.cmp kE _
    omega))
  go_wp2_with fail
  refine HG5.out.mono ?_
  rintro en w6 ⟨a6, c6, rfl, ho6, hb6⟩
  have HO6 := Lib.hid ho6.bs
  have HB6 := Lib.hid (HB5.out.trans (hb6.mono HB5.out.size))
  have HT6 := Lib.hid (HT5.out.below hb6)
  have HU6 := Lib.hid (HU5.out.below hb6)
  clear ho6 hb6 HG5
  go_upto_region 8 with fail
  have hh7 := heap_alloc_new w6 (.cells #[.string ⟨#[107]⟩, .int .u64 3, .bool false, .slice a6 1 c6] 37)
  have hb7 := below_alloc1 w6 (.cells #[.string ⟨#[107]⟩, .int .u64 3, .bool false, .slice a6 1 c6] 37)
  have HO7 := Lib.hid (HO6.out.below hb7)
  have HB7 := Lib.hid (HB6.out.trans (hb7.mono HB6.out.size))
  have HT7 := Lib.hid (HT6.out.below hb7)
  have HU7 := Lib.hid (HU6.out.below hb7)
  have HC7 := Lib.hid ((cell_of_row _ _ 3 _ _ _ hh7).trans rfl)
  generalize w6.alloc (.cells #[.string ⟨#[107]⟩, .int .u64 3, .bool false, .slice a6 1 c6] 37) = w7 at *
  generalize w6.heap.size = g7 at *
  clear hh7 hb7
  have HG2 : Hid (Calls Tryz.prog 10 #[.pointer (some ⟨bu, 0, none⟩), .string ⟨#[107]⟩, .int .u64 2] w7 fun e w' => e = .returned (.tuple #[.agg #[.string ⟨#[]⟩, .int .u64 0, .bool false, .slice none 0 0], .bool false]) ∧ Below w7.heap.size w7 w') := Lib.hid (get_no HU7.out [107] 2 1 (by decide) (by decide) (fun h => absurd h (by decide)) (fun i hi => by
    obtain rfl : i = 0 := by omega
    have h := kCmp2
    show Ent.cmp kE _ < 0
    omega) (fun i h1 hi => by simp only [List.length_singleton] at hi; omega))
  go_wp2_with fail
  refine HG2.out.mono ?_
  rintro en w8 ⟨rfl, hb8⟩
  have HO8 := Lib.hid (HO7.out.below hb8)
  have HB8 := Lib.hid (HB7.out.trans (hb8.mono HB7.out.size))
  have HT8 := Lib.hid (HT7.out.below hb8)
  have HU8 := Lib.hid (HU7.out.below hb8)
  have HC8 := Lib.hid (cell_later hb8 HC7.out)
  clear hb8 HG2 HO7 HB7 HT7 HU7 HC7
  go_upto_region 9 with fail
  have hb9 := below_alloc1 w8 (.cells #[.string ⟨#[]⟩, .int .u64 0, .bool false, .slice none 0 0] 37)
  have HO9 := Lib.hid (HO8.out.below hb9)
  have HB9 := Lib.hid (HB8.out.trans (hb9.mono HB8.out.size))
  have HT9 := Lib.hid (HT8.out.below hb9)
  have HU9 := Lib.hid (HU8.out.below hb9)
  have hc9 := cell_later hb9 HC8.out
  generalize w8.alloc (.cells #[.string ⟨#[]⟩, .int .u64 0, .bool false, .slice none 0 0] 37) = w9 at *
  clear hb9 HO8 HB8 HT8 HU8 HC8
  have v9 := conv_bytes HO9.out
  have tS : ((bstr [118]).toList == (ByteArray.mk #[118]).toList) = true := by decide +kernel
  have tS' : bstr [118] = ByteArray.mk #[118] := rfl
  have HL : Hid (Calls Tryz.prog 20 #[.pointer (some ⟨bt, 0, none⟩)] w9 fun e w' => e = .returned (.int .i64 0) ∧ w9 = w') := Lib.hid (tlen_any HT9.out)
  have HK : Hid (Calls Tryz.prog 21 #[.pointer (some ⟨bt, 0, none⟩)] w9 fun e w' => e = .returned (.int .i64 0) ∧ w9 = w') := Lib.hid (tblocks_any HT9.out)
  have HM : Hid (Calls Tryz.prog 13 #[.pointer (some ⟨bu, 0, none⟩), .string ⟨#[107]⟩] w9 fun e w' => e = .returned (.bool true) ∧ Below w9.heap.size w9 w') := Lib.hid (by
    have h := may_any HU9.out [107] (by have := HU9.out.fs.1; rw [kLenF] at this; omega) (by have := HU9.out.fs.1; rw [kLenF] at this; omega) (by decide)
    rw [kMay] at h
    exact h)
  go_wp2_with (first
    | (go_at_call 20; refine HL.out.mono ?_; rintro en wA ⟨rfl, rfl⟩)
    | (go_at_call 21; refine HK.out.mono ?_; rintro en wA ⟨rfl, rfl⟩)
    | (go_at_call 13; refine HM.out.mono ?_; rintro en wB ⟨rfl, hbB⟩; have HBB := Lib.hid hbB; clear hbB))
  go_ret
  exact ⟨rfl, HB9.out.trans (HBB.out.mono HB9.out.size)⟩
end Go.Proofs.YtjigfinpbdglnaaGreatDoor
end

section
namespace Go.Proofs.YtjigfinpbdglnaaGreatDoor
open Go.RowKit

section
variable {P : Program} {Q : Exit → Act → World → Prop} {a : Act} {w : World}
theorem wp_then_only {c : Code} {K : Act → World → Prop} {a : Act} {w : World} (h : c.wp P (Exit.then K (fun _ _ _ => False)) a w) : c.wp P (Exit.then K Q) a w := by
  refine wp_mono h ?_
  intro e a' w' h'
  cases e with
  | normal => exact h'
  | exit id => exact h'.elim
  | goto l => exact h'.elim
  | ret => exact h'.elim
  | panic ch => exact h'.elim
  | outgrown => exact h'.elim
theorem range_box {α : Type} {g : Operand} {ps : Array Tmp} {assign body : Code} {gf : Nat} {lb : Array Value} (hg : a.eval g = .func (.func gf) #[] lb) (eg : ∀ args w, (callFunc gf args).run P w = .ok (.enter gf args) w)
    {encs : α → Array Value} {Kp : World → World → Prop} {S Sp : List α → Prop} {N : Nat} {w0 : World} (hseq : SeqStopsK Fence.wide 4 P gf lb encs Kp S Sp N w0)
    (hKt : ∀ {A B C : World}, Kp A B → Kp B C → Kp A C) (hKb : ∀ (W : World) (l : Nat) (o o' : Obj), w.heap.size ≤ l → W.heap[l]? = some o → o.isCells = false → o.isWalk = false → Kp W (W.putObj l o')) (hb0 : Below w0.heap.size w0 w) (hps : ∀ x, (encs x).size = ps.size)
    (hKa : ∀ (W : World) (o : Obj), w.heap.size ≤ W.heap.size → Kp W (W.alloc o))
    (I : List α → World → Prop) (Ix : Code → List α → World → Prop) (hI : OwnFrom w.heap.size I) (hIx : ∀ c, OwnFrom w.heap.size (Ix c)) (h0 : I [] w) (hIs : ∀ pre W, I pre W → w.heap.size ≤ W.heap.size)
    (cs : α → Array Value) (t : TypeId) (h : ∃ a₁ : α → Nat → Act,
    (∀ (l : Nat) (x : α) (W : World) (K : Act → World → Prop) (b : Nat), W.heap.size = b → K (a₁ x b) (W.alloc (.cells (cs x) t)) →
        assign.wpIn (inR l) 3 P (Exit.then K (fun _ _ _ => False)) { tmps := (ps.zip (encs x)).foldl (fun t (p, v) => t.setIfInBounds p v) a.tmps, defers := [] } W) ∧
    (∀ (l : Nat) (pre : List α) (x : α) (b : Nat) (W : World), w.heap.size ≤ l → (∃ r, W.heap[l]? = some (.loop r)) → I pre W → w.heap.size ≤ b → W.heap[b]? = some (.cells (cs x) t) → pre.length < N → body.wpIn (inR l) 3 P (ownPostG w.heap.size Kp I Ix (pre ++ [x]) W) (a₁ x b) W))
    (hdone : ∀ (D : Nat) (xs : List α) (W : World), w.heap.size ≤ D → S xs → I xs W → W.heap[D]? = some (.deferred (some [])) → Q .normal { a with defers := { target := .collected D, args := #[] } :: a.defers } W)
    (hstop : ∀ (D : Nat) (c : Code) (pre : List α) (W : World), w.heap.size ≤ D → Sp pre → Ix c pre W → W.heap[D]? = some (.deferred (some [])) → c.wp P Q { a with defers := { target := .collected D, args := #[] } :: a.defers } W) :
    (Code.rangeFunc g ps assign body).wp P Q a w := by
  obtain ⟨a₁, h1, h2⟩ := h
  refine wpIn_wide.1 (wpIn_rangeFunc_ownH (F := Fence.wide) (n := 5) rfl (by omega) hg trivial eg hseq hKt hKb hb0 hps I Ix hI hIx h0
    (fun x a' W => ∃ b, a' = a₁ x b ∧ w.heap.size ≤ b ∧ W.heap[b]? = some (.cells (cs x) t)) ?_ ?_ ?_ hdone (fun D c pre W h1 h2 h3 h4 => wpIn_wide.2 (hstop D c pre W h1 h2 h3 h4)))
  · rintro x a' _ W W' row ⟨b, e, hb, hc⟩ hg hr
    refine ⟨b, e, hb, (hg.block b (Array.getElem?_eq_some_iff.1 hc).1 (fun e' => ?_)).trans hc⟩
    obtain ⟨_, o, ho, hoc⟩ := hr b e'.symm
    rw [hc] at ho
    cases ho
    cases hoc
  · intro l pre x W K hi hK
    refine h1 l x W K _ rfl (hK _ _ ((KeepsOthers.alloc W _).from _) (hKa W _ (hIs pre W hi)) (hI.alloc _ hi) ⟨W.heap.size, rfl, hIs pre W hi, ?_⟩)
    exact World.alloc_heap_new W _
  · rintro l pre x a' W hl hr hi ⟨b, rfl, hb, hc⟩ hlen
    exact h2 l pre x b W hl hr hi hb hc hlen
end
end Go.Proofs.YtjigfinpbdglnaaGreatDoor
end

section
namespace Go.Proofs.YtjigfinpbdglnaaGreatDoor
open Go.RowKit

section
variable {P : Program} {Q : Exit → Act → World → Prop} {a : Act} {w : World} {α : Type}
/-- The contract of a sequence: of x it tells X. -/
def SeqX (m : Nat) (P : Program) (g : Nat) (lb : Array Value) (encs : α → Array Value) (X : α → World → Prop) (Kp : World → World → Prop) (S Sp : List α → Prop) (N : Nat) (w0 : World) : Prop :=
  ∀ (l : Nat) (J Jx : List α → World → Prop) (W : World), Below w0.heap.size w0 W → AbidesFrom W.heap.size J →
    (∀ pre x V, J pre V → X x V → pre.length < N → YieldAt Fence.wide m P l (encs x) V fun e V' => (e = .returned (.bool true) ∧ J (pre ++ [x]) V' ∧ Kp V V') ∨ (e = .returned (.bool false) ∧ Jx (pre ++ [x]) V')) →
    J [] W → CallsIn Fence.wide (m + 1) P g (#[.func (.yield l) #[] #[]] ++ lb) W fun e W' => (∃ v, e = .returned v) ∧ ((∃ xs, S xs ∧ J xs W') ∨ (∃ pre, Sp pre ∧ Jx pre W'))
theorem below_put {n : Nat} {W : World} {l : Nat} {o o' : Obj} (hl : n ≤ l) (h : W.heap[l]? = some o) : Below n W (W.putObj l o') :=
  (Below.refl n W).grown (grownBy_putObj' W l o') (by have := (Array.getElem?_eq_some_iff.1 h).1; omega) (fun k e => by cases e; exact hl)
theorem range_x {g : Operand} {ps : Array Tmp} {assign body : Code} {gf : Nat} {lb : Array Value} (hg : a.eval g = .func (.func gf) #[] lb) (eg : ∀ args w, (callFunc gf args).run P w = .ok (.enter gf args) w)
    {encs : α → Array Value} {X : α → World → Prop} {Kp : World → World → Prop} {S Sp : List α → Prop} {N : Nat} {w0 : World} (hseq : SeqX 3 P gf lb encs X Kp S Sp N w0) (hKt : ∀ {A B C : World}, Kp A B → Kp B C → Kp A C) (hKb : ∀ (W : World) (l : Nat) (o o' : Obj), w.heap.size ≤ l → W.heap[l]? = some o → o.isCells = false → o.isWalk = false → Kp W (W.putObj l o')) (hKa : ∀ (W : World) (o : Obj), w.heap.size ≤ W.heap.size → Kp W (W.alloc o)) (hb0 : Below w0.heap.size w0 w) (hps : ∀ x, (encs x).size = ps.size)
    (I : List α → World → Prop) (Ix : Code → List α → World → Prop) (hI : OwnFrom w.heap.size I) (hIx : ∀ c, OwnFrom w.heap.size (Ix c)) (hX : OwnFrom w.heap.size X) (h0 : I [] w) (hIs : ∀ pre W, I pre W → w.heap.size ≤ W.heap.size)
    (cs : α → Array Value) (t : TypeId) (h : ∃ a₁ : α → Nat → Act,
    (∀ (l : Nat) (x : α) (W : World) (K : Act → World → Prop) (b : Nat), W.heap.size = b → K (a₁ x b) (W.alloc (.cells (cs x) t)) →
        assign.wpIn (inR l) 3 P (Exit.then K (fun _ _ _ => False)) { tmps := (ps.zip (encs x)).foldl (fun t (p, v) => t.setIfInBounds p v) a.tmps, defers := [] } W) ∧
    (∀ (l : Nat) (pre : List α) (x : α) (b : Nat) (W : World), I pre W → X x W → w.heap.size ≤ b → W.heap[b]? = some (.cells (cs x) t) → pre.length < N → body.wpIn (inR l) 3 P (ownPostG w.heap.size Kp I Ix (pre ++ [x]) W) (a₁ x b) W))
    (hdone : ∀ (D : Nat) (xs : List α) (W : World), w.heap.size ≤ D → S xs → I xs W → W.heap[D]? = some (.deferred (some [])) → Q .normal { a with defers := { target := .collected D, args := #[] } :: a.defers } W)
    (hstop : ∀ (D : Nat) (c : Code) (pre : List α) (W : World), w.heap.size ≤ D → Sp pre → Ix c pre W → W.heap[D]? = some (.deferred (some [])) → c.wp P Q { a with defers := { target := .collected D, args := #[] } :: a.defers } W) :
    (Code.rangeFunc g ps assign body).wp P Q a w := by
  obtain ⟨a₁, h1, h2⟩ := h
  refine wpIn_wide.1 (wpIn_rangeFunc (F := Fence.wide) (n := 5) fun fn hfn => ?_)
  let rc : LoopState → Option Code → Loop := fun st pe => { state := st, pending := pe, fn, tmps := a.tmps, params := ps, assign, body, defers := w.heap.size }
  have hz : ((w.alloc (.deferred (some []))).alloc (.loop (rc .ready none))).heap.size = w.heap.size + 2 := by simp
  have hL : ((w.alloc (.deferred (some []))).alloc (.loop (rc .ready none))).heap[w.heap.size + 1]? = some (.loop (rc .ready none)) := by
    have := World.alloc_heap_new (w.alloc (.deferred (some []))) (.loop (rc .ready none))
    rwa [World.size_alloc] at this
  have hD : ((w.alloc (.deferred (some []))).alloc (.loop (rc .ready none))).heap[w.heap.size]? = some (.deferred (some [])) := (Below.heap_alloc _ _ _ (by simp)).trans (World.alloc_heap_new w _)
  have hi0 : I [] ((w.alloc (.deferred (some []))).alloc (.loop (rc .ready none))) := hI.alloc _ (hI.alloc _ h0)
  have hb1 : Below w0.heap.size w0 ((w.alloc (.deferred (some []))).alloc (.loop (rc .ready none))) := hb0.trans (((below_alloc1 w _).trans ((below_alloc1 _ _).mono (by simp))).mono hb0.size)
  obtain ⟨W1, hW1⟩ : ∃ W1, (w.alloc (.deferred (some []))).alloc (.loop (rc .ready none)) = W1 := ⟨_, rfl⟩
  rw [hW1] at hz hL hD hi0 hb1
  refine ⟨w.heap.size + 1, [{ target := .collected w.heap.size, args := #[] }], W1, { target := .fn (.func gf) lb, args := #[.func (.yield (w.heap.size + 1)) #[] #[]] }, W1, gf, #[.func (.yield (w.heap.size + 1)) #[] #[]] ++ lb, W1,
    (run_enterLoop_outer _ _ _ _ _).trans (by rw [← hW1]), by simp only [resolve, hg]; simp [go_sem], fun f' hf' => trivial, by simp [invoke, go_sem, eg], fun _ => by omega, ?_⟩
  have hrow : ∀ {A : World} {row : Option Nat}, (∀ r, row = some r → W1.heap.size ≤ r ∧ ∃ o : Obj, A.heap[r]? = some o ∧ o.isWalk = true) → ∀ r, row = some r → w.heap.size ≤ r ∧ ∃ o : Obj, A.heap[r]? = some o ∧ o.isCells = false := fun hr r e => by
    obtain ⟨h3, o, h4, h5⟩ := hr r e
    exact ⟨by omega, o, h4, Obj.not_cells_of_walk h5⟩
  refine (hseq (w.heap.size + 1) (fun pre W => I pre W ∧ W.heap[w.heap.size + 1]? = some (.loop (rc .ready none)) ∧ W.heap[w.heap.size]? = some (.deferred (some [])))
    (fun pre W => ∃ c, Ix c pre W ∧ W.heap[w.heap.size + 1]? = some (.loop (rc .done (some c))) ∧ W.heap[w.heap.size]? = some (.deferred (some []))) W1 hb1 ?_ ?_ ⟨hi0, hL, hD⟩).mono ?_
  · rintro s A B row ⟨g1, g2, g3⟩ hg' hr
    exact ⟨hI s A B row g1 hg' (hrow hr), (grownBy_keeps hg' (fun r e => (hr r e).2) g2 rfl).trans g2, (grownBy_keeps hg' (fun r e => (hr r e).2) g3 rfl).trans g3⟩
  · rintro pre x V ⟨g1, g2, g3⟩ hx hlen
    have hlt : w.heap.size + 1 < V.heap.size := (Array.getElem?_eq_some_iff.1 g2).1
    refine ⟨fn, _, assign, body, run_yield (r := rc .ready none) g2 (hps x), roundIn_of_wpIn hfn (h1 _ x V _ V.heap.size rfl ⟨_, run_beginRound (r := rc .ready none) ((Below.heap_alloc _ _ _ (by omega)).trans g2) rfl, ?_⟩)⟩
    have a2 : (V.alloc (.cells (cs x) t)).heap[w.heap.size + 1]? = some (.loop (rc .ready none)) := (Below.heap_alloc _ _ _ (by omega)).trans g2
    have a3 : (V.alloc (.cells (cs x) t)).heap[w.heap.size]? = some (.deferred (some [])) := (Below.heap_alloc _ _ _ (by omega)).trans g3
    have hi : I pre ((V.alloc (.cells (cs x) t)).putObj (w.heap.size + 1) (.loop (rc .busy none))) := hI.putObj _ (hI.alloc _ g1) (by omega) a2 rfl
    have hxx : X x ((V.alloc (.cells (cs x) t)).putObj (w.heap.size + 1) (.loop (rc .busy none))) := hX.putObj _ (hX.alloc _ hx) (by omega) a2 rfl
    have b2 : ((V.alloc (.cells (cs x) t)).putObj (w.heap.size + 1) (.loop (rc .busy none))).heap[w.heap.size + 1]? = some (.loop (rc .busy none)) := World.putObj_heap_same (by simp; omega)
    have b3 : ((V.alloc (.cells (cs x) t)).putObj (w.heap.size + 1) (.loop (rc .busy none))).heap[w.heap.size]? = some (.deferred (some [])) := (World.putObj_heap_other (by omega)).trans a3
    have b4 : ((V.alloc (.cells (cs x) t)).putObj (w.heap.size + 1) (.loop (rc .busy none))).heap[V.heap.size]? = some (.cells (cs x) t) := (World.putObj_heap_other (by omega)).trans (World.alloc_heap_new V _)
    have hbV : Kp V ((V.alloc (.cells (cs x) t)).putObj (w.heap.size + 1) (.loop (rc .busy none))) := hKt (hKa V _ (by omega)) (hKb _ _ _ _ (by omega) a2 rfl rfl)
    refine wpIn_mono (h2 _ pre x V.heap.size _ hi hxx (by omega) b4 hlen) ?_
    generalize (V.alloc (.cells (cs x) t)).putObj (w.heap.size + 1) (.loop (rc .busy none)) = V2 at *
    have fin : ∀ (jump : Option Code) (V3 : World), KeepsFrom w.heap.size V2 V3 → (Instr.endRound (w.heap.size + 1) jump).run P V3 = .ok (.bool jump.isNone) (V3.putObj (w.heap.size + 1) (.loop (rc (if jump.isNone then .ready else .done) jump))) ∧
        V3.heap[w.heap.size + 1]? = some (.loop (rc .busy none)) ∧ (V3.putObj (w.heap.size + 1) (.loop (rc (if jump.isNone then .ready else .done) jump))).heap[w.heap.size + 1]? = some (.loop (rc (if jump.isNone then .ready else .done) jump)) ∧
        (V3.putObj (w.heap.size + 1) (.loop (rc (if jump.isNone then .ready else .done) jump))).heap[w.heap.size]? = some (.deferred (some [])) := fun jump V3 hk => by
      have c2 := hk.same _ _ (by omega) b2 rfl
      exact ⟨run_endRound (r := rc .busy none) jump c2, c2, World.putObj_heap_same (Array.getElem?_eq_some_iff.1 c2).1, (World.putObj_heap_other (by omega)).trans (hk.same _ _ (Nat.le_refl _) b3 rfl)⟩
    rintro e a3 V3 hp
    cases e with
    | normal =>
      obtain ⟨k1, k2, k3⟩ := hp
      obtain ⟨q1, q2, q3, q4⟩ := fin none V3 k1
      exact ⟨_, _, q1, .inl ⟨rfl, ⟨hI.putObj _ k3 (by omega) q2 rfl, q3, q4⟩, hKt (hKt hbV k2) (hKb _ _ _ _ (by omega) q2 rfl rfl)⟩⟩
    | ret =>
      obtain ⟨k1, k2⟩ := hp
      obtain ⟨q1, q2, q3, q4⟩ := fin (some .ret) V3 k1
      exact ⟨_, _, q1, .inr ⟨rfl, _, (hIx _).putObj _ k2 (by omega) q2 rfl, q3, q4⟩⟩
    | exit id =>
      obtain ⟨k1, k2⟩ := hp
      obtain ⟨q1, q2, q3, q4⟩ := fin (some (.exit id)) V3 k1
      exact ⟨_, _, q1, .inr ⟨rfl, _, (hIx _).putObj _ k2 (by omega) q2 rfl, q3, q4⟩⟩
    | goto t =>
      obtain ⟨k1, k2⟩ := hp
      obtain ⟨q1, q2, q3, q4⟩ := fin (some (.goto t)) V3 k1
      exact ⟨_, _, q1, .inr ⟨rfl, _, (hIx _).putObj _ k2 (by omega) q2 rfl, q3, q4⟩⟩
    | panic ch => exact hp.elim
    | outgrown => exact hp.elim
  · rintro e W2 ⟨⟨v, rfl⟩, ⟨xs, hS, k1, k2, k3⟩ | ⟨pre, hSp, c, k1, k2, k3⟩⟩
    · exact ⟨none, _, run_endLoop (r := rc .ready none) k2 (fun h => by cases h), hdone _ xs _ (Nat.le_refl _) hS (hI.putObj _ k1 (by omega) k2 rfl) ((World.putObj_heap_other (by omega)).trans k3)⟩
    · exact ⟨some c, _, run_endLoop (r := rc .done (some c)) k2 (fun h => by cases h), wpIn_wide.2 (hstop _ c pre _ (Nat.le_refl _) hSp ((hIx c).putObj _ k1 (by omega) k2 rfl) ((World.putObj_heap_other (by omega)).trans k3))⟩
end
end Go.Proofs.YtjigfinpbdglnaaGreatDoor
end
