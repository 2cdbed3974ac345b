/- Sorted tables: a reader's bytes, numbers, entries. -/
import Derived.Test.YtjigfinpbdglnaaGreatDoorZSbK
import Derived.Deep.RegionWith
set_option linter.unusedVariables false
set_option linter.unusedSimpArgs false
set_option maxRecDepth 100000
set_option linter.unusedVariables false
set_option linter.unusedSimpArgs false
namespace Go.Proofs.YtjigfinpbdglnaaGreatDoor
open Go.RowKit

theorem no_ent {s : ByteArray} {z : Int} {b : Bool} {a : Option Addr} {n c : Nat} : ∀ v ∈ [Value.string s, .int .u64 z, .bool b, .slice a n c], ∀ q, v ≠ .int .u8 q := by
  intro v hv q e
  simp only [List.mem_cons, List.not_mem_nil, or_false] at hv
  rcases hv with rfl | rfl | rfl | rfl <;> cases e
theorem RS.other {w w' : World} {bk g : Nat} {l : List UInt8} {t : TypeId} {s : ByteArray} {z : Int} {b : Bool} {a : Option Addr} {n c : Nat} (h : RS w bk l) (k : Oth (some ⟨g, 0, none⟩) w w') (hg : w.heap[g]? = some (.cells #[.string s, .int .u64 z, .bool b, .slice a n c] t (0, 0))) (hne : bk ≠ g) : RS w' bk l := by
  obtain ⟨a', n', c', h1, h2⟩ := h
  exact ⟨a', n', c', (k.block bk (Array.getElem?_eq_some_iff.1 h1).1 (fun x hx => by cases hx; exact Ne.symm hne)).trans h1, h2.notin k hg no_ent⟩
theorem oth_chain {w w1 w3 w4 w6 w7 W : World} {bk g : Nat} (h1 : Below w.heap.size w w1) (h3 : Oth (some ⟨bk, 0, none⟩) w1 w3) (h4 : Oth (some ⟨g, 0, none⟩) w3 w4) (h6 : Oth (some ⟨bk, 0, none⟩) w4 w6) (h7 : Oth (some ⟨g, 0, none⟩) w6 w7) (h : Oth (some ⟨w.heap.size, 0, none⟩) w7 W) (hg : w1.heap.size ≤ g) : Oth (some ⟨bk, 0, none⟩) w W := by
  have l1 := h1.size
  have l3 := h3.size
  have l4 := h4.size
  have l6 := h6.size
  have l7 := h7.size
  refine ⟨?_, ?_, ?_, Nat.le_trans l1 (Nat.le_trans l3 (Nat.le_trans l4 (Nat.le_trans l6 (Nat.le_trans l7 h.size)))), fun b hb hn => ?_⟩
  · rw [h.os, h7.os, h6.os, h4.os, h3.os, h1.os]
  · rw [h.tape, h7.tape, h6.tape, h4.tape, h3.tape, h1.tape]
  · rw [h.output, h7.output, h6.output, h4.output, h3.output, h1.output]
  · exact (h.block b (by omega) (fun x hx => by cases hx; simp only; omega)).trans ((h7.block b (by omega) (fun x hx => by cases hx; simp only; omega)).trans ((h6.block b (by omega) hn).trans ((h4.block b (by omega) (fun x hx => by cases hx; simp only; omega)).trans ((h3.block b (by omega) hn).trans (h1.block b hb)))))
section
variable {P : Program} {l : List Oper} {Q : Exit → Act → World → Prop} {S : World → Prop} {ts : List Nat}
/-- One of three may come next. -/
theorem anyT_three {L : Array Bool → Act → World → Prop} (k j m : Nat) {f : Nat} {listed : Array Bool} {a : Act} {w : World} {o o' o'' : Oper} (h0 : l[k]? = some o) (h0' : l[j]? = some o') (h0'' : l[m]? = some o'') (hr : (Region.ready .any l.toArray listed == [k, j, m] && !inTail ts k && !inTail ts j && !inTail ts m) = true)
    (hw : Region.wanted o (yielded l.toArray a.tmps) = true) (hw' : Region.wanted o' (yielded l.toArray a.tmps) = true) (hw'' : Region.wanted o'' (yielded l.toArray a.tmps) = true)
    (h : ∀ K : Act → World → Prop, (∀ a w, S w → anyT P .any l.toArray Q S ts L f (listed.setIfInBounds k true) a w → K a w) → o.wp P a w K Q)
    (h' : ∀ K : Act → World → Prop, (∀ a w, S w → anyT P .any l.toArray Q S ts L f (listed.setIfInBounds j true) a w → K a w) → o'.wp P a w K Q)
    (h'' : ∀ K : Act → World → Prop, (∀ a w, S w → anyT P .any l.toArray Q S ts L f (listed.setIfInBounds m true) a w → K a w) → o''.wp P a w K Q) : anyT P .any l.toArray Q S ts L (f + 1) listed a w := by
  simp only [Bool.and_eq_true, beq_iff_eq, Bool.not_eq_true'] at hr
  refine ⟨fun e => (by rw [hr.1.1.1] at e; cases e), fun i hi => ?_⟩
  rw [hr.1.1.1] at hi
  have : i = k ∨ i = j ∨ i = m := by simpa using hi
  rcases this with rfl | rfl | rfl
  · exact ⟨hr.1.1.2, step_op h0 hw h⟩
  · exact ⟨hr.1.2, step_op h0' hw' h'⟩
  · exact ⟨hr.2, step_op h0'' hw'' h''⟩
end
/-- What a reader's method tells: bytes; what is left. -/
def RdB (bk : Nat) (x rest : List UInt8) (w : World) (e : Ending) (w' : World) : Prop := ∃ a n c, e = .returned (.slice a n c) ∧ Bs w' a n c x ∧ RS w' bk rest ∧ Oth (some ⟨bk, 0, none⟩) w w'
set_option maxHeartbeats 1000000 in
theorem rbytes_ok (bk : Nat) (l x : List UInt8) (m : Nat) (most : Nat) (w : World) (h : RS w bk l) (hr : Codec.rdBytes l (most : Int) = (x, m, 0)) (hm : m ≤ l.length) (hl : l.length ≤ 1000000000) (hmb : most ≤ 1000000000) :
    Calls Tryz.prog 97 #[.pointer (some ⟨bk, 0, none⟩), .int .i64 most] w (RdB bk x (l.drop m) w) := by
  have HR := Lib.hid h
  obtain ⟨a, n, c, h1, h2⟩ := h
  have hn := h2.1
  have HRB := Lib.hid (readbytes_any a n c l (most : Int) w h2 ⟨by omega⟩ (by omega) (by omega))
  rw [hr] at HRB
  obtain ⟨c0, c1, cf⟩ := cells2 h1
  clear h1 h2 hr
  go_enter Tryz.func97, Tryz.ntmps97
  go_wp2_with fail
  refine HRB.out.mono ?_
  rintro e w1 ⟨a1, n1, k1, rfl, hb1, hbl1⟩
  dsimp only at hb1 ⊢
  have HB1 := Lib.hid hb1
  have HO1 : Hid (Oth (some ⟨bk, 0, none⟩) w w1) := Lib.hid (Oth.of_below hbl1)
  have HR1 := Lib.hid (HR.out.below hbl1)
  clear hb1 hbl1 c0 c1 cf HRB
  go_wp2_with fail
  refine (take_ok bk m l w1 HR1.out hm).mono ?_
  rintro e w2 ⟨rfl, hr2, ho2⟩
  have HP : Hid (RdB bk x (l.drop m) w (.returned (.slice a1 n1 k1)) w2) := Lib.hid ⟨a1, n1, k1, rfl, HR1.out.keep ho2 HB1.out, hr2, HO1.out.trans ho2⟩
  clear hr2 ho2
  go_wp2
  go_ret
  exact HP.out
set_option maxHeartbeats 1000000 in
theorem rnumber_ok (bk : Nat) (l : List UInt8) (v m : Nat) (w : World) (h : RS w bk l) (hr : Codec.dec l = (v, m, 0)) (hm : m ≤ l.length) (hl : l.length ≤ 1000000000) :
    Calls Tryz.prog 98 #[.pointer (some ⟨bk, 0, none⟩)] w fun e w' => e = .returned (.int .u64 v) ∧ RS w' bk (l.drop m) ∧ Oth (some ⟨bk, 0, none⟩) w w' := by
  have HR := Lib.hid h
  obtain ⟨a, n, c, h1, h2⟩ := h
  have hn := h2.1
  have HRB := Lib.hid (readnum_any a n c l w h2)
  rw [hr] at HRB
  obtain ⟨c0, c1, cf⟩ := cells2 h1
  clear h1 h2 hr
  go_enter Tryz.func98, Tryz.ntmps98
  go_wp2_with fail
  refine HRB.out.mono ?_
  rintro e w1 ⟨rfl, rfl⟩
  go_wp2_with fail
  refine (take_ok bk m l w HR.out hm).mono ?_
  rintro e w2 ⟨rfl, hr2, ho2⟩
  have HP := Lib.hid (And.intro hr2 ho2)
  clear hr2 ho2
  go_wp2
  go_ret
  exact ⟨rfl, HP.out⟩
theorem fin_box {w0 w : World} {bk g : Nat} {l kk : List UInt8} {sq : Nat} (h : w.heap[g]? = some (.cells #[.string ⟨#[]⟩, .int .u64 0, .bool false, .slice none 0 0] 37 (0, 0))) (hr : RS w bk l) (ho : Oth (some ⟨bk, 0, none⟩) w0 w) (hg : w0.heap.size ≤ g) (hne : bk ≠ g) :
    ∃ g3 : Nat, Value.pointer (some ⟨g, 0, none⟩) = .pointer (some ⟨g3, 0, none⟩) ∧ w0.heap.size ≤ g3 ∧ Hid (((((w.setCell ⟨g, 0, none⟩ (.string (bstr kk))).setCell ⟨g, 1, none⟩ (.int .u64 sq)).setCell ⟨g, 2, none⟩ (.bool false)).setCell ⟨g, 3, none⟩ (.slice none 0 0)).heap[g3]? = some (.cells #[.string (bstr kk), .int .u64 sq, .bool false, .slice none 0 0] 37 (0, 0))) ∧ Hid (RS ((((w.setCell ⟨g, 0, none⟩ (.string (bstr kk))).setCell ⟨g, 1, none⟩ (.int .u64 sq)).setCell ⟨g, 2, none⟩ (.bool false)).setCell ⟨g, 3, none⟩ (.slice none 0 0)) bk l) ∧ Hid (Oth (some ⟨bk, 0, none⟩) w0 ((((w.setCell ⟨g, 0, none⟩ (.string (bstr kk))).setCell ⟨g, 1, none⟩ (.int .u64 sq)).setCell ⟨g, 2, none⟩ (.bool false)).setCell ⟨g, 3, none⟩ (.slice none 0 0))) := by
  obtain ⟨h1, h2⟩ := set4 (.string (bstr kk)) (.int .u64 sq) (.bool false) (.slice none 0 0) h
  refine ⟨g, rfl, hg, Lib.hid h1, Lib.hid ?_, Lib.hid ?_⟩
  · obtain ⟨a, n, c, r1, r2⟩ := hr
    refine ⟨a, n, c, (h2.block bk (Array.getElem?_eq_some_iff.1 r1).1 (fun x hx => by cases hx; exact Ne.symm hne)).trans r1, r2.notin h2 h (fun v hv z e => ?_)⟩
    simp only [List.mem_cons, List.not_mem_nil, or_false] at hv
    rcases hv with rfl | rfl | rfl | rfl <;> cases e
  · refine ⟨h2.os.trans ho.os, h2.tape.trans ho.tape, h2.output.trans ho.output, Nat.le_trans ho.size h2.size, fun b hb hn => ?_⟩
    exact (h2.block b (Nat.lt_of_lt_of_le hb ho.size) (fun x hx => by cases hx; simp only; omega)).trans (ho.block b hb hn)
/-! Entries that are read again, plain. -/
theorem rdBytes_lp {x r : List UInt8} {most : Nat} (h : x.length ≤ most) (hm : most ≤ 1000000000) : Codec.rdBytes (Sst.lp x ++ r) (most : Int) = (x, (Sst.lp x).length, 0) := by
  unfold Sst.lp Codec.rdBytes
  rw [List.append_assoc, Codec.dec_enc (u := x.length) (by omega)]
  dsimp only
  rw [if_neg (by simp), if_neg (by simp; omega), if_neg (by simp), List.drop_left, List.take_left, List.length_append]
set_option maxHeartbeats 4000000 in
theorem rentry_ok (bk : Nat) (e : Ent) (rest : List UInt8) (w : World) (h : RS w bk (Sst.ent e ++ rest)) (hs : U64 e.seq) (hk : e.key.length ≤ 65535) (hv : e.val.length ≤ 33554432) (hl : rest.length ≤ 100000000) :
    Calls Tryz.prog 83 #[.pointer (some ⟨bk, 0, none⟩)] w fun en w' => (∃ a c, en = .returned (ev e a c) ∧ Bs w' a e.val.length c e.val) ∧ RS w' bk rest ∧ Oth (some ⟨bk, 0, none⟩) w w' := by
  have HR := Lib.hid h
  have hbk : bk < w.heap.size := by obtain ⟨_, _, _, h1, _⟩ := h; exact (Array.getElem?_eq_some_iff.1 h1).1
  clear h
  obtain ⟨r1, hr1⟩ : ∃ r1, r1 = Codec.enc e.seq ++ (Sst.gone e.gone ++ (Sst.lp e.val ++ rest)) := ⟨_, rfl⟩
  have HE1 : Hid (Sst.ent e ++ rest = Sst.lp e.key ++ r1) := Lib.hid (by rw [hr1]; unfold Sst.ent; simp [List.append_assoc])
  go_enter Tryz.func83, Tryz.ntmps83
  go_upto_region 1 with fail
  obtain ⟨w1, hw1⟩ : ∃ w1, w.alloc (.cells #[.string ByteArray.empty, .int .u64 0, .bool false, .slice none 0 0] 37) = w1 := ⟨_, rfl⟩
  have hr1w := heap_alloc_new w (.cells #[.string ByteArray.empty, .int .u64 0, .bool false, .slice none 0 0] 37)
  have hb1 := below_alloc1 w (.cells #[.string ByteArray.empty, .int .u64 0, .bool false, .slice none 0 0] 37)
  rw [hw1] at hr1w hb1
  first | rw [hw1] | (change Code.wp _ _ _ _ (w.alloc (.cells #[.string ByteArray.empty, .int .u64 0, .bool false, .slice none 0 0] 37)); rw [hw1])
  have HZ1 := Lib.hid hr1w
  have HB1 := Lib.hid hb1
  have HR1 : Hid (RS w1 bk (Sst.lp e.key ++ r1)) := Lib.hid (by rw [← HE1.out]; exact HR.out.below hb1)
  have hbk1 : bk < w1.heap.size := Nat.lt_of_lt_of_le hbk hb1.size
  clear hw1 hr1w hb1
  obtain ⟨r2, hr2⟩ : ∃ r2, r2 = Sst.gone e.gone ++ (Sst.lp e.val ++ rest) := ⟨_, rfl⟩
  have hlk : (Sst.lp e.key).length ≤ 65545 := by
    have := Codec.enc_len10 (v := e.key.length) (by omega)
    unfold Sst.lp; rw [List.length_append]; omega
  have hle2 := Codec.enc_len10 hs.lt
  have hlv : (Sst.lp e.val).length ≤ 33554442 := by
    have := Codec.enc_len10 (v := e.val.length) (by omega)
    unfold Sst.lp; rw [List.length_append]; omega
  have hgl : (Sst.gone e.gone).length = 1 := by unfold Sst.gone; split <;> rfl
  have hr2l : r2.length ≤ 140000000 := by rw [hr2]; simp only [List.length_append]; omega
  have HE2 : Hid (r1 = Codec.enc e.seq ++ r2) := Lib.hid (by rw [hr1, hr2])
  have hr1l : r1.length ≤ 140000020 := by rw [HE2.out, List.length_append]; omega
  have HD1 : Hid ((Sst.lp e.key ++ r1).drop (Sst.lp e.key).length = r1) := Lib.hid List.drop_left
  have HD2 : Hid (r1.drop (Codec.enc e.seq).length = r2) := Lib.hid (by rw [HE2.out]; exact List.drop_left)
  have HK1 := Lib.hid (fun W (hW : RS W bk (Sst.lp e.key ++ r1)) => rbytes_ok bk _ e.key (Sst.lp e.key).length 65535 W hW (rdBytes_lp hk (by omega)) (by rw [List.length_append]; omega) (by rw [List.length_append]; omega) (by omega))
  rw [HD1.out] at HK1
  have HK2 := Lib.hid (fun W (hW : RS W bk r1) => rnumber_ok bk r1 e.seq (Codec.enc e.seq).length W hW (by rw [HE2.out]; exact Codec.dec_enc hs.lt r2) (by rw [HE2.out, List.length_append]; omega) (by omega))
  rw [HD2.out] at HK2
  clear hr1
  go_cut [3] (fun p wx => ∃ g3 : Nat, p = .pointer (some ⟨g3, 0, none⟩) ∧ w1.heap.size ≤ g3 ∧ Hid (wx.heap[g3]? = some (.cells #[.string (bstr e.key), .int .u64 e.seq, .bool false, .slice none 0 0] 37 (0, 0))) ∧ Hid (RS wx bk r2) ∧ Hid (Oth (some ⟨bk, 0, none⟩) w1 wx))
  case first =>
    have HOD : Oth (some ⟨bk, 0, none⟩) w1 w1.drew := Oth.of_below (Below.refl _ _).drew
    have HRD := HR1.out.below (Below.refl _ _).drew
    refine wp_region_steps [7] 7 7 (by kernel_rfl) (by kernel_rfl) rfl (fun _ => True) ?_
    refine anyT_pull [0, 3] 7 5 (by intro c a d v w h; cases d <;> exact h) (by kernel_rfl) trivial ?_
    simp only [opsAt, List.filterMap_cons, List.filterMap_nil, List.getElem?_cons_zero, List.getElem?_cons_succ]
    iterate 2
      apply held_step
      · kernel_rfl
      · rintro _ _
        go_simp
        rfl
    refine held_nil ?_
    generalize w1.drew = wD at *
    refine anyT_two 1 6 rfl rfl (by kernel_rfl) (by kernel_rfl) (by kernel_rfl) (fun K hK => ?_) (fun K hK => ?_)
    · go_simp
      refine (HK1.out wD HRD).mono ?_
      rintro en q1w ⟨a2, n2, k2, rfl, hb1, hr1, ho1⟩
      have hoo1 := HOD.trans ho1
      refine hK _ _ trivial ?_
      clear hK
      refine anyT_three 2 4 6 rfl rfl rfl (by kernel_rfl) (by kernel_rfl) (by kernel_rfl) (by kernel_rfl) (fun K hK => ?_) (fun K hK => ?_) (fun K hK => ?_)
      · have v2 := conv_bytes hb1
        go_simp
        refine hK _ _ trivial ?_
        clear hK v2
        refine anyT_two 4 6 rfl rfl (by kernel_rfl) (by kernel_rfl) (by kernel_rfl) (fun K hK => ?_) (fun K hK => ?_)
        · go_simp
          refine (HK2.out q1w hr1).mono ?_
          rintro en q3w ⟨rfl, hr3, ho3⟩
          have hoo3 := hoo1.trans ho3
          refine hK _ _ trivial ?_
          clear hK
          refine anyT_pull [5] 7 1 (by intro c a d v w h; cases d <;> exact h) (by kernel_rfl) trivial ?_
          simp only [opsAt, List.filterMap_cons, List.filterMap_nil, List.getElem?_cons_zero, List.getElem?_cons_succ]
          apply held_step
          · kernel_rfl
          · rintro _ _
            go_simp
            rfl
          refine held_nil ?_
          apply anyT_one 6
          · rfl
          · kernel_rfl
          · kernel_rfl
          intro K hK
          go_simp
          have hg4 := heap_alloc_new q3w (.cells #[.string ⟨#[]⟩, .int .u64 0, .bool false, .slice none 0 0] 37)
          have ha4 := below_alloc1 q3w (.cells #[.string ⟨#[]⟩, .int .u64 0, .bool false, .slice none 0 0] 37)
          have hr4 := hr3.below ha4
          have hoo4 := hoo3.trans (Oth.of_below ha4)
          have hne4 : bk ≠ q3w.heap.size := Nat.ne_of_lt (Nat.lt_of_lt_of_le hbk1 hoo3.size)
          have hge4 : w1.heap.size ≤ q3w.heap.size := hoo3.size
          refine hK _ _ trivial ?_
          clear hK
          generalize hgw4 : q3w.alloc (.cells #[.string ⟨#[]⟩, .int .u64 0, .bool false, .slice none 0 0] 37) = q4w at *
          generalize hgs4 : q3w.heap.size = g3 at *
          clear hgw4 ha4 hgs4
          refine anyT_done (by kernel_rfl) ?_
          simp only [opsAt, List.filterMap_cons, List.filterMap_nil, List.getElem?_cons_zero, List.getElem?_cons_succ]
          obtain ⟨k0, k1, k2', k3', kf⟩ := cells4 hg4
          have HG := Lib.hid hg4
          have HRR := Lib.hid hr4
          have HOO := Lib.hid hoo4
          have HGE := Lib.hid hge4
          have HNE := Lib.hid hne4
          go_wp2
          go_meet
          exact fin_box HG.out HRR.out HOO.out HGE.out HNE.out
        · go_simp
          have hg5 := heap_alloc_new q1w (.cells #[.string ⟨#[]⟩, .int .u64 0, .bool false, .slice none 0 0] 37)
          have ha5 := below_alloc1 q1w (.cells #[.string ⟨#[]⟩, .int .u64 0, .bool false, .slice none 0 0] 37)
          have hr5 := hr1.below ha5
          have hoo5 := hoo1.trans (Oth.of_below ha5)
          have hne5 : bk ≠ q1w.heap.size := Nat.ne_of_lt (Nat.lt_of_lt_of_le hbk1 hoo1.size)
          have hge5 : w1.heap.size ≤ q1w.heap.size := hoo1.size
          refine hK _ _ trivial ?_
          clear hK
          generalize hgw5 : q1w.alloc (.cells #[.string ⟨#[]⟩, .int .u64 0, .bool false, .slice none 0 0] 37) = q5w at *
          generalize hgs5 : q1w.heap.size = g3 at *
          clear hgw5 ha5 hgs5
          apply anyT_one 4
          · rfl
          · kernel_rfl
          · kernel_rfl
          intro K hK
          go_simp
          refine (HK2.out q5w hr5).mono ?_
          rintro en q6w ⟨rfl, hr6, ho6⟩
          have hoo6 := hoo5.trans ho6
          have hg6 := (ho6.block _ (Array.getElem?_eq_some_iff.1 hg5).1 (fun x hx => by cases hx; exact hne5)).trans hg5
          refine hK _ _ trivial ?_
          clear hK
          refine anyT_pull [5] 7 0 (by intro c a d v w h; cases d <;> exact h) (by kernel_rfl) trivial ?_
          simp only [opsAt, List.filterMap_cons, List.filterMap_nil, List.getElem?_cons_zero, List.getElem?_cons_succ]
          apply held_step
          · kernel_rfl
          · rintro _ _
            go_simp
            rfl
          refine held_nil ?_
          refine anyT_done (by kernel_rfl) ?_
          simp only [opsAt, List.filterMap_cons, List.filterMap_nil, List.getElem?_cons_zero, List.getElem?_cons_succ]
          obtain ⟨k0, k1, k2', k3', kf⟩ := cells4 hg6
          have HG := Lib.hid hg6
          have HRR := Lib.hid hr6
          have HOO := Lib.hid hoo6
          have HGE := Lib.hid hge5
          have HNE := Lib.hid hne5
          go_wp2
          go_meet
          exact fin_box HG.out HRR.out HOO.out HGE.out HNE.out
      · go_simp
        refine (HK2.out q1w hr1).mono ?_
        rintro en q7w ⟨rfl, hr7, ho7⟩
        have hoo7 := hoo1.trans ho7
        have hb7 := hr1.keep ho7 hb1
        refine hK _ _ trivial ?_
        clear hK
        refine anyT_two 2 6 rfl rfl (by kernel_rfl) (by kernel_rfl) (by kernel_rfl) (fun K hK => ?_) (fun K hK => ?_)
        · have v2 := conv_bytes hb7
          go_simp
          refine hK _ _ trivial ?_
          clear hK v2
          refine anyT_pull [5] 7 1 (by intro c a d v w h; cases d <;> exact h) (by kernel_rfl) trivial ?_
          simp only [opsAt, List.filterMap_cons, List.filterMap_nil, List.getElem?_cons_zero, List.getElem?_cons_succ]
          apply held_step
          · kernel_rfl
          · rintro _ _
            go_simp
            rfl
          refine held_nil ?_
          apply anyT_one 6
          · rfl
          · kernel_rfl
          · kernel_rfl
          intro K hK
          go_simp
          have hg9 := heap_alloc_new q7w (.cells #[.string ⟨#[]⟩, .int .u64 0, .bool false, .slice none 0 0] 37)
          have ha9 := below_alloc1 q7w (.cells #[.string ⟨#[]⟩, .int .u64 0, .bool false, .slice none 0 0] 37)
          have hr9 := hr7.below ha9
          have hoo9 := hoo7.trans (Oth.of_below ha9)
          have hne9 : bk ≠ q7w.heap.size := Nat.ne_of_lt (Nat.lt_of_lt_of_le hbk1 hoo7.size)
          have hge9 : w1.heap.size ≤ q7w.heap.size := hoo7.size
          refine hK _ _ trivial ?_
          clear hK
          generalize hgw9 : q7w.alloc (.cells #[.string ⟨#[]⟩, .int .u64 0, .bool false, .slice none 0 0] 37) = q9w at *
          generalize hgs9 : q7w.heap.size = g3 at *
          clear hgw9 ha9 hgs9
          refine anyT_done (by kernel_rfl) ?_
          simp only [opsAt, List.filterMap_cons, List.filterMap_nil, List.getElem?_cons_zero, List.getElem?_cons_succ]
          obtain ⟨k0, k1, k2', k3', kf⟩ := cells4 hg9
          have HG := Lib.hid hg9
          have HRR := Lib.hid hr9
          have HOO := Lib.hid hoo9
          have HGE := Lib.hid hge9
          have HNE := Lib.hid hne9
          go_wp2
          go_meet
          exact fin_box HG.out HRR.out HOO.out HGE.out HNE.out
        · go_simp
          have hg10 := heap_alloc_new q7w (.cells #[.string ⟨#[]⟩, .int .u64 0, .bool false, .slice none 0 0] 37)
          have ha10 := below_alloc1 q7w (.cells #[.string ⟨#[]⟩, .int .u64 0, .bool false, .slice none 0 0] 37)
          have hr10 := hr7.below ha10
          have hoo10 := hoo7.trans (Oth.of_below ha10)
          have hne10 : bk ≠ q7w.heap.size := Nat.ne_of_lt (Nat.lt_of_lt_of_le hbk1 hoo7.size)
          have hge10 : w1.heap.size ≤ q7w.heap.size := hoo7.size
          have hb10 := hb7.below ha10
          refine hK _ _ trivial ?_
          clear hK
          generalize hgw10 : q7w.alloc (.cells #[.string ⟨#[]⟩, .int .u64 0, .bool false, .slice none 0 0] 37) = q10w at *
          generalize hgs10 : q7w.heap.size = g3 at *
          clear hgw10 ha10 hgs10
          apply anyT_one 2
          · rfl
          · kernel_rfl
          · kernel_rfl
          intro K hK
          have v2 := conv_bytes hb10
          go_simp
          refine hK _ _ trivial ?_
          clear hK v2
          refine anyT_pull [5] 7 0 (by intro c a d v w h; cases d <;> exact h) (by kernel_rfl) trivial ?_
          simp only [opsAt, List.filterMap_cons, List.filterMap_nil, List.getElem?_cons_zero, List.getElem?_cons_succ]
          apply held_step
          · kernel_rfl
          · rintro _ _
            go_simp
            rfl
          refine held_nil ?_
          refine anyT_done (by kernel_rfl) ?_
          simp only [opsAt, List.filterMap_cons, List.filterMap_nil, List.getElem?_cons_zero, List.getElem?_cons_succ]
          obtain ⟨k0, k1, k2', k3', kf⟩ := cells4 hg10
          have HG := Lib.hid hg10
          have HRR := Lib.hid hr10
          have HOO := Lib.hid hoo10
          have HGE := Lib.hid hge10
          have HNE := Lib.hid hne10
          go_wp2
          go_meet
          exact fin_box HG.out HRR.out HOO.out HGE.out HNE.out
      · go_simp
        have hg12 := heap_alloc_new q1w (.cells #[.string ⟨#[]⟩, .int .u64 0, .bool false, .slice none 0 0] 37)
        have ha12 := below_alloc1 q1w (.cells #[.string ⟨#[]⟩, .int .u64 0, .bool false, .slice none 0 0] 37)
        have hr12 := hr1.below ha12
        have hoo12 := hoo1.trans (Oth.of_below ha12)
        have hne12 : bk ≠ q1w.heap.size := Nat.ne_of_lt (Nat.lt_of_lt_of_le hbk1 hoo1.size)
        have hge12 : w1.heap.size ≤ q1w.heap.size := hoo1.size
        have hb12 := hb1.below ha12
        refine hK _ _ trivial ?_
        clear hK
        generalize hgw12 : q1w.alloc (.cells #[.string ⟨#[]⟩, .int .u64 0, .bool false, .slice none 0 0] 37) = q12w at *
        generalize hgs12 : q1w.heap.size = g3 at *
        clear hgw12 ha12 hgs12
        refine anyT_two 2 4 rfl rfl (by kernel_rfl) (by kernel_rfl) (by kernel_rfl) (fun K hK => ?_) (fun K hK => ?_)
        · have v2 := conv_bytes hb12
          go_simp
          refine hK _ _ trivial ?_
          clear hK v2
          apply anyT_one 4
          · rfl
          · kernel_rfl
          · kernel_rfl
          intro K hK
          go_simp
          refine (HK2.out q12w hr12).mono ?_
          rintro en q14w ⟨rfl, hr14, ho14⟩
          have hoo14 := hoo12.trans ho14
          have hg14 := (ho14.block _ (Array.getElem?_eq_some_iff.1 hg12).1 (fun x hx => by cases hx; exact hne12)).trans hg12
          refine hK _ _ trivial ?_
          clear hK
          refine anyT_pull [5] 7 0 (by intro c a d v w h; cases d <;> exact h) (by kernel_rfl) trivial ?_
          simp only [opsAt, List.filterMap_cons, List.filterMap_nil, List.getElem?_cons_zero, List.getElem?_cons_succ]
          apply held_step
          · kernel_rfl
          · rintro _ _
            go_simp
            rfl
          refine held_nil ?_
          refine anyT_done (by kernel_rfl) ?_
          simp only [opsAt, List.filterMap_cons, List.filterMap_nil, List.getElem?_cons_zero, List.getElem?_cons_succ]
          obtain ⟨k0, k1, k2', k3', kf⟩ := cells4 hg14
          have HG := Lib.hid hg14
          have HRR := Lib.hid hr14
          have HOO := Lib.hid hoo14
          have HGE := Lib.hid hge12
          have HNE := Lib.hid hne12
          go_wp2
          go_meet
          exact fin_box HG.out HRR.out HOO.out HGE.out HNE.out
        · go_simp
          refine (HK2.out q12w hr12).mono ?_
          rintro en q15w ⟨rfl, hr15, ho15⟩
          have hoo15 := hoo12.trans ho15
          have hg15 := (ho15.block _ (Array.getElem?_eq_some_iff.1 hg12).1 (fun x hx => by cases hx; exact hne12)).trans hg12
          have hb15 := hr12.keep ho15 hb12
          refine hK _ _ trivial ?_
          clear hK
          apply anyT_one 2
          · rfl
          · kernel_rfl
          · kernel_rfl
          intro K hK
          have v2 := conv_bytes hb15
          go_simp
          refine hK _ _ trivial ?_
          clear hK v2
          refine anyT_pull [5] 7 0 (by intro c a d v w h; cases d <;> exact h) (by kernel_rfl) trivial ?_
          simp only [opsAt, List.filterMap_cons, List.filterMap_nil, List.getElem?_cons_zero, List.getElem?_cons_succ]
          apply held_step
          · kernel_rfl
          · rintro _ _
            go_simp
            rfl
          refine held_nil ?_
          refine anyT_done (by kernel_rfl) ?_
          simp only [opsAt, List.filterMap_cons, List.filterMap_nil, List.getElem?_cons_zero, List.getElem?_cons_succ]
          obtain ⟨k0, k1, k2', k3', kf⟩ := cells4 hg15
          have HG := Lib.hid hg15
          have HRR := Lib.hid hr15
          have HOO := Lib.hid hoo15
          have HGE := Lib.hid hge12
          have HNE := Lib.hid hne12
          go_wp2
          go_meet
          exact fin_box HG.out HRR.out HOO.out HGE.out HNE.out
    · go_simp
      have hg17 := heap_alloc_new wD (.cells #[.string ⟨#[]⟩, .int .u64 0, .bool false, .slice none 0 0] 37)
      have ha17 := below_alloc1 wD (.cells #[.string ⟨#[]⟩, .int .u64 0, .bool false, .slice none 0 0] 37)
      have hr17 := HRD.below ha17
      have hoo17 := HOD.trans (Oth.of_below ha17)
      have hne17 : bk ≠ wD.heap.size := Nat.ne_of_lt (Nat.lt_of_lt_of_le hbk1 HOD.size)
      have hge17 : w1.heap.size ≤ wD.heap.size := HOD.size
      refine hK _ _ trivial ?_
      clear hK
      generalize hgw17 : wD.alloc (.cells #[.string ⟨#[]⟩, .int .u64 0, .bool false, .slice none 0 0] 37) = q17w at *
      generalize hgs17 : wD.heap.size = g3 at *
      clear hgw17 ha17 hgs17
      apply anyT_one 1
      · rfl
      · kernel_rfl
      · kernel_rfl
      intro K hK
      go_simp
      refine (HK1.out q17w hr17).mono ?_
      rintro en q18w ⟨a2, n2, k2, rfl, hb18, hr18, ho18⟩
      have hoo18 := hoo17.trans ho18
      have hg18 := (ho18.block _ (Array.getElem?_eq_some_iff.1 hg17).1 (fun x hx => by cases hx; exact hne17)).trans hg17
      refine hK _ _ trivial ?_
      clear hK
      refine anyT_two 2 4 rfl rfl (by kernel_rfl) (by kernel_rfl) (by kernel_rfl) (fun K hK => ?_) (fun K hK => ?_)
      · have v2 := conv_bytes hb18
        go_simp
        refine hK _ _ trivial ?_
        clear hK v2
        apply anyT_one 4
        · rfl
        · kernel_rfl
        · kernel_rfl
        intro K hK
        go_simp
        refine (HK2.out q18w hr18).mono ?_
        rintro en q20w ⟨rfl, hr20, ho20⟩
        have hoo20 := hoo18.trans ho20
        have hg20 := (ho20.block _ (Array.getElem?_eq_some_iff.1 hg18).1 (fun x hx => by cases hx; exact hne17)).trans hg18
        refine hK _ _ trivial ?_
        clear hK
        refine anyT_pull [5] 7 0 (by intro c a d v w h; cases d <;> exact h) (by kernel_rfl) trivial ?_
        simp only [opsAt, List.filterMap_cons, List.filterMap_nil, List.getElem?_cons_zero, List.getElem?_cons_succ]
        apply held_step
        · kernel_rfl
        · rintro _ _
          go_simp
          rfl
        refine held_nil ?_
        refine anyT_done (by kernel_rfl) ?_
        simp only [opsAt, List.filterMap_cons, List.filterMap_nil, List.getElem?_cons_zero, List.getElem?_cons_succ]
        obtain ⟨k0, k1, k2', k3', kf⟩ := cells4 hg20
        have HG := Lib.hid hg20
        have HRR := Lib.hid hr20
        have HOO := Lib.hid hoo20
        have HGE := Lib.hid hge17
        have HNE := Lib.hid hne17
        go_wp2
        go_meet
        exact fin_box HG.out HRR.out HOO.out HGE.out HNE.out
      · go_simp
        refine (HK2.out q18w hr18).mono ?_
        rintro en q21w ⟨rfl, hr21, ho21⟩
        have hoo21 := hoo18.trans ho21
        have hg21 := (ho21.block _ (Array.getElem?_eq_some_iff.1 hg18).1 (fun x hx => by cases hx; exact hne17)).trans hg18
        have hb21 := hr18.keep ho21 hb18
        refine hK _ _ trivial ?_
        clear hK
        apply anyT_one 2
        · rfl
        · kernel_rfl
        · kernel_rfl
        intro K hK
        have v2 := conv_bytes hb21
        go_simp
        refine hK _ _ trivial ?_
        clear hK v2
        refine anyT_pull [5] 7 0 (by intro c a d v w h; cases d <;> exact h) (by kernel_rfl) trivial ?_
        simp only [opsAt, List.filterMap_cons, List.filterMap_nil, List.getElem?_cons_zero, List.getElem?_cons_succ]
        apply held_step
        · kernel_rfl
        · rintro _ _
          go_simp
          rfl
        refine held_nil ?_
        refine anyT_done (by kernel_rfl) ?_
        simp only [opsAt, List.filterMap_cons, List.filterMap_nil, List.getElem?_cons_zero, List.getElem?_cons_succ]
        obtain ⟨k0, k1, k2', k3', kf⟩ := cells4 hg21
        have HG := Lib.hid hg21
        have HRR := Lib.hid hr21
        have HOO := Lib.hid hoo21
        have HGE := Lib.hid hge17
        have HNE := Lib.hid hne17
        go_wp2
        go_meet
        exact fin_box HG.out HRR.out HOO.out HGE.out HNE.out
  case rest =>
  obtain ⟨g3, rfl, hg3, HG, HR2, HO2⟩ := hcut
  clear HK1 HK2 HR1 HD1 HD2 HE1 HE2
  have hne : bk ≠ g3 := by omega
  have hzn : w.heap.size < w1.heap.size := (Array.getElem?_eq_some_iff.1 HZ1.out).1
  have HZ2 := Lib.hid ((HO2.out.block w.heap.size hzn (fun x hx => by cases hx; simp only; omega)).trans HZ1.out)
  have hx1 : decide ((1 : Int) < n8 (nth r2 0)) = false := by rw [hr2]; cases e.gone <;> rfl
  have hx2 : (n8 (nth r2 0) == 1) = e.gone := by rw [hr2]; cases e.gone <;> rfl
  have hr2p : 1 ≤ r2.length := by rw [hr2, List.length_append]; omega
  have HD3 : Hid (r2.drop 1 = Sst.lp e.val ++ rest) := Lib.hid (by rw [hr2]; cases e.gone <;> rfl)
  have HD4 : Hid ((Sst.lp e.val ++ rest).drop (Sst.lp e.val).length = rest) := Lib.hid List.drop_left
  have HRB := Lib.hid (rdBytes_lp (x := e.val) (r := rest) (most := 33554432) hv (by omega))
  clear hr2
  obtain ⟨a, n, c, q1, q2⟩ := HR2.out
  have hn := q2.1
  obtain ⟨b0, o0, rfl, hb0⟩ := q2.2.2.2.byte (i := 0) (by omega)
  have hnp : 1 ≤ n := by omega
  have hn9 : n ≤ 1000000000 := by omega
  have tn0 : ((n : Int) == 0) = false := by rw [beq_eq_false_iff_ne]; omega
  obtain ⟨c0, c1, cf⟩ := cells2 q1
  have HQ1 := Lib.hid q1
  have HQ2 := Lib.hid q2
  have HN := Lib.hid hn
  obtain ⟨y, hy⟩ : ∃ y, nth r2 0 = y := ⟨_, rfl⟩
  rw [hy] at hx1 hx2 hb0
  rw [Nat.add_zero] at hb0
  have HY := Lib.hid hy
  clear q1 q2 hn hy
  go_upto_region 3 with fail
  have HOS : Hid (Oth (some ⟨bk, 0, none⟩) wc (wc.setCell ⟨bk, 1, none⟩ (.bool false))) := Lib.hid ((Oth.refl _ wc).set (p := ⟨bk, 1, none⟩) (x := ⟨bk, 0, none⟩) rfl rfl _)
  have HQS : Hid ((wc.setCell ⟨bk, 1, none⟩ (.bool false)).heap[bk]? = some (.cells #[.slice (some ⟨b0, o0, none⟩) n c, .bool false] 143 (0, 0))) := Lib.hid (heap_set HQ1.out)
  obtain ⟨w3, hw3⟩ : ∃ w3, wc.setCell ⟨bk, 1, none⟩ (.bool false) = w3 := ⟨_, rfl⟩
  rw [hw3] at HOS HQS
  first | rw [hw3] | skip
  have HW3 := Lib.hid hw3
  clear hw3 c0 c1 cf hb0
  obtain ⟨c0, c1, cf⟩ := cells2 HQS.out
  have HB3 := Lib.hid (HQ2.out.notin HOS.out HQ1.out no_rd)
  have HR3 : Hid (RS w3 bk r2) := Lib.hid ⟨_, _, _, HQS.out, HB3.out⟩
  have HG3 := Lib.hid ((HOS.out.block g3 (Array.getElem?_eq_some_iff.1 HG.out).1 (fun x hx => by cases hx; exact hne)).trans HG.out)
  have HZ3 := Lib.hid ((HOS.out.block w.heap.size (Array.getElem?_eq_some_iff.1 HZ2.out).1 (fun x hx => by cases hx; simp only; omega)).trans HZ2.out)
  have HO3 := Lib.hid (HO2.out.trans HOS.out)
  obtain ⟨k0, k1, k2, k3, kf⟩ := cells4 HG3.out
  have hb0 : w3.cell? ⟨b0, o0, none⟩ = some (.int .u8 (n8 y)) := by
    obtain ⟨b', o', ea, hc⟩ := HB3.out.2.2.2.byte (i := 0) (by omega)
    cases ea
    rw [Nat.add_zero] at hc
    rw [hc, HY.out]
  go_upto_region 6 with fail
  have HOG : Hid (Oth (some ⟨g3, 0, none⟩) w3 (w3.setCell ⟨g3, 2, none⟩ (.bool e.gone))) := Lib.hid ((Oth.refl _ w3).set (p := ⟨g3, 2, none⟩) (x := ⟨g3, 0, none⟩) rfl rfl _)
  have HGS : Hid ((w3.setCell ⟨g3, 2, none⟩ (.bool e.gone)).heap[g3]? = some (.cells #[.string (bstr e.key), .int .u64 e.seq, .bool e.gone, .slice none 0 0] 37 (0, 0))) := Lib.hid (heap_set HG3.out)
  obtain ⟨w4, hw4⟩ : ∃ w4, w3.setCell ⟨g3, 2, none⟩ (.bool e.gone) = w4 := ⟨_, rfl⟩
  rw [hw4] at HOG HGS
  first | rw [hw4] | skip
  clear hw4 c0 c1 cf hb0 k0 k1 k2 k3 kf
  have HR4 := Lib.hid (HR3.out.other HOG.out HG3.out hne)
  have HZ4 := Lib.hid ((HOG.out.block w.heap.size (Array.getElem?_eq_some_iff.1 HZ3.out).1 (fun x hx => by cases hx; simp only; omega)).trans HZ3.out)
  go_wp2_with fail
  refine (take_ok bk 1 r2 w4 HR4.out hr2p).mono ?_
  rintro en w5 ⟨rfl, hr5, ho5⟩
  rw [HD3.out] at hr5
  have HR5 := Lib.hid hr5
  have HO5 := Lib.hid ho5
  have HG5 := Lib.hid ((ho5.block g3 (Array.getElem?_eq_some_iff.1 HGS.out).1 (fun x hx => by cases hx; exact hne)).trans HGS.out)
  have HZ5 := Lib.hid ((ho5.block w.heap.size (Array.getElem?_eq_some_iff.1 HZ4.out).1 (fun x hx => by cases hx; simp only; omega)).trans HZ4.out)
  clear hr5 ho5
  go_wp2_with fail
  refine (rbytes_ok bk _ e.val (Sst.lp e.val).length 33554432 w5 HR5.out HRB.out (by rw [List.length_append]; omega) (by rw [List.length_append]; omega) (by omega)).mono ?_
  rintro en w6 ⟨a6, n6, k6, rfl, hb6, hr6, ho6⟩
  rw [HD4.out] at hr6
  obtain rfl : n6 = e.val.length := hb6.1.symm
  have HR6 := Lib.hid hr6
  have HB6 := Lib.hid hb6
  have HG6 := Lib.hid ((ho6.block g3 (Array.getElem?_eq_some_iff.1 HG5.out).1 (fun x hx => by cases hx; exact hne)).trans HG5.out)
  have HZ6 := Lib.hid ((ho6.block w.heap.size (Array.getElem?_eq_some_iff.1 HZ5.out).1 (fun x hx => by cases hx; simp only; omega)).trans HZ5.out)
  have HO56 := Lib.hid (HO5.out.trans ho6)
  obtain ⟨k0, k1, k2, k3, kf⟩ := cells4 HG6.out
  clear hb6 hr6 ho6
  go_upto_region 8 with fail
  have HOH : Hid (Oth (some ⟨g3, 0, none⟩) w6 (w6.setCell ⟨g3, 3, none⟩ (.slice a6 e.val.length k6))) := Lib.hid ((Oth.refl _ w6).set (p := ⟨g3, 3, none⟩) (x := ⟨g3, 0, none⟩) rfl rfl _)
  have HGH : Hid ((w6.setCell ⟨g3, 3, none⟩ (.slice a6 e.val.length k6)).heap[g3]? = some (.cells #[.string (bstr e.key), .int .u64 e.seq, .bool e.gone, .slice a6 e.val.length k6] 37 (0, 0))) := Lib.hid (heap_set HG6.out)
  obtain ⟨w7, hw7⟩ : ∃ w7, w6.setCell ⟨g3, 3, none⟩ (.slice a6 e.val.length k6) = w7 := ⟨_, rfl⟩
  rw [hw7] at HOH HGH
  first | rw [hw7] | skip
  clear hw7 k0 k1 k2 k3 kf
  have HR7 := Lib.hid (HR6.out.other HOH.out HG6.out hne)
  have HB7 := Lib.hid (HB6.out.notin HOH.out HG6.out no_ent)
  have HZ7 := Lib.hid ((HOH.out.block w.heap.size (Array.getElem?_eq_some_iff.1 HZ6.out).1 (fun x hx => by cases hx; simp only; omega)).trans HZ6.out)
  obtain ⟨k0, k1, k2, k3, kf⟩ := cells4 HGH.out
  obtain ⟨z0, z1, z2, z3, zf⟩ := cells4 HZ7.out
  go_wp2
  obtain ⟨hs4, hoth⟩ := set4 (.string (bstr e.key)) (.int .u64 e.seq) (.bool e.gone) (.slice a6 e.val.length k6) HZ7.out
  have hbw : bk ≠ w.heap.size := by omega
  have hP1 := HB7.out.notin hoth HZ7.out no_ent
  have hP2 := HR7.out.other hoth HZ7.out hbw
  have hP3 := oth_chain HB1.out HO3.out HOG.out HO56.out HOH.out hoth hg3
  generalize World.setCell _ _ _ = W9 at *
  obtain ⟨y0, y1, y2, y3, _⟩ := cells4 hs4
  exact bodyPost_ret (v := ev e a6 k6) (by simp [results, Tryz.results83, go_sem, y0, y1, y2, y3, ev]) rfl ⟨⟨a6, k6, rfl, hP1⟩, hP2, hP3⟩
end Go.Proofs.YtjigfinpbdglnaaGreatDoor
