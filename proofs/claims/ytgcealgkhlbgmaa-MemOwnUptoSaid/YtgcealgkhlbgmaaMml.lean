/- The reference's Newest, From, Size, Height. -/
import Derived.Test.YtgcealgkhlbgmaaMmk
import Derived.Test.YtgcealgkhlbgmaaMmf
namespace Go.Proofs.Ytgcealgkhlbgmaa
open Go.RowKit
set_option linter.unusedVariables false

/-- The first version of a key up to a number. -/
def Ent.firstAt (l : List Ent) (key : List UInt8) (up : Nat) : Option Ent := l.find? (fun x => decide (x.key = key ∧ x.seq ≤ up))
/-- An entry, its bytes somewhere, or none. -/
def RNew (w : World) (o : Option Ent) (e : Ending) (w' : World) : Prop :=
  Below w.heap.size w w' ∧ match o with
    | some x => ∃ a c, e = .returned (.tuple #[ev x a c, .bool true]) ∧ Bs w' a x.val.length c x.val
    | none => e = .returned (.tuple #[ev default none 0, .bool false])
theorem find_at {α : Type} [Inhabited α] {p : α → Bool} {l : List α} {k : Nat} (hk : k < l.length) (hlo : ∀ i, i < k → p (nth l i) = false) (hat : p (nth l k) = true) : l.find? p = some (nth l k) := by
  rw [List.find?_eq_some_iff_getElem]
  exact ⟨hat, k, hk, (nth_eq _ hk).symm, fun j hj => by rw [← nth_eq _ (by omega)]; simp [hlo j hj]⟩
theorem find_no {α : Type} [Inhabited α] {p : α → Bool} {l : List α} (hlo : ∀ i, i < l.length → p (nth l i) = false) : l.find? p = none := by
  rw [List.find?_eq_none]
  intro x hx
  obtain ⟨i, hi, rfl⟩ := List.mem_iff_getElem.1 hx
  have := hlo i hi
  rw [nth_eq _ hi] at this
  simp [this]
set_option maxHeartbeats 2000000 in
theorem refnewest_any (a : Option Addr) (n c : Nat) (l : List Ent) (key : List UInt8) (up : Nat) (w : World) (h : Es w a n c l) :
    Calls Try.prog 27 #[.slice a n c, .string (bstr key), .int .u64 up] w (RNew w (Ent.firstAt l key up)) := by
  have hle := h.le.1
  have HN := Lib.hid h.1
  have HE := Lib.hid h
  clear h
  go_enter Try.func27, Try.ntmps27
  go_upto_region 1 with fail
  have hb0 := below_alloc1 w (.cells #[.string ⟨#[]⟩, .int .u64 0, .bool false, .slice none 0 0] 30)
  have hx0 := load_box w default none 0
  have hf0 : ∀ j, (w.alloc (.cells #[.string ⟨#[]⟩, .int .u64 0, .bool false, .slice none 0 0] 30)).frozen? ⟨w.heap.size, j, none⟩ = false := fun j => (frozen?_alloc_cells _ _ _ _).trans (by simp [World.frozen?])
  obtain ⟨W0, hW0⟩ : ∃ W0, w.alloc (.cells #[.string ⟨#[]⟩, .int .u64 0, .bool false, .slice none 0 0] 30) = W0 := ⟨_, rfl⟩
  have e1 : w.alloc (.cells #[.string (bstr (default : Ent).key), .int .u64 (default : Ent).seq, .bool (default : Ent).gone, .slice none (default : Ent).val.length 0] 30) = W0 := hW0
  rw [e1] at hx0
  rw [hW0] at hb0 hf0 ⊢
  have hz0 : W0.heap.size = w.heap.size + 1 := by rw [← hW0]; exact World.size_alloc _ _
  have HX0 := Lib.hid hx0
  have HB0 := Lib.hid hb0
  have HF0 := Lib.hid hf0
  clear hW0 e1 hb0 hx0 hf0
  go_wp2_with fail
  go_loopw [8] (fun i wr => ∃ k : Nat, k ≤ n ∧ i = .int .i64 k ∧ Hid (∀ j, j < k → decide ((nth l j).key = key ∧ (nth l j).seq ≤ up) = false) ∧ Hid (Below W0.heap.size W0 wr)) (fun i _ => n - (intOf i).toNat)
  case atStart => exact ⟨0, Nat.zero_le _, rfl, Lib.hid (fun j hj => by omega), Lib.hid (Below.refl _ _)⟩
  case round =>
    obtain ⟨k, hk, rfl, hlo, hbw⟩ := hrel
    have HLO := Lib.hid hlo.out
    have HBW := Lib.hid hbw.out
    have hsz := hbw.out.size
    clear hlo
    by_cases hlt : k < n
    · obtain ⟨b, off, ax, cx, rfl, hex, hvx⟩ := ((HE.out.below HB0.out).below hbw.out).vals hlt
      have HP : Hid ((nth l k).key = key ∧ (nth l k).seq ≤ up → Ent.firstAt l key up = some (nth l k)) := Lib.hid fun hp => find_at (by rw [HN.out]; exact hlt) HLO.out (decide_eq_true hp)
      have HQ : Hid (¬ ((nth l k).key = key ∧ (nth l k).seq ≤ up) → ∀ j, j < k + 1 → decide ((nth l j).key = key ∧ (nth l j).seq ≤ up) = false) := Lib.hid fun hp j hj => by
        by_cases e : j = k
        · rw [e]; exact decide_eq_false hp
        · exact HLO.out j (by omega)
      have p1 := hex.key
      have p2 := hex.seq
      have p3 := hex.gone
      have p4 := hex.val
      have HVX := Lib.hid hvx
      have hxr := HX0.out.below hbw.out
      have HXR := Lib.hid hxr
      have x2 := hxr.seq
      have x3 := hxr.gone
      have x1 := hxr.key
      have x4 := hxr.val
      have hfr : ∀ j, wr.frozen? ⟨w.heap.size, j, none⟩ = false := fun j => (hbw.out.frozen (p := ⟨w.heap.size, j, none⟩) (by show w.heap.size < _; omega)).trans (HF0.out j)
      obtain ⟨x, hx⟩ : ∃ x, x = nth l k := ⟨_, rfl⟩
      rw [← hx] at HP HQ p1 p2 p3 p4 HVX
      clear hx hex hvx hxr hbw
      by_cases hke : x.key = key
      · have t1 : ((bstr x.key).toList == (bstr key).toList) = true := by rw [bstr_beq]; exact decide_eq_true hke
        by_cases hse : x.seq ≤ up
        · have t2 : decide (x.seq ≤ up) = true := decide_eq_true hse
          have HFI := Lib.hid (HP.out ⟨hke, hse⟩)
          clear hke hse
          have hst := put4_at (e := x) (a := ax) (c := cx) HXR.out
          have y1 := hst.key
          have y2 := hst.seq
          have y3 := hst.gone
          have y4 := hst.val
          simp only [Nat.zero_add] at y1 y2 y3 y4
          unfold put4 at y1 y2 y3 y4
          have HK := Lib.hid ((Keep.refl [w.heap.size] wr).put4 (e := x) (a := ax) (c := cx) (.inr ⟨List.mem_singleton.2 rfl, HXR.out⟩))
          have HV4 := Lib.hid (HVX.out.keep HK.out)
          have HBE := Lib.hid ((HB0.out.trans (HBW.out.mono HB0.out.size)).trans (HK.out.below (B := w.heap.size) (fun b hb => by rw [List.mem_singleton.1 hb]; exact Nat.le_refl _) (by omega)))
          go_wp2
          refine bodyPost_ret (v := .tuple #[ev x ax cx, .bool true]) (by simp [results, Try.results27, go_sem, ev, y1, y2, y3, y4]) rfl ⟨HBE.out, ?_⟩
          rw [HFI.out]
          exact ⟨ax, cx, rfl, HV4.out⟩
        · have t2 : decide (x.seq ≤ up) = false := decide_eq_false hse
          have HNO := Lib.hid (HQ.out (fun hp => hse hp.2))
          clear hke hse
          go_wp2
          go_roundw
          case rel => exact ⟨k + 1, by omega, by go_num, HNO, HBW⟩
          case measure => simp [intOf]; omega
      · have t1 : ((bstr x.key).toList == (bstr key).toList) = false := by rw [bstr_beq]; exact decide_eq_false hke
        have HNO := Lib.hid (HQ.out (fun hp => hke hp.1))
        clear hke
        go_wp2
        go_roundw
        case rel => exact ⟨k + 1, by omega, by go_num, HNO, HBW⟩
        case measure => simp [intOf]; omega
    · obtain rfl : k = n := by omega
      have hfr : ∀ j, wr.frozen? ⟨w.heap.size, j, none⟩ = false := fun j => (hbw.out.frozen (p := ⟨w.heap.size, j, none⟩) (by show w.heap.size < _; omega)).trans (HF0.out j)
      have hxr := HX0.out.below hbw.out
      have x2 := hxr.seq
      have x3 := hxr.gone
      have x1 := hxr.key
      have x4 := hxr.val
      have hst := put4_at (e := default) (a := none) (c := 0) hxr
      have y1 : ((((wr.setCell ⟨w.heap.size, 0, none⟩ (.string ⟨#[]⟩)).setCell ⟨w.heap.size, 1, none⟩ (.int .u64 0)).setCell ⟨w.heap.size, 2, none⟩ (.bool false)).setCell ⟨w.heap.size, 3, none⟩ (.slice none 0 0)).cell? ⟨w.heap.size, 0, none⟩ = some (.string ⟨#[]⟩) := hst.key
      have y2 : ((((wr.setCell ⟨w.heap.size, 0, none⟩ (.string ⟨#[]⟩)).setCell ⟨w.heap.size, 1, none⟩ (.int .u64 0)).setCell ⟨w.heap.size, 2, none⟩ (.bool false)).setCell ⟨w.heap.size, 3, none⟩ (.slice none 0 0)).cell? ⟨w.heap.size, 1, none⟩ = some (.int .u64 0) := hst.seq
      have y3 : ((((wr.setCell ⟨w.heap.size, 0, none⟩ (.string ⟨#[]⟩)).setCell ⟨w.heap.size, 1, none⟩ (.int .u64 0)).setCell ⟨w.heap.size, 2, none⟩ (.bool false)).setCell ⟨w.heap.size, 3, none⟩ (.slice none 0 0)).cell? ⟨w.heap.size, 2, none⟩ = some (.bool false) := hst.gone
      have y4 : ((((wr.setCell ⟨w.heap.size, 0, none⟩ (.string ⟨#[]⟩)).setCell ⟨w.heap.size, 1, none⟩ (.int .u64 0)).setCell ⟨w.heap.size, 2, none⟩ (.bool false)).setCell ⟨w.heap.size, 3, none⟩ (.slice none 0 0)).cell? ⟨w.heap.size, 3, none⟩ = some (.slice none 0 0) := hst.val
      have HK := Lib.hid ((Keep.refl [w.heap.size] wr).put4 (e := default) (a := none) (c := 0) (.inr ⟨List.mem_singleton.2 rfl, hxr⟩))
      have HBE := Lib.hid ((HB0.out.trans (HBW.out.mono HB0.out.size)).trans (HK.out.below (B := w.heap.size) (fun b hb => by rw [List.mem_singleton.1 hb]; exact Nat.le_refl _) (by omega)))
      have HNO : Hid (Ent.firstAt l key up = none) := Lib.hid (find_no (fun i hi => HLO.out i (by have := HN.out; omega)))
      clear hst hxr
      go_wp2
      refine bodyPost_ret (v := .tuple #[ev default none 0, .bool false]) (by simp [results, Try.results27, go_sem, ev, y1, y2, y3, y4]; exact ⟨rfl, rfl, rfl, rfl⟩) rfl ⟨HBE.out, ?_⟩
      rw [HNO.out]
/-- The first place at or behind a key. -/
def Ent.fromAt (l : List Ent) (key : List UInt8) : Nat := l.findIdx (fun x => !Ent.klt x.key key)
theorem findIdx_at {α : Type} [Inhabited α] {p : α → Bool} {l : List α} {k : Nat} (hk : k ≤ l.length) (hlo : ∀ i, i < k → p (nth l i) = false) (hat : k < l.length → p (nth l k) = true) : l.findIdx p = k := by
  rcases Nat.lt_or_ge k l.length with h | h
  · rw [List.findIdx_eq h]
    exact ⟨by rw [← nth_eq _ h]; exact hat h, fun j hj => by rw [← nth_eq _ (by omega)]; exact hlo j hj⟩
  · obtain rfl : k = l.length := by omega
    rw [List.findIdx_eq_length]
    intro x hx
    obtain ⟨i, hi, rfl⟩ := List.mem_iff_getElem.1 hx
    rw [← nth_eq _ hi]
    exact hlo i hi
set_option maxHeartbeats 2000000 in
theorem reffrom_any (a : Option Addr) (n c : Nat) (l : List Ent) (key : List UInt8) (w : World) (h : Es w a n c l) :
    Calls Try.prog 29 #[.slice a n c, .string (bstr key)] w fun e w' => e = .returned (.int .i64 (Ent.fromAt l key : Nat)) ∧ Below w.heap.size w w' := by
  have hle := h.le.1
  have HN := Lib.hid h.1
  have HE := Lib.hid h
  clear h
  go_enter Try.func29, Try.ntmps29
  go_wp2_with fail
  go_loopw [5] (fun i wr => ∃ k : Nat, k ≤ n ∧ i = .int .i64 k ∧ Hid (∀ j, j < k → Ent.klt (nth l j).key key = true) ∧ Hid (Below w.heap.size w wr)) (fun i _ => n - (intOf i).toNat)
  case atStart => exact ⟨0, Nat.zero_le _, rfl, Lib.hid (fun j hj => by omega), Lib.hid (Below.refl _ _)⟩
  case round =>
    obtain ⟨k, hk, rfl, hlo, hbw⟩ := hrel
    have HLO := Lib.hid hlo.out
    have HBW := Lib.hid hbw.out
    clear hlo
    by_cases hlt : k < n
    · obtain ⟨b, off, ax, cx, rfl, hex, hvx⟩ := (HE.out.below hbw.out).vals hlt
      have p1 := hex.key
      have HQ : Hid (Ent.klt (nth l k).key key = true → ∀ j, j < k + 1 → Ent.klt (nth l j).key key = true) := Lib.hid fun hp j hj => by
        by_cases e : j = k
        · rw [e]; exact hp
        · exact HLO.out j (by omega)
      have HR : Hid (Ent.klt (nth l k).key key = false → Ent.fromAt l key = k) := Lib.hid fun hp => findIdx_at (by rw [HN.out]; omega) (fun i hi => by rw [HLO.out i hi]; rfl) (fun _ => by rw [hp]; rfl)
      obtain ⟨x, hx⟩ : ∃ x, x = nth l k := ⟨_, rfl⟩
      rw [← hx] at HQ HR p1
      clear hx hex hvx hbw
      rcases Bool.eq_false_or_eq_true (Ent.klt x.key key) with ht | ht
      · have t1 : Op.bytesLess (bstr x.key).toList (bstr key).toList = true := by rw [bstr_list, bstr_list]; exact ht
        have HNO := Lib.hid (HQ.out ht)
        clear ht
        go_wp2
        go_roundw
        case rel => exact ⟨k + 1, by omega, by go_num, HNO, HBW⟩
        case measure => simp [intOf]; omega
      · have t1 : Op.bytesLess (bstr x.key).toList (bstr key).toList = false := by rw [bstr_list, bstr_list]; exact ht
        have HNO := Lib.hid (HR.out ht)
        clear ht
        go_wp2
        go_ret
        exact ⟨by rw [HNO.out]; rfl, HBW.out⟩
    · obtain rfl : k = n := by omega
      have HNO : Hid (Ent.fromAt l key = k) := Lib.hid (findIdx_at (by rw [HN.out]; omega) (fun i hi => by rw [HLO.out i hi]; rfl) (fun h0 => by rw [HN.out] at h0; omega))
      go_wp2
      go_ret
      exact ⟨by rw [HNO.out]; rfl, HBW.out⟩
theorem costs_snoc (l : List Ent) {i : Nat} (hi : i < l.length) : Ent.costs (l.take (i + 1)) = Ent.costs (l.take i) + ((nth l i).key.length + (nth l i).val.length + 16) := by
  rw [List.take_succ_eq_append_getElem hi, nth_eq _ hi]
  unfold Ent.costs
  simp only [List.map_append, List.map_cons, List.map_nil, List.sum_append, List.sum_cons, List.sum_nil, Ent.cost]
  omega
theorem costs_le (l : List Ent) (i : Nat) : Ent.costs (l.take i) ≤ Ent.costs l := by
  conv => rhs; rw [← List.take_append_drop i l]
  unfold Ent.costs
  simp only [List.map_append, List.sum_append]
  omega
set_option maxHeartbeats 2000000 in
theorem refsize_any (B rb : Nat) (R : List Nat) (ad : Option Addr) (nd cd : Nat) (ld : List Int) (L : List Ent) (hs : List Nat) (w : World) (h : RT w B rb R ad nd cd ld L hs) (hc : Ent.costs L ≤ 1000000000000000) :
    Calls Try.prog 26 #[.pointer (some ⟨rb, 0, none⟩)] w fun e w' => e = .returned (.int .i64 (Ent.costs L)) ∧ Below w.heap.size w w' := by
  obtain ⟨aL, cL, aH, cH, hb, hA, _⟩ := h
  have c1 := cell_of_row _ _ 1 _ _ _ hb
  simp at c1
  have HE := Lib.hid hA.es
  have hle := hA.es.le.1
  have HC := Lib.hid hc
  obtain ⟨n, hn⟩ : ∃ n, n = L.length := ⟨_, rfl⟩
  rw [← hn] at c1 HE hle
  have HN := Lib.hid hn.symm
  clear hb hA hc hn
  go_enter Try.func26, Try.ntmps26
  go_wp2_with fail
  go_loopw [3, 4] (fun s i wr => ∃ k : Nat, k ≤ n ∧ i = .int .i64 k ∧ s = .int .i64 (Ent.costs (L.take k) : Nat) ∧ Hid (Below w.heap.size w wr)) (fun _ i _ => n - (intOf i).toNat)
  case atStart => exact ⟨0, Nat.zero_le _, rfl, rfl, Lib.hid (Below.refl _ _)⟩
  case round =>
    obtain ⟨k, hk, rfl, rfl, hbw⟩ := hrel
    have HBW := Lib.hid hbw.out
    have c1' := cell_later hbw.out c1
    by_cases hlt : k < n
    · obtain ⟨b, off, ax, cx, hae, hex, hvx⟩ := (HE.out.below hbw.out).vals hlt
      subst hae
      have p1 := hex.key
      have p4 := hex.val
      have ht := costs_snoc L (i := k) (by rw [HN.out]; exact hlt)
      have h1 := costs_le L (k + 1)
      have hc := HC.out
      have HT := Lib.hid ht
      obtain ⟨x, hx⟩ : ∃ x, x = nth L k := ⟨_, rfl⟩
      rw [← hx] at p1 p4 HT ht
      have hsz : (bstr x.key).size = x.key.length := by simp [bstr, ByteArray.size]
      have hb : Ent.costs (L.take k) + x.key.length + x.val.length + 16 ≤ 1000000000000000 := by omega
      clear hx hex hvx hbw ht h1 hc
      generalize Ent.costs (L.take k) = s at *
      go_upto_region 5 with fail
      refine wp_region_class (w0 := wr) (by kernel_rfl) (by kernel_rfl) (Below.refl _ _) ?_
      replace p1 := BW.cell p1
      replace p4 := BW.cell p4
      replace c1' := BW.cell c1'
      repeat (first | go_big_quiet_step (fail))
      refine wpQuiet_nil ?_
      intro w9 hb9; replace hb9 := BW.of hb9
      have HB9 := Lib.hid (HBW.out.trans (hb9.mono HBW.out.size))
      clear p1 p4 c1' hb9
      go_wp2
      go_roundw
      case rel => exact ⟨k + 1, by omega, by go_num, by rw [HT.out]; go_num, HB9⟩
      case measure => simp [intOf]; omega
    · obtain rfl : k = n := by omega
      have e1 : Hid (L.take k = L) := Lib.hid (by rw [← HN.out, List.take_length])
      rw [e1.out]
      go_wp2
      go_ret
      exact ⟨rfl, HBW.out⟩
/-- The highest tower. -/
def maxs (hs : List Nat) : Nat := hs.foldl max 0
theorem maxs_snoc (hs : List Nat) {i : Nat} (hi : i < hs.length) : maxs (hs.take (i + 1)) = max (maxs (hs.take i)) (nth hs i) := by
  rw [List.take_succ_eq_append_getElem hi, nth_eq _ hi]
  unfold maxs
  rw [List.foldl_append]
  rfl
set_option maxHeartbeats 2000000 in
theorem refheight_any (B rb : Nat) (R : List Nat) (ad : Option Addr) (nd cd : Nat) (ld : List Int) (L : List Ent) (hs : List Nat) (w : World) (h : RT w B rb R ad nd cd ld L hs) (hh : ∀ x ∈ hs, x ≤ 12) :
    Calls Try.prog 25 #[.pointer (some ⟨rb, 0, none⟩)] w fun e w' => e = .returned (.int .i64 (maxs hs : Nat)) ∧ Below w.heap.size w w' := by
  obtain ⟨aL, cL, aH, cH, hb, _, hH, _⟩ := h
  have c2 := cell_of_row _ _ 2 _ _ _ hb
  simp at c2
  have HR := Lib.hid hH.row.1
  have hcap := own_cap hH
  have HH := Lib.hid hh
  obtain ⟨n, hn⟩ : ∃ n, n = hs.length := ⟨_, rfl⟩
  rw [← hn] at c2 hcap
  have hle : n ≤ 9223372036854775807 := by have := hcap.2; simp [maxLen] at this; omega
  have HN := Lib.hid hn
  clear hb hH hn hh hcap
  go_enter Try.func25, Try.ntmps25
  go_wp2_with fail
  go_loopw [3, 4] (fun s i wr => ∃ k : Nat, k ≤ n ∧ i = .int .i64 k ∧ s = .int .i64 (maxs (hs.take k) : Nat) ∧ Hid (Below w.heap.size w wr)) (fun _ i _ => n - (intOf i).toNat)
  case atStart => exact ⟨0, Nat.zero_le _, rfl, rfl, Lib.hid (Below.refl _ _)⟩
  case round =>
    obtain ⟨k, hk, rfl, rfl, hbw⟩ := hrel
    have HBW := Lib.hid hbw.out
    have c2' := cell_later hbw.out c2
    by_cases hlt : k < n
    · obtain ⟨b, off, hae, hcell⟩ := (HR.out.below hbw.out) k (.int .i64 ((nth hs k : Nat) : Int)) (by
        have := HN.out
        unfold hv
        rw [List.getElem?_map, List.getElem?_eq_getElem (by omega), nth_eq _ (by omega)]
        rfl)
      subst hae
      have HT := Lib.hid (maxs_snoc hs (i := k) (by have := HN.out; omega))
      have hx := HH.out (nth hs k) (by rw [nth_eq _ (by have := HN.out; omega)]; exact List.getElem_mem _)
      generalize nth hs k = x at *
      obtain ⟨m, hm⟩ : ∃ m, m = maxs (hs.take k) := ⟨_, rfl⟩
      rw [← hm] at HT ⊢
      clear hm hbw
      by_cases hgt : m < x
      · have t1 : decide ((m : Int) < (x : Int)) = true := decide_eq_true (by omega)
        have HT2 : Hid (maxs (hs.take (k + 1)) = x) := Lib.hid (by rw [HT.out]; omega)
        go_wp2
        go_roundw
        case rel => exact ⟨k + 1, by omega, by go_num, by rw [HT2.out], HBW⟩
        case measure => simp [intOf]; omega
      · have t1 : decide ((m : Int) < (x : Int)) = false := decide_eq_false (by omega)
        have HT2 : Hid (maxs (hs.take (k + 1)) = m) := Lib.hid (by rw [HT.out]; omega)
        go_wp2
        go_roundw
        case rel => exact ⟨k + 1, by omega, by go_num, by rw [HT2.out], HBW⟩
        case measure => simp [intOf]; omega
    · obtain rfl : k = n := by omega
      have e1 : Hid (hs.take k = hs) := Lib.hid (by rw [HN.out, List.take_length])
      rw [e1.out]
      go_wp2
      go_ret
      exact ⟨rfl, HBW.out⟩
end Go.Proofs.Ytgcealgkhlbgmaa
