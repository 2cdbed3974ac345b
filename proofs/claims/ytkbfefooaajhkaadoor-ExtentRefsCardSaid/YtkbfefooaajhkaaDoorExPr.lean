/- Parts of extents: the reference's way, plain; the reference's Part. -/
import Derived.Test.YtkbfefooaajhkaaDoorExP
set_option maxRecDepth 100000
set_option linter.unusedVariables false
set_option linter.unusedSimpArgs false
namespace Go.Proofs.YtkbfefooaajhkaaDoor
open Go.RowKit

/-! Plain. -/
def Ex.skip (C F T n : Nat) : Bool := decide (F = T) || decide (T ≤ n * C) || decide (n * C + C ≤ F)
def Ex.trim (C F T n : Nat) (x : List UInt8) : List UInt8 := (x.drop (F - n * C)).take (min x.length (T - n * C) - (F - n * C))
def Ex.rgat (L : List Wr) (id : Nat) (h : Hd) (F T : Nat) : Nat → Option (List UInt8)
  | 0 => some []
  | n + 1 => match Ex.rgat L id h F T n with
    | none => none
    | some l => if Ex.skip h.chunk F T n = true then some l else match Ex.chunk L id h n with
      | none => none
      | some x => some (l ++ Ex.trim h.chunk F T n x)
theorem rgat_skip {L : List Wr} {id F T n : Nat} {h : Hd} (hs : Ex.skip h.chunk F T n = true) : Ex.rgat L id h F T (n + 1) = Ex.rgat L id h F T n := by
  show (match Ex.rgat L id h F T n with | none => none | some l => if Ex.skip h.chunk F T n = true then some l else _) = _
  cases Ex.rgat L id h F T n with
  | none => rfl
  | some l => simp only [hs, if_true]
theorem rgat_none {L : List Wr} {id F T n : Nat} {h : Hd} (hs : Ex.skip h.chunk F T n = false) (hc : Ex.chunk L id h n = none) : Ex.rgat L id h F T (n + 1) = none := by
  show (match Ex.rgat L id h F T n with | none => none | some l => if Ex.skip h.chunk F T n = true then some l else _) = _
  cases Ex.rgat L id h F T n with
  | none => rfl
  | some l => simp [hs, hc]
theorem rgat_some {L : List Wr} {id F T n : Nat} {h : Hd} {l x : List UInt8} (hl : Ex.rgat L id h F T n = some l) (hs : Ex.skip h.chunk F T n = false) (hc : Ex.chunk L id h n = some x) : Ex.rgat L id h F T (n + 1) = some (l ++ Ex.trim h.chunk F T n x) := by
  simp only [Ex.rgat, hl, hs, hc]
  simp
theorem rgat_stay {L : List Wr} {id F T n : Nat} {h : Hd} (hn : Ex.rgat L id h F T n = none) : ∀ d, Ex.rgat L id h F T (n + d) = none
  | 0 => hn
  | d + 1 => by
    show (match Ex.rgat L id h F T (n + d) with | none => none | some l => _) = none
    rw [rgat_stay hn d]
theorem rgat_eq {L : List Wr} {id F : Nat} {h : Hd} : ∀ n, Ex.rgat L id h F F n = some []
  | 0 => rfl
  | n + 1 => by rw [rgat_skip (by simp [Ex.skip]), rgat_eq n]
theorem trim_zero {C F T n : Nat} {x : List UInt8} (h1 : n * C ≤ F) (h2 : F < T) : Ex.trim C F T n x = (x.drop (F - n * C)).take (T - F) := by
  unfold Ex.trim
  rcases Nat.le_total x.length (T - n * C) with h | h
  · rw [Nat.min_eq_left h, List.take_of_length_le (by simp), List.take_of_length_le (by simp; omega)]
  · rw [Nat.min_eq_right h]
    congr 1
    omega
theorem trim_late {C F T n : Nat} {x : List UInt8} (h1 : F ≤ n * C) : Ex.trim C F T n x = x.take (T - n * C) := by
  unfold Ex.trim
  rw [show F - n * C = 0 by omega, List.drop_zero, Nat.sub_zero]
  rcases Nat.le_total x.length (T - n * C) with h | h
  · rw [Nat.min_eq_left h, List.take_of_length_le (by simp), List.take_of_length_le h]
  · rw [Nat.min_eq_right h]
theorem rgat_low {L : List Wr} {id F T : Nat} {h : Hd} {K : Nat} (hK : K * h.chunk ≤ F) : ∀ n, n ≤ K → Ex.rgat L id h F T n = some []
  | 0, _ => rfl
  | n + 1, hn => by
    have h1 : (n + 1) * h.chunk ≤ K * h.chunk := Nat.mul_le_mul_right _ hn
    rw [Nat.succ_mul] at h1
    rw [rgat_skip (by unfold Ex.skip; rw [decide_eq_true (show n * h.chunk + h.chunk ≤ F by omega)]; simp), rgat_low hK n (by omega)]
def Ex.tr (C K F T : Nat) (l : List UInt8) : List UInt8 := (l.drop (F - K * C)).take (T - F)
theorem tr_step {C K F T m : Nat} {l x : List UInt8} (hC : 1 ≤ C) (hKF : K * C ≤ F) (hFK : F < K * C + C) (hFT : F < T) (hl : l.length + K * C = (K + m) * C) (hT : (K + m) * C < T) : Ex.tr C K F T l ++ Ex.trim C F T (K + m) x = Ex.tr C K F T (l ++ x) := by
  cases m with
  | zero =>
    have : l = [] := List.eq_nil_of_length_eq_zero (by rw [Nat.add_zero] at hl; omega)
    subst this
    rw [Nat.add_zero, trim_zero hKF hFT]
    simp [Ex.tr]
  | succ m =>
    have h0 : (K + (m + 1)) * C = (K + m) * C + C := by rw [← Nat.add_assoc, Nat.succ_mul]
    have h3 : K * C ≤ (K + m) * C := Nat.mul_le_mul_right _ (by omega)
    rw [trim_late (by omega)]
    unfold Ex.tr
    rw [List.drop_append_of_le_length (by omega), List.take_append, List.take_of_length_le (l := l.drop (F - K * C)) (by simp; omega)]
    congr 2
    simp
    omega
theorem rgat_mid {L : List Wr} {id F T : Nat} {h : Hd} {K : Nat} (hC : 1 ≤ h.chunk) (hKF : K * h.chunk ≤ F) (hFK : F < K * h.chunk + h.chunk) (hFT : F < T) (hTS : T ≤ h.size) : ∀ m, (∀ j, j < m → (K + j) * h.chunk < T) → Ex.rgat L id h F T (K + m) = (Ex.gat L id h K m).map (Ex.tr h.chunk K F T)
  | 0, _ => by
    rw [Nat.add_zero, rgat_low hKF K (Nat.le_refl _)]
    simp [Ex.gat, Ex.tr]
  | m + 1, hj => by
    have hm := hj m (by omega)
    have ih := rgat_mid (L := L) (id := id) hC hKF hFK hFT hTS m (fun j h => hj j (by omega))
    have h3 : K * h.chunk ≤ (K + m) * h.chunk := Nat.mul_le_mul_right _ (by omega)
    have hs : Ex.skip h.chunk F T (K + m) = false := by
      unfold Ex.skip
      rw [decide_eq_false (by omega), decide_eq_false (by omega), decide_eq_false (by omega)]
      rfl
    rw [← Nat.add_assoc]
    cases hc : Ex.chunk L id h (K + m) with
    | none =>
      rw [rgat_none hs hc]
      have := gat_none (k := K) (m := m) hc 0
      rw [Nat.add_zero] at this
      rw [this]; rfl
    | some x =>
      cases hg : Ex.gat L id h K m with
      | none =>
        rw [hg] at ih
        have h1 := rgat_stay ih 1
        rw [h1]
        simp only [Ex.gat, hg]
        rfl
      | some l =>
        rw [hg] at ih
        rw [rgat_some (l := Ex.tr h.chunk K F T l) ih hs hc, gat_some hg hc]
        have hlen := gat_len hg (fun j h' => by have := hj j (by omega); omega) (by omega)
        rw [Option.map_some, tr_step hC hKF hFK hFT (by omega) hm]
theorem rgat_high {L : List Wr} {id F T E : Nat} {h : Hd} (hE : ∀ n, E ≤ n → T ≤ n * h.chunk) : ∀ d, Ex.rgat L id h F T (E + d) = Ex.rgat L id h F T E
  | 0 => rfl
  | d + 1 => by
    rw [← Nat.add_assoc, rgat_skip (by unfold Ex.skip; rw [decide_eq_true (hE (E + d) (by omega))]; simp), rgat_high hE d]
/-- Both ways tell the same. -/
def Ex.told (o : Option (List UInt8)) : List UInt8 × Nat := match o with
  | none => ([], 16)
  | some l => (l, 0)
theorem whole_rgat {L : List Wr} {id F T : Nat} {h : Hd} (ok : h.Ok) (hFT : F < T) (hTS : T ≤ h.size) : Ex.whole L id h F T = Ex.told (Ex.rgat L id h F T h.n) := by
  have hC := ok.pos
  have hKF : F / h.chunk * h.chunk ≤ F := Nat.div_mul_le_self _ _
  have hFK : F < F / h.chunk * h.chunk + h.chunk := Nat.lt_div_mul_add (by omega)
  have hKE : F / h.chunk ≤ Ex.last h T := Nat.le_of_lt ((lt_last hC).2 (by omega))
  have hEn : Ex.last h T ≤ h.n := by
    rcases Nat.lt_or_ge h.n (Ex.last h T) with g | g
    · have h1 := (lt_last hC).1 g
      have h2 : ¬ (h.n < h.n) := Nat.lt_irrefl _
      have h3 : h.n * h.chunk < h.size → h.n < h.n := fun q => by
        conv => rhs; unfold Hd.n
        rw [Nat.lt_div_iff_mul_lt hC]; omega
      exact absurd (h3 (by omega)) h2
    · exact g
  have e1 := rgat_mid (L := L) (id := id) hC hKF hFK hFT hTS (Ex.last h T - F / h.chunk) (fun j hj => (lt_last hC).1 (by omega))
  rw [show F / h.chunk + (Ex.last h T - F / h.chunk) = Ex.last h T by omega] at e1
  have e2 := rgat_high (L := L) (id := id) (F := F) (T := T) (E := Ex.last h T) (h := h) (fun n hn => by
    rcases Nat.lt_or_ge (n * h.chunk) T with g | g
    · have := (lt_last hC).2 g; omega
    · exact g) (h.n - Ex.last h T)
  rw [show Ex.last h T + (h.n - Ex.last h T) = h.n by omega, e1] at e2
  rw [e2]
  cases hg : Ex.gat L id h (F / h.chunk) (Ex.last h T - F / h.chunk) with
  | none => rw [whole_none hg]; rfl
  | some l => rw [whole_some hg]; rfl
theorem n_lt {h : Hd} (ok : h.Ok) {n : Nat} : n < h.n ↔ n * h.chunk < h.size := by
  unfold Hd.n
  rw [Nat.lt_div_iff_mul_lt ok.pos]
  generalize n * h.chunk = q
  have := ok.pos
  omega
theorem rgat_len {L : List Wr} {id F T : Nat} {h : Hd} : ∀ (n : Nat) (l : List UInt8), Ex.rgat L id h F T n = some l → l.length ≤ n * h.chunk
  | 0, l, hl => by cases hl; simp
  | n + 1, l, hl => by
    rw [Nat.succ_mul]
    cases h0 : Ex.rgat L id h F T n with
    | none => have := rgat_stay h0 1; rw [this] at hl; cases hl
    | some l0 =>
      have ih := rgat_len n l0 h0
      by_cases hs : Ex.skip h.chunk F T n = true
      · rw [rgat_skip hs, h0] at hl
        cases hl
        omega
      · have hs' : Ex.skip h.chunk F T n = false := by simpa using hs
        cases hc : Ex.chunk L id h n with
        | none => rw [rgat_none hs' hc] at hl; cases hl
        | some x =>
          rw [rgat_some h0 hs' hc] at hl
          cases hl
          have h1 := chunk_len hc
          have h2 : h.len n ≤ h.chunk := Nat.min_le_left _ _
          have h3 : (Ex.trim h.chunk F T n x).length ≤ x.length := by unfold Ex.trim; simp; omega
          rw [List.length_append]
          omega
set_option maxHeartbeats 2000000 in
theorem rpart_any (bk id : Nat) (L : List Wr) (f t : Int) (w : World) (hu : U64 id) (h : KeysAt w bk L) (hf : -9223372036854775808 ≤ f ∧ f ≤ 9223372036854775807) (ht : -9223372036854775808 ≤ t ∧ t ≤ 9223372036854775807) :
    Calls Tryd.prog 27 #[.pointer (some ⟨bk, 0, none⟩), .int .u64 id, .int .i64 f, .int .i64 t] w (RetP (Ex.part L id f t) w) := by
  have HLK := Lib.hid (rlook_any bk id L w hu h)
  have HOK := Lib.hid (read_ok (b := Kv.get L (Ex.key id)))
  have hp : Ex.part L id f t = Ex.partOf (Ex.look L id) L id f t := rfl
  rw [hp]
  clear hp
  have HOK2 : Hid ((Ex.look L id).2 = 0 → (Ex.look L id).1.Ok) := Lib.hid (fun h => (HOK.out h).1)
  generalize Ex.look L id = x at *
  clear HOK
  obtain ⟨hd, er⟩ := x
  unfold LookV hval at HLK
  dsimp only at *
  have HKA := Lib.hid h
  clear h
  by_cases h0 : er = 0
  case neg =>
    have HP := Lib.hid (part_err L id f t (x := (hd, er)) h0)
    have t1 : ((er : Int) != 0) = true := by simp; omega
    rw [HP.out]
    go_enter Tryd.func27, Tryd.ntmps27
    go_wp2_with fail
    refine HLK.out.mono ?_
    rintro e w1 ⟨rfl, hb1⟩
    have HB1 := Lib.hid hb1
    clear hb1
    go_wp2
    go_ret2
    exact retp_nil (HB1.out.alloc HB1.out.size _)
  subst h0
  have ok := HOK2.out rfl
  have HOK := Lib.hid ok
  obtain ⟨ok1, ok2, ok3, ok4⟩ := ok
  by_cases h1 : f < 0 ∨ t < f ∨ (hd.size : Int) < t
  case pos =>
    have HP := Lib.hid (part_arg L id f t (x := (hd, 0)) rfl h1)
    rw [HP.out]
    clear HP HOK2
    by_cases h2 : f < 0
    · have t2 : decide (f < 0) = true := decide_eq_true h2
      go_enter Tryd.func27, Tryd.ntmps27
      go_wp2_with fail
      refine HLK.out.mono ?_
      rintro e w1 ⟨rfl, hb1⟩
      have HB1 := Lib.hid hb1
      clear hb1
      go_wp2
      go_ret2
      exact retp_nil (HB1.out.alloc HB1.out.size _)
    · have t2 : decide (f < 0) = false := decide_eq_false h2
      by_cases h3 : t < f
      · have t3 : decide (t < f) = true := decide_eq_true h3
        go_enter Tryd.func27, Tryd.ntmps27
        go_wp2_with fail
        refine HLK.out.mono ?_
        rintro e w1 ⟨rfl, hb1⟩
        have HB1 := Lib.hid hb1
        clear hb1
        go_wp2
        go_ret2
        exact retp_nil (HB1.out.alloc HB1.out.size _)
      · have t3 : decide (t < f) = false := decide_eq_false h3
        have t4 : decide ((hd.size : Int) < t) = true := decide_eq_true (by omega)
        clear h1
        go_enter Tryd.func27, Tryd.ntmps27
        go_wp2_with fail
        refine HLK.out.mono ?_
        rintro e w1 ⟨rfl, hb1⟩
        have HB1 := Lib.hid hb1
        clear hb1
        go_wp2
        go_ret2
        exact retp_nil (HB1.out.alloc HB1.out.size _)
  obtain ⟨F, hF⟩ : ∃ F : Nat, f = (F : Int) := ⟨f.toNat, by omega⟩
  obtain ⟨T, hT⟩ : ∃ T : Nat, t = (T : Int) := ⟨t.toNat, by omega⟩
  subst hF hT
  have hFT : F ≤ T := by omega
  have hTS : T ≤ hd.size := by omega
  have HP : Hid (Ex.partOf (hd, 0) L id F T = Ex.told (Ex.rgat L id hd F T hd.n)) := Lib.hid (by
    by_cases h2 : F = T
    · subst h2
      rw [part_nil L id F F (x := (hd, 0)) rfl h1 rfl, rgat_eq]; rfl
    · rw [part_whole L id F T (x := (hd, 0)) rfl (by omega) hTS, whole_rgat HOK.out (by omega) hTS])
  rw [HP.out]
  have t2 : decide ((F : Int) < 0) = false := decide_eq_false (by omega)
  have t3 : decide (T < F) = false := decide_eq_false (by omega)
  have t4 : decide (hd.size < T) = false := decide_eq_false (by omega)
  clear HP h1 hf ht HOK2
  have HCH := Lib.hid (fun (k : Nat) (W : World) (hb : Below w.heap.size w W) (hk : k * hd.chunk < hd.size) => rchunk_any bk id k L hd W hu (HKA.out.below hb) HOK.out hk)
  have HCN := Lib.hid (fun (W : World) => rchunks_any hd W HOK.out)
  unfold hval at HCH HCN
  have HNL := Lib.hid (fun n => n_lt HOK.out (n := n))
  have HSK := Lib.hid (fun n => rgat_skip (L := L) (id := id) (F := F) (T := T) (n := n) (h := hd))
  have HNO := Lib.hid (fun n => rgat_none (L := L) (id := id) (F := F) (T := T) (n := n) (h := hd))
  have HSO := Lib.hid (fun n l x => rgat_some (L := L) (id := id) (F := F) (T := T) (n := n) (h := hd) (l := l) (x := x))
  have HST := Lib.hid (fun n => rgat_stay (L := L) (id := id) (F := F) (T := T) (n := n) (h := hd))
  have HCL := Lib.hid (fun k x => chunk_len (L := L) (id := id) (k := k) (h := hd) (x := x))
  have hNb : hd.n ≤ 1073741824 := by
    have h9 := (n_lt HOK.out (n := 1073741824)).1
    rcases Nat.lt_or_ge 1073741824 hd.n with g | g
    · have h8 := h9 g
      have h7 := Nat.mul_le_mul_left 1073741824 ok3
      omega
    · exact g
  have HRL := Lib.hid (fun n l => rgat_len (L := L) (id := id) (F := F) (T := T) (h := hd) n l)
  have HRG : Hid (∀ n, Ex.rgat L id hd F T n = Ex.rgat L id hd F T n) := Lib.hid fun _ => rfl
  have HR0 : Hid (Ex.rgat L id hd F T 0 = some []) := Lib.hid rfl
  generalize Ex.rgat L id hd F T = RG at *
  generalize hd.n = N at *
  go_enter Tryd.func27, Tryd.ntmps27
  go_wp2_with fail
  refine HLK.out.mono ?_
  rintro e w1 ⟨rfl, hb1⟩
  have hcells := hd_cells w1 hd 55
  obtain ⟨w2, hw2⟩ : ∃ w2, w1.alloc (.cells #[.int .i64 hd.size, .int .i64 hd.chunk, .int .i64 hd.refs, .int .u32 (n32 hd.sum)] 55) = w2 := ⟨_, rfl⟩
  have HB2 : Hid (Below w.heap.size w w2) := Lib.hid (by rw [← hw2]; exact hb1.alloc hb1.size _)
  rw [hw2] at hcells
  have VS := Lib.hid (fun (W : World) (k : Below w2.heap.size w2 W) => And.intro (cell_later k hcells.1) (And.intro (cell_later k hcells.2.1) (And.intro (cell_later k hcells.2.2.1) (cell_later k hcells.2.2.2))))
  have HW2 := Lib.hid hw2
  clear hcells hw2 hb1
  go_upto_region 2 with fail
  rw [HW2.out]
  obtain ⟨c0, c1, c2, c3⟩ := VS.out w2 (Below.refl _ _)
  go_wp2_with fail
  clear c0 c1 c2 c3
  go_loopw [12, 13] (fun ov nv wr => ∃ (n no co : Nat) (ao : Option Addr) (l : List UInt8), n ≤ N ∧ nv = .int .i64 (n : Int) ∧ ov = .slice ao no co ∧ Hid (RG n = some l) ∧ Hid (Own wr w2.heap.size ao no co l) ∧ Hid (Below w2.heap.size w2 wr)) (fun _ nv _ => N - (intOf nv).toNat)
  case atStart => exact ⟨0, 0, 0, none, [], Nat.zero_le _, rfl, rfl, HR0, Lib.hid (Own.nil _ _), Lib.hid (Below.refl _ _)⟩
  case round =>
    obtain ⟨n, no, co, ao, l, hn, rfl, rfl, hg, ho, hbl⟩ := hrel
    obtain ⟨c0, c1, c2, c3⟩ := VS.out wr hbl.out
    have HBW := Lib.hid (HB2.out.trans (hbl.out.mono HB2.out.size))
    by_cases hnN : n < N
    case neg =>
      obtain rfl : n = N := by omega
      go_wp2_with fail
      refine (HCN.out wr).mono ?_
      rintro e w3 ⟨rfl, hb3⟩
      have HB3 := Lib.hid (HBW.out.trans (hb3.mono HBW.out.size))
      have HO3 := Lib.hid (ho.out.below hb3)
      clear hb3
      go_wp2
      go_ret2
      rw [hg.out]
      exact ⟨ao, no, co, rfl, HO3.out.mono HB2.out.size, HB3.out⟩
    obtain ⟨q, hqn⟩ : ∃ q, q = n * hd.chunk := ⟨_, rfl⟩
    have e1 : (n : Int) * (hd.chunk : Int) = (q : Int) := by rw [hqn, Int.natCast_mul]
    have hqS : q < hd.size := by rw [hqn]; exact (HNL.out n).1 hnN
    have HQS : Hid (n * hd.chunk < hd.size) := Lib.hid (by rw [← hqn]; exact hqS)
    have HQN : Hid (n * hd.chunk = q) := Lib.hid hqn.symm
    by_cases hsk : Ex.skip hd.chunk F T n = true
    · have HG1 : Hid (RG (n + 1) = some l) := Lib.hid (by rw [HSK.out n hsk]; exact hg.out)
      unfold Ex.skip at hsk
      rw [← hqn] at hsk
      simp only [Bool.or_eq_true, decide_eq_true_eq] at hsk
      clear hqn
      by_cases s1 : F = T
      · have t5 : ((F : Int) == (T : Int)) = true := by simp; omega
        clear hsk s1
        go_wp2_with fail
        refine (HCN.out wr).mono ?_
        rintro e w3 ⟨rfl, hb3⟩
        have HB3 := Lib.hid (hbl.out.trans (hb3.mono hbl.out.size))
        have HO3 := Lib.hid (ho.out.below hb3)
        clear hb3 c0 c1 c2 c3
        obtain ⟨c0, c1, c2, c3⟩ := VS.out w3 HB3.out
        go_wp2
        go_roundw
        case rel => exact ⟨n + 1, no, co, ao, l, by omega, by go_num, rfl, HG1, HO3, HB3⟩
        case measure => simp [intOf]; omega
      · have t5 : ((F : Int) == (T : Int)) = false := by simp; omega
        have hsk2 : T ≤ q ∨ q + hd.chunk ≤ F := by omega
        clear s1 hsk
        by_cases s2 : T ≤ q
        · have t6 : decide (T ≤ q) = true := decide_eq_true s2
          clear hsk2
          go_wp2_with fail
          refine (HCN.out wr).mono ?_
          rintro e w3 ⟨rfl, hb3⟩
          have HB3 := Lib.hid (hbl.out.trans (hb3.mono hbl.out.size))
          have HO3 := Lib.hid (ho.out.below hb3)
          clear hb3 c0 c1 c2 c3
          obtain ⟨c0, c1, c2, c3⟩ := VS.out w3 HB3.out
          go_wp2
          go_roundw
          case rel => exact ⟨n + 1, no, co, ao, l, by omega, by go_num, rfl, HG1, HO3, HB3⟩
          case measure => simp [intOf]; omega
        · have t6 : decide (T ≤ q) = false := decide_eq_false s2
          have t7 : decide ((q : Int) + (hd.chunk : Int) ≤ (F : Int)) = true := decide_eq_true (by omega)
          clear hsk2 s2
          go_wp2_with fail
          refine (HCN.out wr).mono ?_
          rintro e w3 ⟨rfl, hb3⟩
          have HB3 := Lib.hid (hbl.out.trans (hb3.mono hbl.out.size))
          have HO3 := Lib.hid (ho.out.below hb3)
          clear hb3 c0 c1 c2 c3
          obtain ⟨c0, c1, c2, c3⟩ := VS.out w3 HB3.out
          go_wp2
          go_roundw
          case rel => exact ⟨n + 1, no, co, ao, l, by omega, by go_num, rfl, HG1, HO3, HB3⟩
          case measure => simp [intOf]; omega
    · have HSF : Hid (Ex.skip hd.chunk F T n = false) := Lib.hid (by simpa using hsk)
      have hsk' := HSF.out
      unfold Ex.skip at hsk'
      rw [← hqn] at hsk'
      simp only [Bool.or_eq_false_iff, decide_eq_false_iff_not] at hsk'
      have t5 : ((F : Int) == (T : Int)) = false := by simp; omega
      have t6 : decide (T ≤ q) = false := decide_eq_false (by omega)
      have t7 : decide ((q : Int) + (hd.chunk : Int) ≤ (F : Int)) = false := decide_eq_false (by omega)
      have HNO1 := Lib.hid (HNO.out n HSF.out)
      have HSO1 := Lib.hid (fun x => HSO.out n l x hg.out HSF.out)
      have HTRIM : Hid (∀ x : List UInt8, Ex.trim hd.chunk F T n x = (x.drop (F - q)).take (min x.length (T - q) - (F - q))) := Lib.hid (fun x => by unfold Ex.trim; rw [← hqn])
      have hqT : q < T ∧ F < T ∧ F < q + hd.chunk := by omega
      obtain ⟨hqT, hFT2, hFq⟩ := hqT
      clear hsk hsk' hqn HSF
      have HCLn := Lib.hid (fun x (hx : Ex.chunk L id hd n = some x) => (HCL.out n x hx).trans rfl)
      have HLNE : Hid (hd.len n = min hd.chunk (hd.size - q)) := Lib.hid (by unfold Hd.len; rw [HQN.out])
      have HC1 := Lib.hid (fun W (hb : Below w.heap.size w W) => HCH.out n W hb HQS.out)
      generalize Ex.chunk L id hd n = oc at *
      go_wp2_with fail
      refine (HCN.out wr).mono ?_
      rintro e w3 ⟨rfl, hb3⟩
      have HB3 := Lib.hid (hbl.out.trans (hb3.mono hbl.out.size))
      have HBW3 := Lib.hid (HBW.out.trans (hb3.mono HBW.out.size))
      have HO3 := Lib.hid (ho.out.below hb3)
      clear hb3 c0 c1 c2 c3
      obtain ⟨c0, c1, c2, c3⟩ := VS.out w3 HB3.out
      go_wp2_with fail
      refine (HC1.out w3 HBW3.out).mono ?_
      cases oc with
      | none =>
        rintro e w4 ⟨⟨_, rfl⟩ | ⟨_, _, _, h3, _⟩, hb4⟩
        · have HB4 := Lib.hid (HBW3.out.trans (hb4.mono HBW3.out.size))
          have HPN : Hid (RG N = none) := Lib.hid (by have := HST.out (n + 1) (HNO1.out rfl) (N - (n + 1)); rwa [show n + 1 + (N - (n + 1)) = N by omega] at this)
          clear hb4
          go_wp2
          go_ret2
          rw [HPN.out]
          exact retp_nil HB4.out
        · cases h3
      | some y =>
        rintro e w4 ⟨⟨h3, _⟩ | ⟨a3, c3', y', h3, rfl, hbs3⟩, hb4⟩
        · cases h3
        cases h3
        have HB4 := Lib.hid (HB3.out.trans (hb4.mono HB3.out.size))
        have HO4 := Lib.hid (HO3.out.below hb4)
        have HBS := Lib.hid hbs3
        have hyl : y.length = min hd.chunk (hd.size - q) := by rw [← HLNE.out]; exact HCLn.out y rfl
        have hyc := hbs3.2.1
        have HG1 := Lib.hid (HSO1.out y rfl)
        have hGT := HTRIM.out y
        clear hb4 hbs3 c0 c1 c2 c3
        have hyle := HBS.out.le.1
        have hno : no ≤ q := by have h1 := HRL.out n l hg.out; have h2 := HO4.out.bs.1; rw [HQN.out] at h1; omega
        by_cases a1 : q < F
        · have t8 : decide (q < F) = true := decide_eq_true a1
          by_cases a2 : T - q < y.length
          · skip
            have t9 : decide ((T : Int) - (q : Int) < (y.length : Int)) = true := decide_eq_true (by omega)
            have HTR : Hid (Ex.trim hd.chunk F T n y = (y.drop (F - q)).take (T - q - (F - q))) := Lib.hid (by
              have e0 : F - q = F - q := by omega
              have e1 : min y.length (T - q) = T - q := by omega
              rw [hGT, e1, e0])
            have e3 : (T : Int) - (q : Int) = ((T - q : Nat) : Int) := by omega
            have e4 : (F : Int) - (q : Int) = ((F - q : Nat) : Int) := by omega
            have hsl : ∀ W, (Instr.slice 22 (.slice a3 y.length c3') (some (.int .i64 ((F - q : Nat) : Int))) (some (.int .i64 ((T - q : Nat) : Int))) none).run Tryd.prog W = .ok (.slice (subA a3 c3' (F - q)) (T - q - (F - q)) (c3' - (F - q))) W := fun W =>
              slice_lh a3 y.length c3' (lo := ((F - q : Nat) : Int)) (hi := ((T - q : Nat) : Int)) (lo' := F - q) (hi' := T - q) rfl rfl (by omega) (by omega) W
            have HSB : Hid (Bs w4 (subA a3 c3' (F - q)) (T - q - (F - q)) (c3' - (F - q)) ((y.drop (F - q)).take (T - q - (F - q)))) := Lib.hid (HBS.out.sub (lo := F - q) (hi := T - q) (by omega) (by omega))
            rw [← HTR.out] at HSB
            have hzb : T - q - (F - q) ≤ 16777216 := by omega
            generalize T - q - (F - q) = ln_ at *
            generalize subA a3 c3' (F - q) = as_ at *
            generalize c3' - (F - q) = cs_ at *
            generalize F - q = lo_ at *
            generalize T - q = hi_ at *
            clear hGT HTR hyl hyc
            go_wp2_with (at_builtin; refine app_own rfl _ _ rfl w2.heap.size rfl HO4.out rfl HSB.out (by omega) HB4.out.size ?_; intro a5 c5 w5 h5 hb5 hev5; have H5 := Lib.hid h5; have HB5 := Lib.hid (HB4.out.trans hb5); clear h5 hb5 hev5)
            go_roundw
            case rel => exact ⟨n + 1, _, c5, a5, _, by omega, by go_num, rfl, HG1, H5, HB5⟩
            case measure => simp [intOf]; omega
          · skip
            have t9 : decide ((T : Int) - (q : Int) < (y.length : Int)) = false := decide_eq_false (by omega)
            have HTR : Hid (Ex.trim hd.chunk F T n y = (y.drop (F - q)).take (y.length - (F - q))) := Lib.hid (by
              have e0 : F - q = F - q := by omega
              have e1 : min y.length (T - q) = y.length := by omega
              rw [hGT, e1, e0])
            have e3 : (T : Int) - (q : Int) = ((T - q : Nat) : Int) := by omega
            have e4 : (F : Int) - (q : Int) = ((F - q : Nat) : Int) := by omega
            have hsl : ∀ W, (Instr.slice 22 (.slice a3 y.length c3') (some (.int .i64 ((F - q : Nat) : Int))) (some (.int .i64 (y.length : Int))) none).run Tryd.prog W = .ok (.slice (subA a3 c3' (F - q)) (y.length - (F - q)) (c3' - (F - q))) W := fun W =>
              slice_lh a3 y.length c3' (lo := ((F - q : Nat) : Int)) (hi := (y.length : Int)) (lo' := F - q) (hi' := y.length) rfl rfl (by omega) (by omega) W
            have HSB : Hid (Bs w4 (subA a3 c3' (F - q)) (y.length - (F - q)) (c3' - (F - q)) ((y.drop (F - q)).take (y.length - (F - q)))) := Lib.hid (HBS.out.sub (lo := F - q) (hi := y.length) (by omega) (by omega))
            rw [← HTR.out] at HSB
            have hzb : y.length - (F - q) ≤ 16777216 := by omega
            generalize y.length - (F - q) = ln_ at *
            generalize subA a3 c3' (F - q) = as_ at *
            generalize c3' - (F - q) = cs_ at *
            generalize F - q = lo_ at *
            generalize T - q = hi_ at *
            clear hGT HTR hyl hyc
            go_wp2_with (at_builtin; refine app_own rfl _ _ rfl w2.heap.size rfl HO4.out rfl HSB.out (by omega) HB4.out.size ?_; intro a5 c5 w5 h5 hb5 hev5; have H5 := Lib.hid h5; have HB5 := Lib.hid (HB4.out.trans hb5); clear h5 hb5 hev5)
            go_roundw
            case rel => exact ⟨n + 1, _, c5, a5, _, by omega, by go_num, rfl, HG1, H5, HB5⟩
            case measure => simp [intOf]; omega
        · have t8 : decide (q < F) = false := decide_eq_false a1
          by_cases a2 : T - q < y.length
          · skip
            have t9 : decide ((T : Int) - (q : Int) < (y.length : Int)) = true := decide_eq_true (by omega)
            have HTR : Hid (Ex.trim hd.chunk F T n y = (y.drop (0)).take (T - q - (0))) := Lib.hid (by
              have e0 : F - q = 0 := by omega
              have e1 : min y.length (T - q) = T - q := by omega
              rw [hGT, e1, e0])
            have e3 : (T : Int) - (q : Int) = ((T - q : Nat) : Int) := by omega
            have hsl : ∀ W, (Instr.slice 22 (.slice a3 y.length c3') (some (.int .i64 0)) (some (.int .i64 ((T - q : Nat) : Int))) none).run Tryd.prog W = .ok (.slice (subA a3 c3' (0)) (T - q - (0)) (c3' - (0))) W := fun W =>
              slice_lh a3 y.length c3' (lo := 0) (hi := ((T - q : Nat) : Int)) (lo' := 0) (hi' := T - q) rfl rfl (by omega) (by omega) W
            have HSB : Hid (Bs w4 (subA a3 c3' (0)) (T - q - (0)) (c3' - (0)) ((y.drop (0)).take (T - q - (0)))) := Lib.hid (HBS.out.sub (lo := 0) (hi := T - q) (by omega) (by omega))
            rw [← HTR.out] at HSB
            have hzb : T - q - (0) ≤ 16777216 := by omega
            generalize T - q - (0) = ln_ at *
            generalize subA a3 c3' (0) = as_ at *
            generalize c3' - (0) = cs_ at *
            generalize T - q = hi_ at *
            clear hGT HTR hyl hyc
            go_wp2_with (at_builtin; refine app_own rfl _ _ rfl w2.heap.size rfl HO4.out rfl HSB.out (by omega) HB4.out.size ?_; intro a5 c5 w5 h5 hb5 hev5; have H5 := Lib.hid h5; have HB5 := Lib.hid (HB4.out.trans hb5); clear h5 hb5 hev5)
            go_roundw
            case rel => exact ⟨n + 1, _, c5, a5, _, by omega, by go_num, rfl, HG1, H5, HB5⟩
            case measure => simp [intOf]; omega
          · skip
            have t9 : decide ((T : Int) - (q : Int) < (y.length : Int)) = false := decide_eq_false (by omega)
            have HTR : Hid (Ex.trim hd.chunk F T n y = (y.drop (0)).take (y.length - (0))) := Lib.hid (by
              have e0 : F - q = 0 := by omega
              have e1 : min y.length (T - q) = y.length := by omega
              rw [hGT, e1, e0])
            have e3 : (T : Int) - (q : Int) = ((T - q : Nat) : Int) := by omega
            have hsl : ∀ W, (Instr.slice 22 (.slice a3 y.length c3') (some (.int .i64 0)) (some (.int .i64 (y.length : Int))) none).run Tryd.prog W = .ok (.slice (subA a3 c3' (0)) (y.length - (0)) (c3' - (0))) W := fun W =>
              slice_lh a3 y.length c3' (lo := 0) (hi := (y.length : Int)) (lo' := 0) (hi' := y.length) rfl rfl (by omega) (by omega) W
            have HSB : Hid (Bs w4 (subA a3 c3' (0)) (y.length - (0)) (c3' - (0)) ((y.drop (0)).take (y.length - (0)))) := Lib.hid (HBS.out.sub (lo := 0) (hi := y.length) (by omega) (by omega))
            rw [← HTR.out] at HSB
            have hzb : y.length - (0) ≤ 16777216 := by omega
            generalize y.length - (0) = ln_ at *
            generalize subA a3 c3' (0) = as_ at *
            generalize c3' - (0) = cs_ at *
            generalize T - q = hi_ at *
            clear hGT HTR hyl hyc
            go_wp2_with (at_builtin; refine app_own rfl _ _ rfl w2.heap.size rfl HO4.out rfl HSB.out (by omega) HB4.out.size ?_; intro a5 c5 w5 h5 hb5 hev5; have H5 := Lib.hid h5; have HB5 := Lib.hid (HB4.out.trans hb5); clear h5 hb5 hev5)
            go_roundw
            case rel => exact ⟨n + 1, _, c5, a5, _, by omega, by go_num, rfl, HG1, H5, HB5⟩
            case measure => simp [intOf]; omega
end Go.Proofs.YtkbfefooaajhkaaDoor
