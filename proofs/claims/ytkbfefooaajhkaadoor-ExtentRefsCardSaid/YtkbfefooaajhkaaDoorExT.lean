/- Keys and values, extents: plain laws. No program is walked. -/
import Derived.Test.YtkbfefooaajhkaaDoorExMr
set_option linter.unusedVariables false
set_option linter.unusedSimpArgs false
namespace Go.Proofs.YtkbfefooaajhkaaDoor
open Go.RowKit

/-! Digits tell their number. -/
theorem dg_inj : ∀ x, x < 16 → ∀ y, y < 16 → dg x = dg y → x = y := by decide +kernel
theorem hx_inj : ∀ (d n m : Nat), hx d n = hx d m → n % 16 ^ d = m % 16 ^ d
  | 0, n, m, _ => by rw [Nat.pow_zero, Nat.mod_one, Nat.mod_one]
  | d + 1, n, m, h => by
    simp only [hx] at h
    obtain ⟨h1, h2⟩ := List.append_inj' h rfl
    have e1 := hx_inj d _ _ h1
    have e2 := dg_inj _ (Nat.mod_lt n (by decide)) _ (Nat.mod_lt m (by decide)) (List.cons.inj h2).1
    rw [Nat.pow_succ, Nat.mul_comm, Nat.mod_mul, Nat.mod_mul, e1, e2]
theorem hx16_inj {n m : Nat} (hn : U64 n) (hm : U64 m) (h : hx 16 n = hx 16 m) : n = m := by
  have := hx_inj 16 n m h
  have e : (16 : Nat) ^ 16 = 18446744073709551616 := by decide
  rw [e] at this
  have := hn.lt; have := hm.lt
  omega
theorem hx8_inj {n m : Nat} (hn : n < 4294967296) (hm : m < 4294967296) (h : hx 8 n = hx 8 m) : n = m := by
  have := hx_inj 8 n m h
  have e : (16 : Nat) ^ 8 = 4294967296 := by decide
  rw [e] at this
  omega
theorem key_len (id : Nat) : (Ex.key id).length = 17 := by unfold Ex.key; rw [List.length_cons, hx_len]
theorem ck_len (id n : Nat) : (Ex.ck id n).length = 26 := by unfold Ex.ck; rw [List.length_append, List.length_cons, List.length_cons, hx_len, hx_len]
theorem mark_len (id : Nat) : (Ex.mark id).length = 17 := by unfold Ex.mark; rw [List.length_cons, hx_len]
theorem key_ck (id n : Nat) (id' : Nat) : Ex.key id' ≠ Ex.ck id n := fun h => by have := congrArg List.length h; rw [key_len, ck_len] at this; omega
theorem mark_ck (id n : Nat) (id' : Nat) : Ex.mark id' ≠ Ex.ck id n := fun h => by have := congrArg List.length h; rw [mark_len, ck_len] at this; omega
theorem key_mark (id id' : Nat) : Ex.key id ≠ Ex.mark id' := fun h => by
  have := (List.cons.inj h).1
  exact absurd this (by decide)
theorem ck_inj {id n m : Nat} (hn : n < 4294967296) (hm : m < 4294967296) (h : Ex.ck id n = Ex.ck id m) : n = m := by
  unfold Ex.ck at h
  have h1 := List.append_cancel_left h
  exact hx8_inj hn hm (List.cons.inj h1).2
/-- Whose key is it? -/
def Ex.of (id : Nat) (k : List UInt8) : Bool := decide ((k.drop 1).take 16 = hx 16 id)
theorem of_key (id : Nat) : Ex.of id (Ex.key id) = true := decide_eq_true (by unfold Ex.key; rw [List.drop_succ_cons, List.drop_zero, List.take_of_length_le (by rw [hx_len]; omega)])
theorem of_mark (id : Nat) : Ex.of id (Ex.mark id) = true := decide_eq_true (by unfold Ex.mark; rw [List.drop_succ_cons, List.drop_zero, List.take_of_length_le (by rw [hx_len]; omega)])
theorem of_ck (id n : Nat) : Ex.of id (Ex.ck id n) = true := decide_eq_true (by
  unfold Ex.ck
  rw [List.cons_append, List.drop_succ_cons, List.drop_zero, List.take_append_of_le_length (by rw [hx_len]; omega), List.take_of_length_le (by rw [hx_len]; omega)])
theorem of_other {id id' : Nat} (h1 : U64 id) (h2 : U64 id') (hne : id ≠ id') {k : List UInt8} (h : Ex.of id k = true) : Ex.of id' k = false := by
  have e := of_decide_eq_true h
  exact decide_eq_false (fun e2 => hne (hx16_inj h1 h2 (e.symm.trans e2)))
/-! Keys and values. -/
theorem find_filter_same {α : Type} (p q : α → Bool) : ∀ l : List α, (∀ a, q a = true → p a = true) → (l.filter p).find? q = l.find? q
  | [], _ => rfl
  | x :: l, h => by
    have ih := find_filter_same p q l h
    cases hp : p x with
    | true =>
      rw [List.filter_cons_of_pos hp, List.find?_cons, List.find?_cons, ih]
    | false =>
      have hq : q x = false := by
        cases hq : q x with
        | false => rfl
        | true => rw [h x hq] at hp; cases hp
      rw [List.filter_cons_of_neg (by simp [hp]), List.find?_cons, hq, ih]
theorem find_filter_none {α : Type} (p q : α → Bool) (l : List α) (h : ∀ a, q a = true → p a = false) : (l.filter p).find? q = none := by
  rw [List.find?_eq_none]
  intro a ha hq
  have := (List.mem_filter.1 ha).2
  rw [h a hq] at this
  cases this
theorem get_do1 (L : List Wr) (x : Wr) (k : List UInt8) : Kv.get (Kv.do1 L x) k = if x.key = k then (if x.gone = true then none else some x.val) else Kv.get L k := by
  unfold Kv.get Kv.do1
  rw [List.find?_append]
  by_cases hk : x.key = k
  · rw [if_pos hk, find_filter_none _ _ _ (fun a ha => by
      have := of_decide_eq_true ha
      exact decide_eq_false (fun e => e (this.trans hk.symm)))]
    cases hg : x.gone with
    | true => simp
    | false => simp [hk]
  · rw [if_neg hk, find_filter_same _ _ _ (fun a ha => by
      have := of_decide_eq_true ha
      exact decide_eq_true (fun e => hk (e.symm.trans this)))]
    cases hf : List.find? (fun e : Wr => decide (e.key = k)) L with
    | some y => rfl
    | none =>
      cases hg : x.gone with
      | true => simp
      | false => simp [hk]
theorem does_cons (L : List Wr) (x : Wr) (ws : List Wr) : Kv.does L (x :: ws) = Kv.does (Kv.do1 L x) ws := rfl
theorem does_append (L : List Wr) (a b : List Wr) : Kv.does L (a ++ b) = Kv.does (Kv.does L a) b := by unfold Kv.does; rw [List.foldl_append]
theorem get_notin : ∀ (ws L : List Wr) (k : List UInt8), (∀ x ∈ ws, x.key ≠ k) → Kv.get (Kv.does L ws) k = Kv.get L k
  | [], _, _, _ => rfl
  | x :: ws, L, k, h => by
    rw [does_cons, get_notin ws _ k (fun y hy => h y (by simp [hy])), get_do1, if_neg (h x (by simp))]
/-- Of keys that are all unlike each is there. -/
theorem get_mem : ∀ (ws L : List Wr), ws.Pairwise (fun a b => a.key ≠ b.key) → ∀ x ∈ ws, Kv.get (Kv.does L ws) x.key = if x.gone = true then none else some x.val
  | y :: ws, L, hp, x, hx => by
    rw [List.pairwise_cons] at hp
    rw [does_cons]
    rcases List.mem_cons.1 hx with rfl | hx
    · rw [get_notin ws _ _ (fun z hz => fun e => hp.1 z hz e.symm), get_do1, if_pos rfl]
    · exact get_mem ws _ hp.2 x hx
theorem mem_do1 {L : List Wr} {x e : Wr} (h : e ∈ Kv.do1 L x) : (e ∈ L ∧ e.key ≠ x.key) ∨ (e = x ∧ x.gone = false) := by
  unfold Kv.do1 at h
  rcases List.mem_append.1 h with h | h
  · have := List.mem_filter.1 h
    exact .inl ⟨this.1, of_decide_eq_true this.2⟩
  · cases hg : x.gone with
    | true => rw [hg] at h; simp at h
    | false => rw [hg] at h; exact .inr ⟨by simpa using h, rfl⟩
theorem mem_does : ∀ (ws L : List Wr) (e : Wr), e ∈ Kv.does L ws → e ∈ L ∨ e ∈ ws
  | [], L, e, h => .inl h
  | x :: ws, L, e, h => by
    rw [does_cons] at h
    rcases mem_does ws _ e h with h | h
    · rcases mem_do1 h with ⟨h, _⟩ | ⟨rfl, _⟩
      · exact .inl h
      · exact .inr (by simp)
    · exact .inr (by simp [h])
/-- What is behind writes that take away. -/
theorem mem_gone : ∀ (ws L : List Wr) (e : Wr), (∀ x ∈ ws, x.gone = true) → e ∈ Kv.does L ws → e ∈ L ∧ ∀ x ∈ ws, e.key ≠ x.key
  | [], L, e, _, h => ⟨h, fun x hx => by simp at hx⟩
  | x :: ws, L, e, hg, h => by
    rw [does_cons] at h
    obtain ⟨h1, h2⟩ := mem_gone ws _ e (fun y hy => hg y (by simp [hy])) h
    rcases mem_do1 h1 with ⟨h3, h4⟩ | ⟨_, h3⟩
    · exact ⟨h3, fun y hy => by
        rcases List.mem_cons.1 hy with rfl | hy
        · exact h4
        · exact h2 y hy⟩
    · rw [hg x (by simp)] at h3; cases h3
theorem filter_do1 (P : List UInt8 → Bool) (L : List Wr) (x : Wr) (h : P x.key = true) : (Kv.do1 L x).filter (fun e => !P e.key) = L.filter (fun e => !P e.key) := by
  unfold Kv.do1
  rw [List.filter_append, List.filter_filter]
  have h1 : (if x.gone = true then [] else [x] : List Wr).filter (fun e => !P e.key) = [] := by
    split <;> simp [h]
  rw [h1, List.append_nil]
  congr 1
  funext e
  by_cases hk : e.key = x.key
  · simp [hk, h]
  · simp [hk]
theorem filter_does (P : List UInt8 → Bool) : ∀ (ws L : List Wr), (∀ x ∈ ws, P x.key = true) → (Kv.does L ws).filter (fun e => !P e.key) = L.filter (fun e => !P e.key)
  | [], _, _ => rfl
  | x :: ws, L, h => by
    rw [does_cons, filter_does P ws _ (fun y hy => h y (by simp [hy])), filter_do1 P L x (h x (by simp))]
/-- Fresh keys are laid behind. -/
theorem does_fresh : ∀ (ws L : List Wr), ws.Pairwise (fun a b => a.key ≠ b.key) → (∀ x ∈ ws, x.gone = false) → (∀ e ∈ L, ∀ x ∈ ws, e.key ≠ x.key) → Kv.does L ws = L ++ ws
  | [], L, _, _, _ => by simp [Kv.does]
  | x :: ws, L, hp, hg, hf => by
    rw [List.pairwise_cons] at hp
    have h1 : Kv.do1 L x = L ++ [x] := by
      unfold Kv.do1
      rw [hg x (by simp), List.filter_eq_self.2 (fun e he => decide_eq_true (hf e he x (by simp)))]
      rfl
    rw [does_cons, h1, does_fresh ws (L ++ [x]) hp.2 (fun y hy => hg y (by simp [hy])) (fun e he y hy => by
      rcases List.mem_append.1 he with he | he
      · exact hf e he y (by simp [hy])
      · have : e = x := by simpa using he
        subst this
        exact hp.1 y hy)]
    simp
/-! Heads that are read again. -/
theorem bytes_ok (h : Hd) (ok : h.Ok) : Ex.okB h.bytes = true ∧ Ex.hd h.bytes = h := by
  obtain ⟨o1, o2, o3, o4⟩ := ok
  have d0 : Codec.dec h.bytes = (h.size, (Codec.enc h.size).length, 0) := by
    unfold Hd.bytes
    rw [List.append_assoc, List.append_assoc]
    exact Codec.dec_enc (by omega) _
  have r1 : Ex.rest h.bytes 1 = Codec.enc h.chunk ++ (Codec.enc h.refs ++ Codec.four h.sum) := by
    show h.bytes.drop (Codec.dec h.bytes).2.1 = _
    rw [d0]
    unfold Hd.bytes
    rw [List.append_assoc, List.append_assoc, List.drop_left]
  have d1 : Codec.dec (Ex.rest h.bytes 1) = (h.chunk, (Codec.enc h.chunk).length, 0) := by rw [r1]; exact Codec.dec_enc (by omega) _
  have r2 : Ex.rest h.bytes 2 = Codec.enc h.refs ++ Codec.four h.sum := by
    show (Ex.rest h.bytes 1).drop (Codec.dec (Ex.rest h.bytes 1)).2.1 = _
    rw [d1, r1, List.drop_left]
  have d2 : Codec.dec (Ex.rest h.bytes 2) = (h.refs, (Codec.enc h.refs).length, 0) := by rw [r2]; exact Codec.dec_enc (by omega) _
  have r3 : Ex.rest h.bytes 3 = Codec.four h.sum := by
    show (Ex.rest h.bytes 2).drop (Codec.dec (Ex.rest h.bytes 2)).2.1 = _
    rw [d2, r2, List.drop_left]
  have n0 : Ex.num h.bytes 0 = h.size := by unfold Ex.num; show (Codec.dec h.bytes).1 = _; rw [d0]
  have n1 : Ex.num h.bytes 1 = h.chunk := by unfold Ex.num; rw [d1]
  have n2 : Ex.num h.bytes 2 = h.refs := by unfold Ex.num; rw [d2]
  have b0 : Ex.bad h.bytes 0 = 0 := by unfold Ex.bad; show (Codec.dec h.bytes).2.2 = _; rw [d0]
  have b1 : Ex.bad h.bytes 1 = 0 := by unfold Ex.bad; rw [d1]
  have b2 : Ex.bad h.bytes 2 = 0 := by unfold Ex.bad; rw [d2]
  refine ⟨decide_eq_true ⟨b0, b1, b2, by rw [r3]; rfl, by rw [n0]; exact o1, by rw [n1]; exact o3, by rw [n1]; exact o2, by rw [n2]; exact o4⟩, ?_⟩
  unfold Ex.hd
  rw [n0, n1, n2, r3]
  have : Codec.rf4 (nth (Codec.four h.sum) 0) (nth (Codec.four h.sum) 1) (nth (Codec.four h.sum) 2) (nth (Codec.four h.sum) 3) = h.sum := ((Codec.rf4_iff _ _ _ _ h.sum).2 rfl).symm
  rw [this]
/-! An extent that is held. -/
structure Holds (L : List Wr) (id : Nat) (data : List UInt8) (C R : Nat) : Prop where
  c1 : 1 ≤ C
  c2 : C ≤ 16777216
  sz : data.length ≤ 1000000
  rf : R ≤ 1073741824
  hd : Kv.get L (Ex.key id) = some (Hd.bytes ⟨data.length, C, R, Codec.sum data⟩)
def Hd.mk' (data : List UInt8) (C R : Nat) : Hd := ⟨data.length, C, R, Codec.sum data⟩
theorem Holds.ok {L : List Wr} {id C R : Nat} {data : List UInt8} (h : Holds L id data C R) : (Hd.mk' data C R).Ok := ⟨by have := h.sz; show data.length ≤ _; omega, h.c2, h.c1, h.rf⟩
theorem Holds.look {L : List Wr} {id C R : Nat} {data : List UInt8} (h : Holds L id data C R) : Ex.look L id = (Hd.mk' data C R, 0) := by
  unfold Ex.look
  rw [h.hd]
  have := bytes_ok (Hd.mk' data C R) h.ok
  exact (read_yes this.1).trans (by rw [this.2])
/-- Chunk k is whole. -/
def ChunkIs (L : List Wr) (id : Nat) (data : List UInt8) (C k : Nat) : Prop := Kv.get L (Ex.ck id k) = some (Codec.four (Codec.sum (Ex.piece data C k)) ++ Ex.piece data C k)
theorem ChunkIs.chunk {L : List Wr} {id C R k : Nat} {data : List UInt8} (h : ChunkIs L id data C k) : Ex.chunk L id (Hd.mk' data C R) k = some (Ex.piece data C k) := by
  unfold Ex.chunk
  rw [h, pick_yes]
  · rfl
  · refine ⟨?_, rfl⟩
    have : (Ex.piece data C k).length = min C (data.length - k * C) := by unfold Ex.piece; rw [List.length_take, List.length_drop]
    rw [List.length_append, this]
    rfl
theorem gat_is {L : List Wr} {id C R K : Nat} {data : List UInt8} : ∀ m, (∀ j, j < m → ChunkIs L id data C (K + j)) → Ex.gat L id (Hd.mk' data C R) K m = some ((data.drop (K * C)).take (m * C))
  | 0, _ => by simp [Ex.gat]
  | m + 1, h => by
    rw [gat_some (gat_is m (fun j hj => h j (by omega))) (h m (by omega)).chunk]
    congr 1
    rw [Nat.succ_mul, List.take_add, List.drop_drop]
    unfold Ex.piece
    rw [Nat.add_mul]
theorem part_is {L : List Wr} {id C R : Nat} {data : List UInt8} (h : Holds L id data C R) (f t : Nat) (hft : f ≤ t) (ht : t ≤ data.length) (hc : ∀ k, f < (k + 1) * C → k * C < t → ChunkIs L id data C k) : Ex.part L id f t = ((data.drop f).take (t - f), 0) := by
  unfold Ex.part
  rw [h.look]
  have hC := h.c1
  by_cases e : f = t
  · subst e
    rw [part_nil L id f f (x := (Hd.mk' data C R, 0)) rfl (by show ¬ (_ ∨ _ ∨ ((data.length : Nat) : Int) < _); omega) rfl]
    simp
  · rw [part_whole L id f t (x := (Hd.mk' data C R, 0)) rfl (by omega) ht]
    have hKF : f / C * C ≤ f := Nat.div_mul_le_self _ _
    have hKE : f / C ≤ Ex.last (Hd.mk' data C R) t := Nat.le_of_lt ((lt_last (h := Hd.mk' data C R) hC).2 (by show f / C * C < t; omega))
    have hE := last_le (h := Hd.mk' data C R) (t := t) hC
    have hEm : t ≤ Ex.last (Hd.mk' data C R) t * C := hE
    have hFK : f < (f / C + 1) * C := by rw [Nat.succ_mul]; exact Nat.lt_div_mul_add (by omega)
    rw [whole_some (gat_is (R := R) (K := f / C) (Ex.last (Hd.mk' data C R) t - f / C) (fun j hj => hc (f / C + j) (by
        have : (f / C + 1) * C ≤ (f / C + j + 1) * C := Nat.mul_le_mul_right _ (by omega)
        omega) ((lt_last (h := Hd.mk' data C R) hC).1 (by omega))))]
    congr 1
    show (((data.drop (f / C * C)).take ((Ex.last (Hd.mk' data C R) t - f / C) * C)).drop (f - f / C * C)).take (t - f) = _
    rw [List.drop_take, List.drop_drop, List.take_take, show f / C * C + (f - f / C * C) = f by omega, Nat.sub_mul]
    congr 1
    omega
theorem whole_is {L : List Wr} {id C R : Nat} {data : List UInt8} (h : Holds L id data C R) (hc : ∀ k, k * C < data.length → ChunkIs L id data C k) : Ex.rd L id = (data, 0) := by
  have hp := part_is h 0 data.length (Nat.zero_le _) (Nat.le_refl _) (fun k _ hk => hc k hk)
  rw [List.drop_zero, Nat.sub_zero, List.take_length] at hp
  unfold Ex.rd
  unfold Ex.part at hp
  rw [h.look] at hp ⊢
  exact readOf_ok L id hp rfl rfl
/-! What is made is held. -/
theorem make_keys (id : Nat) (data : List UInt8) (C : Nat) (x : Wr) (hx : x ∈ Ex.make id data C) : Ex.of id x.key = true ∧ x.gone = false := by
  unfold Ex.make at hx
  rcases List.mem_cons.1 hx with rfl | hx
  · exact ⟨of_key id, rfl⟩
  · obtain ⟨k, _, rfl⟩ := List.mem_map.1 hx
    exact ⟨of_ck id k, rfl⟩
theorem head_n (data : List UInt8) (C : Nat) (hC : 1 ≤ C) (hd : data.length ≤ 1000000) : (Ex.head data C).n ≤ 1000000 := Nat.le_trans (n_le _ _ hC) hd
theorem n_iff (data : List UInt8) (C k : Nat) (hC : 1 ≤ C) : k < (Ex.head data C).n ↔ k * C < data.length := by
  show k < (data.length + C - 1) / C ↔ _
  rw [Nat.lt_div_iff_mul_lt hC]
  generalize k * C = q
  omega
theorem make_pair (id : Nat) (data : List UInt8) (C : Nat) (hC : 1 ≤ C) (hd : data.length ≤ 1000000) : (Ex.make id data C).Pairwise (fun a b => a.key ≠ b.key) := by
  unfold Ex.make
  rw [List.pairwise_cons]
  refine ⟨fun x hx => ?_, ?_⟩
  · obtain ⟨k, _, rfl⟩ := List.mem_map.1 hx
    exact key_ck id k id
  · rw [List.pairwise_map]
    refine List.Pairwise.imp_of_mem ?_ List.pairwise_lt_range
    intro a b ha hb hab e
    have h1 := List.mem_range.1 ha
    have h2 := List.mem_range.1 hb
    have h3 := head_n data C hC hd
    have := ck_inj (by omega) (by omega) e
    omega
theorem make_holds (L : List Wr) (id : Nat) (data : List UInt8) (C : Nat) (hC : 1 ≤ C) (hC2 : C ≤ 16777216) (hd : data.length ≤ 1000000) :
    Holds (Kv.does L (Ex.make id data C)) id data C 1 ∧ ∀ k, k * C < data.length → ChunkIs (Kv.does L (Ex.make id data C)) id data C k := by
  have hp := make_pair id data C hC hd
  refine ⟨⟨hC, hC2, hd, by decide, ?_⟩, fun k hk => ?_⟩
  · have := get_mem _ L hp ⟨Ex.key id, false, (Ex.head data C).bytes⟩ (by unfold Ex.make; simp)
    exact this
  · have := get_mem _ L hp (Ex.cw id data C k) (by
      unfold Ex.make
      refine List.mem_cons_of_mem _ (List.mem_map.2 ⟨k, List.mem_range.2 ((n_iff data C k hC).2 hk), rfl⟩))
    exact this
end Go.Proofs.YtkbfefooaajhkaaDoor
