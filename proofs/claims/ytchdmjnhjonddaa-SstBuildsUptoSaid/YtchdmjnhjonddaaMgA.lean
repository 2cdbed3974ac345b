/- Entries in memory; Compare, Same. -/
import Derived.Test.YtchdmjnhjonddaaBytes
import Derived.Test.YtchdmjnhjonddaaMgSpec
import Derived.Test.YtchdmjnhjonddaaQuiet
namespace Go.Proofs.Ytchdmjnhjonddaa
open Go.RowKit

/-- An entry as a value; its bytes lie at 'a'. -/
def ev (e : Ent) (a : Option Addr) (c : Nat) : Value := .agg #[.string (bstr e.key), .int .u64 e.seq, .bool e.gone, .slice a e.val.length c]
theorem bstr_ex (s : ByteArray) : ∃ l, s = bstr l := ⟨s.data.toList, by cases s; rfl⟩
theorem bstr_list (l : List UInt8) : (bstr l).toList = l := by simp [bstr]

/-- The five ways of two entries. -/
inductive Ways (x y : Ent) : Prop
  | less (h1 : Op.bytesLess (bstr x.key).toList (bstr y.key).toList = true) (e : Ent.cmp x y = -1)
  | more (h1 : Op.bytesLess (bstr x.key).toList (bstr y.key).toList = false) (h2 : decide (x.key = y.key) = false) (h3 : ((bstr x.key).toList == (bstr y.key).toList) = false) (e : Ent.cmp x y = 1)
  | newer (h1 : Op.bytesLess (bstr x.key).toList (bstr y.key).toList = false) (h2 : decide (x.key = y.key) = true) (h3 : ((bstr x.key).toList == (bstr y.key).toList) = true) (h4 : y.seq < x.seq) (e : Ent.cmp x y = -1)
  | elder (h1 : Op.bytesLess (bstr x.key).toList (bstr y.key).toList = false) (h2 : decide (x.key = y.key) = true) (h3 : ((bstr x.key).toList == (bstr y.key).toList) = true) (h4 : x.seq < y.seq) (e : Ent.cmp x y = 1)
  | same (h1 : Op.bytesLess (bstr x.key).toList (bstr y.key).toList = false) (h2 : decide (x.key = y.key) = true) (h3 : ((bstr x.key).toList == (bstr y.key).toList) = true) (h4 : x.seq = y.seq) (e : Ent.cmp x y = 0)
theorem ways (x y : Ent) : Ways x y := by
  have hk : ∀ {a b : List UInt8}, ((bstr a).toList == (bstr b).toList) = decide (a = b) := fun {a b} => by rw [bstr_beq]
  rcases Ent.klt_total x.key y.key with h | h | h
  · exact .less (by rw [bstr_list, bstr_list]; exact h) (Ent.cmp_lt.2 (.inl h))
  · have h1 : Op.bytesLess (bstr x.key).toList (bstr y.key).toList = false := by rw [bstr_list, bstr_list, h]; exact Ent.klt_irrefl _
    have h2 : decide (x.key = y.key) = true := decide_eq_true h
    have h3 : ((bstr x.key).toList == (bstr y.key).toList) = true := by rw [hk]; exact h2
    rcases Nat.lt_trichotomy x.seq y.seq with hs | hs | hs
    · exact .elder h1 h2 h3 hs (Ent.cmp_gt.2 (.inr ⟨h.symm, hs⟩))
    · exact .same h1 h2 h3 hs (Ent.cmp_eq.2 ⟨h, hs⟩)
    · exact .newer h1 h2 h3 hs (Ent.cmp_lt.2 (.inr ⟨h, hs⟩))
  · have h2 : decide (x.key = y.key) = false := decide_eq_false (Ne.symm (Ent.klt_ne h))
    exact .more (by rw [bstr_list, bstr_list]; exact Ent.klt_asymm h) h2 (by rw [hk]; exact h2) (Ent.cmp_gt.2 (.inl h))
theorem two_boxes (w : World) (o p : Obj) : Below w.heap.size w ((w.alloc o).alloc p) := ((Below.refl _ _).alloc (Nat.le_refl _) _).alloc (le_alloc (Nat.le_refl _)) _
set_option maxHeartbeats 1000000 in
theorem refcmp_any (x y : Ent) (ax ay : Option Addr) (cx cy : Nat) (w : World) :
    Calls Try.prog 18 #[ev x ax cx, ev y ay cy] w fun e w' => e = .returned (.int .i64 (Ent.cmp x y)) ∧ Below w.heap.size w w' := by
  unfold ev
  rcases ways x y with ⟨h1, e⟩ | ⟨h1, h2, h3, e⟩ | ⟨h1, h2, h3, h4, e⟩ | ⟨h1, h2, h3, h4, e⟩ | ⟨h1, h2, h3, h4, e⟩
  · rw [e]
    clear e
    go_enter Try.func18, Try.ntmps18
    go_wp2
    go_ret
    exact ⟨rfl, two_boxes _ _ _⟩
  · rw [e]
    clear e
    go_enter Try.func18, Try.ntmps18
    go_wp2
    go_ret
    exact ⟨rfl, two_boxes _ _ _⟩
  · rw [e]
    have t1 : decide (y.seq < x.seq) = true := decide_eq_true h4
    clear e h4
    go_enter Try.func18, Try.ntmps18
    go_wp2
    go_ret
    exact ⟨rfl, two_boxes _ _ _⟩
  · rw [e]
    have t1 : decide (y.seq < x.seq) = false := decide_eq_false (by omega)
    have t2 : decide (x.seq < y.seq) = true := decide_eq_true h4
    clear e h4
    go_enter Try.func18, Try.ntmps18
    go_wp2
    go_ret
    exact ⟨rfl, two_boxes _ _ _⟩
  · rw [e]
    have t1 : decide (y.seq < x.seq) = false := decide_eq_false (by omega)
    have t2 : decide (x.seq < y.seq) = false := decide_eq_false (by omega)
    clear e h4
    go_enter Try.func18, Try.ntmps18
    go_wp2
    go_ret
    exact ⟨rfl, two_boxes _ _ _⟩
end Go.Proofs.Ytchdmjnhjonddaa
