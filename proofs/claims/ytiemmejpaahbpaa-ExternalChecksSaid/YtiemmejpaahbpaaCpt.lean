/-
  slices.Compact at hops.
-/
import Derived.Test.YtiemmejpaahbpaaCat
import Derived.Laws.StructEq
namespace Go.Proofs.Ytiemmejpaahbpaa
open Go.RowKit

namespace Ls
section
variable {α : Type} [DecidableEq α]
theorem compact_snoc : ∀ (m : List α) (h : m ≠ []) (x : α), compact (m ++ [x]) = if m.getLast h = x then compact m else compact m ++ [x]
  | [y], _, x => by
    by_cases e : y = x
    · subst e; simp [compact]
    · simp [compact, e]
  | y :: z :: m, _, x => by
    have ih := compact_snoc (z :: m) (by simp) x
    rw [List.getLast_cons (by simp)]
    show compact (y :: z :: (m ++ [x])) = _
    by_cases e : y = z
    · unfold compact
      rw [if_pos e, if_pos e]; exact ih
    · unfold compact
      rw [if_neg e, if_neg e]
      show y :: compact ((z :: m) ++ [x]) = _
      rw [ih]
      split <;> simp

theorem compact_take {l : List α} {k : Nat} (h1 : 1 ≤ k) (hk : k < l.length) : compact (l.take (k + 1)) = if l[k] = l[k - 1] then compact (l.take k) else compact (l.take k) ++ [l[k]] := by
  have hne : l.take k ≠ [] := by
    intro e
    have := congrArg List.length e
    rw [List.length_take, List.length_nil] at this; omega
  rw [List.take_succ_eq_append_getElem hk, compact_snoc _ hne]
  have e : (l.take k).getLast hne = l[k - 1] := by
    rw [List.getLast_eq_getElem]
    simp [Nat.min_eq_left (Nat.le_of_lt hk)]
  rw [e]
  by_cases c : l[k] = l[k - 1]
  · rw [if_pos c, if_pos c.symm]
  · rw [if_neg c, if_neg (fun h => c h.symm)]
end
end Ls

theorem flat_set (x : Ls.Hop) : ∀ (d : List Ls.Hop) (i : Nat), ((((d.map hopE).flatten.set (i * 3) (.int .i64 x.iface)).set (i * 3 + 1) (.int .u32 x.addr)).set (i * 3 + 2) (.int .u32 x.router)) = ((d.set i x).map hopE).flatten ∨ d.length ≤ i
  | [], i => .inr (by simp)
  | y :: d, 0 => .inl (by simp [hopE])
  | y :: d, i + 1 => by
    rcases flat_set x d i with h | h
    · refine .inl ?_
      rw [show (i + 1) * 3 = i * 3 + 1 + 1 + 1 from by omega]
      simp only [List.set_cons_succ, List.map_cons, List.flatten_cons, hopE, List.cons_append, List.nil_append]
      rw [← h]
    · exact .inr (by simp; omega)

theorem HopsOwn.block {base : Nat} {w : World} {g n cap : Nat} {d : List Ls.Hop} (h : HopsOwn base w (.slice (some ⟨g, 0, none⟩) n cap) d) : n = d.length ∧ base ≤ g ∧ g < w.heap.size ∧ n ≤ cap ∧ cap ≤ maxLen ∧ ∃ cur, w.heap[g]? = some (.cells cur 53 (0, 0)) ∧ cur.size = cap * 3 ∧ cur.toList.take (d.length * 3) = (d.map hopE).flatten := by
  rcases own_cases h with ⟨e, _⟩ | ⟨g', cap', cur, e, h1, h2, h3, h4, h5, h6, h7⟩
  · cases e
  · simp only [Value.slice.injEq, Option.some.injEq, Addr.mk.injEq, and_true] at e
    obtain ⟨e1, e2, e3⟩ := e
    subst e1 e2 e3
    exact ⟨rfl, h1, h2, h4, h5, cur, h3, h6, h7⟩

theorem HopsOwn.mk {base : Nat} {w : World} {g cap : Nat} {d : List Ls.Hop} {cur : Array Value} (h1 : base ≤ g) (h2 : d.length ≤ cap) (h3 : cap ≤ maxLen) (h4 : w.heap[g]? = some (.cells cur 53 (0, 0))) (h5 : cur.size = cap * 3) (h6 : cur.toList.take (d.length * 3) = (d.map hopE).flatten) :
    HopsOwn base w (.slice (some ⟨g, 0, none⟩) d.length cap) d :=
  ⟨by rw [flat_len _ (hopE_len d), List.length_map], .inr ⟨g, cap, cur, rfl, h1, h4, h2, h3, h5, h6⟩⟩

/-- a hop is stored -/
theorem HopsOwn.set {base : Nat} {w : World} {g n cap : Nat} {d : List Ls.Hop} (h : HopsOwn base w (.slice (some ⟨g, 0, none⟩) n cap) d) (i : Nat) (x : Ls.Hop) (hi : i < d.length) :
    HopsOwn base (((w.setCell ⟨g, i * 3, none⟩ (.int .i64 x.iface)).setCell ⟨g, i * 3 + 1, none⟩ (.int .u32 x.addr)).setCell ⟨g, i * 3 + 2, none⟩ (.int .u32 x.router)) (.slice (some ⟨g, 0, none⟩) n cap) (d.set i x) := by
  obtain ⟨rfl, h1, h2, h3, h4, cur, h5, h6, h7⟩ := h.block
  have := HopsOwn.mk (w := (((w.setCell ⟨g, i * 3, none⟩ (.int .i64 x.iface)).setCell ⟨g, i * 3 + 1, none⟩ (.int .u32 x.addr)).setCell ⟨g, i * 3 + 2, none⟩ (.int .u32 x.router))) (d := d.set i x) (cap := cap) h1 (by simpa using h3) h4 (blk_set (blk_set (blk_set h5 _ _) _ _) _ _) (by simpa using h6) (by
    rcases flat_set x d i with e | e
    · rw [← e, ← h7]
      simp only [List.length_set, Array.toList_setIfInBounds, List.take_set]
    · omega)
  simpa using this

/-- the tail is cleared: the head stays -/
theorem HopsOwn.cut {base : Nat} {w : World} {g n cap : Nat} {d : List Ls.Hop} (h : HopsOwn base w (.slice (some ⟨g, 0, none⟩) n cap) d) (i : Nat) (hi : i ≤ d.length) (C : Array Value) (hC : C.size = cap * 3) (hT : ∀ cur, w.heap[g]? = some (.cells cur 53 (0, 0)) → C.toList.take (i * 3) = cur.toList.take (i * 3)) :
    HopsOwn base (w.setRow g C) (.slice (some ⟨g, 0, none⟩) i cap) (d.take i) := by
  obtain ⟨rfl, h1, h2, h3, h4, cur, h5, h6, h7⟩ := h.block
  have e : (d.take i).length = i := by simp; omega
  have := HopsOwn.mk (w := w.setRow g C) (d := d.take i) (cap := cap) (cur := C) h1 (by omega) h4 (by simp [World.setRow, Array.getElem?_modify, h5]) hC (by
    rw [e, hT cur h5]
    have e2 : (List.map hopE d).flatten.take (i * 3) = ((d.map hopE).take i).flatten := by
      clear h7 e h5 h6 h3 hT h
      induction d generalizing i with
      | nil => simp
      | cons y d ih =>
        cases i with
        | zero => simp
        | succ i =>
          rw [show (i + 1) * 3 = i * 3 + 1 + 1 + 1 from by omega]
          simp only [List.map_cons, List.flatten_cons, hopE, List.cons_append, List.nil_append, List.take_succ_cons]
          rw [ih i (by simpa using hi)]
    rw [← List.map_take] at e2
    rw [← e2, ← h7, List.take_take, Nat.min_eq_left (by omega)])
  rw [e] at this
  exact this

theorem eqHop (x y : Ls.Hop) (w : World) : (binOp .eql 53 (.agg #[.int .i64 x.iface, .int .u32 x.addr, .int .u32 x.router]) (.agg #[.int .i64 y.iface, .int .u32 y.addr, .int .u32 y.router])).run Try.prog w = .ok (.bool (decide (x = y))) w := by
  have u3 := Try.underlying3
  have u22 := Try.underlying22
  have u23 := Try.underlying23
  have a3 := Try.isAgg3
  have z3 := Try.sizeOf3
  have a22 := Try.isAgg22
  have z22 := Try.sizeOf22
  have a23 := Try.isAgg23
  have z23 := Try.sizeOf23
  have hS : Try.prog.underlying 53 = some (.struct (Try.prog.fieldsOf 53)) := by kernel_rfl
  have hp : Try.prog.stoodInHeld 53 = false := by kernel_rfl
  obtain ⟨x1, x2, x3⟩ := x
  obtain ⟨y1, y2, y3⟩ := y
  rw [run_eql_struct, show (10000 : Nat) = 9999 + 1 from rfl, run_equalIn_agg w 9999 53 _ _ hS hp]
  simp only [Program.fieldsOf, Try.underlying53]
  go_simp
  by_cases h1 : x1 = y1 <;> by_cases h2 : x2 = y2 <;> by_cases h3 : x3 = y3 <;> simp [h1, h2, h3]

end Go.Proofs.Ytiemmejpaahbpaa
