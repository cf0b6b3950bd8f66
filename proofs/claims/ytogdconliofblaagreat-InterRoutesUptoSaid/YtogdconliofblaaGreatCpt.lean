/-
  slices.Compact at hops.
-/
/-
  The walk through slices.Compact at hops.
-/
import Derived.Test.YtogdconliofblaaGreatGrw
import Derived.Laws.StructEq
namespace Go.Proofs.YtogdconliofblaaGreat
open Go.RowKit

namespace Ls
section
variable {α : Type} [DecidableEq α]
theorem compact_snoc : ∀ (m : List α) (h : m ≠ []) (x : α), compact (m ++ [x]) = if m.getLast h = x then compact m else compact m ++ [x]
  | [y], _, x => by
    by_cases e : y = x
    · subst e; simp [compact]
    · simp [compact, e]
  | y :: z :: m, _, x => by
    have ih := compact_snoc (z :: m) (by simp) x
    rw [List.getLast_cons (by simp)]
    show compact (y :: z :: (m ++ [x])) = _
    by_cases e : y = z
    · unfold compact
      rw [if_pos e, if_pos e]; exact ih
    · unfold compact
      rw [if_neg e, if_neg e]
      show y :: compact ((z :: m) ++ [x]) = _
      rw [ih]
      split <;> simp

theorem compact_take {l : List α} {k : Nat} (h1 : 1 ≤ k) (hk : k < l.length) : compact (l.take (k + 1)) = if l[k] = l[k - 1] then compact (l.take k) else compact (l.take k) ++ [l[k]] := by
  have hne : l.take k ≠ [] := by
    intro e
    have := congrArg List.length e
    rw [List.length_take, List.length_nil] at this; omega
  rw [List.take_succ_eq_append_getElem hk, compact_snoc _ hne]
  have e : (l.take k).getLast hne = l[k - 1] := by
    rw [List.getLast_eq_getElem]
    simp [Nat.min_eq_left (Nat.le_of_lt hk)]
  rw [e]
  by_cases c : l[k] = l[k - 1]
  · rw [if_pos c, if_pos c.symm]
  · rw [if_neg c, if_neg (fun h => c h.symm)]
end
end Ls

theorem flat_set (x : Ls.Hop) : ∀ (d : List Ls.Hop) (i : Nat), ((((d.map hopE).flatten.set (i * 3) (.int .i64 x.iface)).set (i * 3 + 1) (.int .u32 x.addr)).set (i * 3 + 2) (.int .u32 x.router)) = ((d.set i x).map hopE).flatten ∨ d.length ≤ i
  | [], i => .inr (by simp)
  | y :: d, 0 => .inl (by simp [hopE])
  | y :: d, i + 1 => by
    rcases flat_set x d i with h | h
    · refine .inl ?_
      rw [show (i + 1) * 3 = i * 3 + 1 + 1 + 1 from by omega]
      simp only [List.set_cons_succ, List.map_cons, List.flatten_cons, hopE, List.cons_append, List.nil_append]
      rw [← h]
    · exact .inr (by simp; omega)

theorem HopsOwn.block {base : Nat} {w : World} {g n cap : Nat} {d : List Ls.Hop} (h : HopsOwn base w (.slice (some ⟨g, 0, none⟩) n cap) d) : n = d.length ∧ base ≤ g ∧ g < w.heap.size ∧ n ≤ cap ∧ cap ≤ maxLen ∧ ∃ cur, w.heap[g]? = some (.cells cur 60 (0, 0)) ∧ cur.size = cap * 3 ∧ cur.toList.take (d.length * 3) = (d.map hopE).flatten := by
  rcases own_cases h with ⟨e, _⟩ | ⟨g', cap', cur, e, h1, h2, h3, h4, h5, h6, h7⟩
  · cases e
  · simp only [Value.slice.injEq, Option.some.injEq, Addr.mk.injEq, and_true] at e
    obtain ⟨e1, e2, e3⟩ := e
    subst e1 e2 e3
    exact ⟨rfl, h1, h2, h4, h5, cur, h3, h6, h7⟩

theorem HopsOwn.mk {base : Nat} {w : World} {g cap : Nat} {d : List Ls.Hop} {cur : Array Value} (h1 : base ≤ g) (h2 : d.length ≤ cap) (h3 : cap ≤ maxLen) (h4 : w.heap[g]? = some (.cells cur 60 (0, 0))) (h5 : cur.size = cap * 3) (h6 : cur.toList.take (d.length * 3) = (d.map hopE).flatten) :
    HopsOwn base w (.slice (some ⟨g, 0, none⟩) d.length cap) d :=
  ⟨by rw [flat_len _ (hopE_len d), List.length_map], .inr ⟨g, cap, cur, rfl, h1, h4, h2, h3, h5, h6⟩⟩

/-- a hop is stored -/
theorem HopsOwn.set {base : Nat} {w : World} {g n cap : Nat} {d : List Ls.Hop} (h : HopsOwn base w (.slice (some ⟨g, 0, none⟩) n cap) d) (i : Nat) (x : Ls.Hop) (hi : i < d.length) :
    HopsOwn base (((w.setCell ⟨g, i * 3, none⟩ (.int .i64 x.iface)).setCell ⟨g, i * 3 + 1, none⟩ (.int .u32 x.addr)).setCell ⟨g, i * 3 + 2, none⟩ (.int .u32 x.router)) (.slice (some ⟨g, 0, none⟩) n cap) (d.set i x) := by
  obtain ⟨rfl, h1, h2, h3, h4, cur, h5, h6, h7⟩ := h.block
  have := HopsOwn.mk (w := (((w.setCell ⟨g, i * 3, none⟩ (.int .i64 x.iface)).setCell ⟨g, i * 3 + 1, none⟩ (.int .u32 x.addr)).setCell ⟨g, i * 3 + 2, none⟩ (.int .u32 x.router))) (d := d.set i x) (cap := cap) h1 (by simpa using h3) h4 (blk_set (blk_set (blk_set h5 _ _) _ _) _ _) (by simpa using h6) (by
    rcases flat_set x d i with e | e
    · rw [← e, ← h7]
      simp only [List.length_set, Array.toList_setIfInBounds, List.take_set]
    · omega)
  simpa using this

/-- the tail is cleared: the head stays -/
theorem HopsOwn.cut {base : Nat} {w : World} {g n cap : Nat} {d : List Ls.Hop} (h : HopsOwn base w (.slice (some ⟨g, 0, none⟩) n cap) d) (i : Nat) (hi : i ≤ d.length) (C : Array Value) (hC : C.size = cap * 3) (hT : ∀ cur, w.heap[g]? = some (.cells cur 60 (0, 0)) → C.toList.take (i * 3) = cur.toList.take (i * 3)) :
    HopsOwn base (w.setRow g C) (.slice (some ⟨g, 0, none⟩) i cap) (d.take i) := by
  obtain ⟨rfl, h1, h2, h3, h4, cur, h5, h6, h7⟩ := h.block
  have e : (d.take i).length = i := by simp; omega
  have := HopsOwn.mk (w := w.setRow g C) (d := d.take i) (cap := cap) (cur := C) h1 (by omega) h4 (by simp [World.setRow, Array.getElem?_modify, h5]) hC (by
    rw [e, hT cur h5]
    have e2 : (List.map hopE d).flatten.take (i * 3) = ((d.map hopE).take i).flatten := by
      clear h7 e h5 h6 h3 hT h
      induction d generalizing i with
      | nil => simp
      | cons y d ih =>
        cases i with
        | zero => simp
        | succ i =>
          rw [show (i + 1) * 3 = i * 3 + 1 + 1 + 1 from by omega]
          simp only [List.map_cons, List.flatten_cons, hopE, List.cons_append, List.nil_append, List.take_succ_cons]
          rw [ih i (by simpa using hi)]
    rw [← List.map_take] at e2
    rw [← e2, ← h7, List.take_take, Nat.min_eq_left (by omega)])
  rw [e] at this
  exact this

theorem eqHop (x y : Ls.Hop) (w : World) : (binOp .eql 60 (.agg #[.int .i64 x.iface, .int .u32 x.addr, .int .u32 x.router]) (.agg #[.int .i64 y.iface, .int .u32 y.addr, .int .u32 y.router])).run Tryz.prog w = .ok (.bool (decide (x = y))) w := by
  have u3 := Tryz.underlying3
  have u22 := Tryz.underlying22
  have u23 := Tryz.underlying45
  have a3 := Tryz.isAgg3
  have z3 := Tryz.sizeOf3
  have a22 := Tryz.isAgg22
  have z22 := Tryz.sizeOf22
  have a23 := Tryz.isAgg45
  have z23 := Tryz.sizeOf45
  have hS : Tryz.prog.underlying 60 = some (.struct (Tryz.prog.fieldsOf 60)) := by kernel_rfl
  have hp : Tryz.prog.stoodInHeld 60 = false := by kernel_rfl
  obtain ⟨x1, x2, x3⟩ := x
  obtain ⟨y1, y2, y3⟩ := y
  rw [run_eql_struct, show (10000 : Nat) = 9999 + 1 from rfl, run_equalIn_agg w 9999 60 _ _ hS hp]
  simp only [Program.fieldsOf, Tryz.underlying60]
  go_simp
  by_cases h1 : x1 = y1 <;> by_cases h2 : x2 = y2 <;> by_cases h3 : x3 = y3 <;> simp [h1, h2, h3]

end Go.Proofs.YtogdconliofblaaGreat

namespace Go.Proofs.YtogdconliofblaaGreat
open Go.RowKit

theorem neqHop (x y : Ls.Hop) (w : World) : (binOp .neq 60 (.agg #[.int .i64 x.iface, .int .u32 x.addr, .int .u32 x.router]) (.agg #[.int .i64 y.iface, .int .u32 y.addr, .int .u32 y.router])).run Tryz.prog w = .ok (.bool (!decide (x = y))) w := by
  have h := eqHop x y w
  simp only [binOp] at h ⊢
  revert h
  simp only [Sem.run_bind, Sem.run_pure]
  cases (Op.equal 60 (.agg #[.int .i64 x.iface, .int .u32 x.addr, .int .u32 x.router]) (.agg #[.int .i64 y.iface, .int .u32 y.addr, .int .u32 y.router])).run Tryz.prog w <;> simp

/-- the cells of a hop of one's own -/
theorem HopsOwn.cell {base : Nat} {w : World} {g n cap : Nat} {d : List Ls.Hop} (h : HopsOwn base w (.slice (some ⟨g, 0, none⟩) n cap) d) (i : Nat) (hi : i < d.length) :
    w.cell? ⟨g, i * 3, none⟩ = some (.int .i64 d[i].iface) ∧ w.cell? ⟨g, i * 3 + 1, none⟩ = some (.int .u32 d[i].addr) ∧ w.cell? ⟨g, i * 3 + 2, none⟩ = some (.int .u32 d[i].router) := by
  obtain ⟨rfl, h1, h2, h3, h4, cur, h5, h6, h7⟩ := h.block
  have f := fun j u hu => flat_get (k := 3) (d.map hopE) (hopE_len d) i (by simpa using hi) j u hu
  simp only [List.getElem_map, hopE] at f
  have g := fun j u (hj : i * 3 + j < d.length * 3) (hu : (d.map hopE).flatten[i * 3 + j]? = some u) => show cur[i * 3 + j]? = some u from by
    rw [← h7, List.getElem?_take, if_pos hj] at hu; simpa using hu
  exact ⟨blk_cell h5 (g 0 _ (by omega) (f 0 _ rfl)), blk_cell h5 (g 1 _ (by omega) (f 1 _ rfl)), blk_cell h5 (g 2 _ (by omega) (f 2 _ rfl))⟩
theorem HopsOwn.free {base : Nat} {w : World} {g n cap : Nat} {d : List Ls.Hop} (h : HopsOwn base w (.slice (some ⟨g, 0, none⟩) n cap) d) (i : Nat) : w.frozen? ⟨g, i, none⟩ = false := by
  obtain ⟨rfl, h1, h2, h3, h4, cur, h5, h6, h7⟩ := h.block
  exact blk_free h5 i

def CptPost (base : Nat) (w : World) (l : List Ls.Hop) (e : Ending) (w' : World) : Prop := ∃ v', e = .returned v' ∧ HopsOwn base w' v' (Ls.compact l) ∧ Below base w w'

/-- at the head of the first loop -/
structure CptA (base : Nat) (w : World) (v : Value) (l : List Ls.Hop) (k : Nat) (wr : World) : Prop where
  own : HopsOwn base wr v l
  bel : Below base w wr
  k1 : 1 ≤ k
  k2 : k ≤ l.length
  pre : Ls.compact (l.take k) = l.take k

/-- at the head of the second loop -/
structure CptB (base : Nat) (w : World) (v : Value) (l : List Ls.Hop) (k0 j kk : Nat) (d : List Ls.Hop) (wr : World) : Prop where
  own : HopsOwn base wr v d
  bel : Below base w wr
  len : d.length = l.length
  j1 : 1 ≤ j
  j2 : k0 + j ≤ l.length
  kk1 : kk + 1 ≤ k0 + j
  pre : Ls.compact (l.take (k0 + j)) = d.take kk
  rest : ∀ i (h : i < d.length) (h' : i < l.length), k0 + j ≤ i + 1 → d[i] = l[i]

theorem CptA.drewN {base : Nat} {w : World} {v : Value} {l : List Ls.Hop} {k : Nat} {wr : World} (R : CptA base w v l k wr) (hk : k < l.length) (hne : ¬ l[k] = l[k - 1]) (q : Nat) : CptA base w v l (k + 1) (wr.drewN q) := by
  refine ⟨R.own, ⟨R.bel.os, R.bel.tape, R.bel.output, R.bel.size, R.bel.block⟩, by omega, hk, ?_⟩
  rw [Ls.compact_take R.k1 hk, if_neg hne, R.pre, List.take_succ_eq_append_getElem hk]

theorem CptA.toB {base : Nat} {w : World} {v : Value} {l : List Ls.Hop} {k : Nat} {wr : World} (R : CptA base w v l k wr) (hk : k < l.length) (he : l[k] = l[k - 1]) (q : Nat) : CptB base w v l k 1 k l (wr.drewN q) := by
  refine ⟨R.own, ⟨R.bel.os, R.bel.tape, R.bel.output, R.bel.size, R.bel.block⟩, rfl, by omega, hk, by omega, ?_, fun _ _ _ _ => rfl⟩
  rw [Ls.compact_take R.k1 hk, if_pos he, R.pre]

theorem CptB.skip {base : Nat} {w : World} {v : Value} {l d : List Ls.Hop} {k0 j kk : Nat} {wr : World} (R : CptB base w v l k0 j kk d wr) (hk : k0 + j < l.length) (he : l[k0 + j] = l[k0 + j - 1]) (q : Nat) : CptB base w v l k0 (j + 1) kk d (wr.drewN q) := by
  have j1 := R.j1
  refine ⟨R.own, ⟨R.bel.os, R.bel.tape, R.bel.output, R.bel.size, R.bel.block⟩, R.len, by omega, by omega, by have := R.kk1; omega, ?_, fun i h h' hi => R.rest i h h' (by omega)⟩
  rw [← Nat.add_assoc, Ls.compact_take (by omega) hk, if_pos he, R.pre]

theorem CptB.put {base : Nat} {w : World} {g n cap : Nat} {l d : List Ls.Hop} {k0 j kk : Nat} {wr : World} (R : CptB base w (.slice (some ⟨g, 0, none⟩) n cap) l k0 j kk d wr) (hk : k0 + j < l.length) (he : ¬ l[k0 + j] = l[k0 + j - 1]) (q : Nat) (x : Ls.Hop) (hx : x = l[k0 + j]) :
    CptB base w (.slice (some ⟨g, 0, none⟩) n cap) l k0 (j + 1) (kk + 1) (d.set kk x) ((((wr.drewN q).setCell ⟨g, kk * 3, none⟩ (.int .i64 x.iface)).setCell ⟨g, kk * 3 + 1, none⟩ (.int .u32 x.addr)).setCell ⟨g, kk * 3 + 2, none⟩ (.int .u32 x.router)) := by
  have j1 := R.j1
  have k1 := R.kk1
  have hl := R.len
  have hb : base ≤ g := R.own.block.2.1
  have hB : Below base w (wr.drewN q) := ⟨R.bel.os, R.bel.tape, R.bel.output, R.bel.size, R.bel.block⟩
  have hO : HopsOwn base (wr.drewN q) (.slice (some ⟨g, 0, none⟩) n cap) d := R.own
  refine ⟨hO.set kk x (by omega), ((hB.setCell hb _).setCell hb _).setCell hb _, by simpa using hl, by omega, by omega, by omega, ?_, fun i h h' hi => ?_⟩
  · rw [← Nat.add_assoc, Ls.compact_take (by omega) hk, if_neg he, R.pre, ← hx]
    rw [List.take_succ_eq_append_getElem (by rw [List.length_set]; omega), List.take_set_of_le (Nat.le_refl _)]
    simp
  · rw [List.getElem_set, if_neg (by omega)]
    exact R.rest i (by simpa using h) h' (by omega)

theorem Tryz.zeroHop (w : World) : (zeroValue 60).run Tryz.prog w = .ok (.agg #[.int .i64 0, .int .u32 0, .int .u32 0]) w := by kernel_rfl

theorem zeros_one (n : Nat) : ∀ v ∈ (Builtin.zeroCells (Value.agg #[Value.int .i64 0, Value.int .u32 0, Value.int .u32 0]).cells n).toList, v.oneCell' = true := by
  intro v hv
  simp [Builtin.zeroCells, Value.cells] at hv
  obtain ⟨a, _, rfl⟩ := hv
  have : a % 3 < 3 := Nat.mod_lt _ (by omega)
  rcases h : a % 3 with _ | _ | _ | n
  · rfl
  · rfl
  · rfl
  · omega

/-- what 'clear' of the tail leaves -/
def Cleared (g : Nat) (i : Nat) (w : World) (C : Array Value) : Prop := ∀ cur, w.heap[g]? = some (.cells cur 60 (0, 0)) → C.size = cur.size ∧ C.toList.take (i * 3) = cur.toList.take (i * 3)

theorem clear_tail {base : Nat} {w : World} {g n cap : Nat} {d : List Ls.Hop} (h : HopsOwn base w (.slice (some ⟨g, 0, none⟩) n cap) d) (i : Nat) (hi : i < d.length) :
    ∃ C, (∀ ty, (Builtin.clear_ #[48] ty #[.slice (some ⟨g, i * 3, none⟩) (n - i) (cap - i)]).run Tryz.prog w = .ok (.tuple #[]) (w.setRow g C)) ∧ Cleared g i w C := by
  obtain ⟨rfl, h1, h2, h3, h4, cur, h5, h6, h7⟩ := h.block
  have hs := run_storeCells_at Tryz.prog g (i * 3) 60 (Builtin.zeroCells (Value.agg #[Value.int .i64 0, Value.int .u32 0, Value.int .u32 0]).cells (d.length - i)).toList 0 cur w h5 (by rw [Array.length_toList, size_zeroCells, h6]; simp [Value.cells]; omega) (zeros_one _)
  simp only [Nat.add_zero] at hs
  refine ⟨(cur.toList.take (i * 3) ++ (Builtin.zeroCells (Value.agg #[Value.int .i64 0, Value.int .u32 0, Value.int .u32 0]).cells (d.length - i)).toList ++ cur.toList.drop (i * 3 + (Builtin.zeroCells (Value.agg #[Value.int .i64 0, Value.int .u32 0, Value.int .u32 0]).cells (d.length - i)).toList.length)).toArray, fun ty => ?_, fun cur' h' => ?_⟩
  · obtain ⟨m, hm⟩ : ∃ m, d.length - i = m + 1 := ⟨d.length - i - 1, by omega⟩
    rw [hm] at hs ⊢
    simp only [Builtin.clear_, run_underlying Tryz.underlying48, Tryz.zeroHop, Sem.run_bind, Sem.run_pure, Result.andThen_ok, hs, List.getElem?_toArray, List.getElem?_cons_zero]
  · rw [h5] at h'
    cases h'
    have e := size_zeroCells (Value.agg #[Value.int .i64 0, Value.int .u32 0, Value.int .u32 0]).cells (d.length - i)
    have e3 : (Value.agg #[Value.int .i64 0, Value.int .u32 0, Value.int .u32 0]).cells.size = 3 := rfl
    rw [e3] at e
    have e4 : (Builtin.zeroCells (Value.agg #[Value.int .i64 0, Value.int .u32 0, Value.int .u32 0]).cells (d.length - i)).toList.length = (d.length - i) * 3 := by rw [Array.length_toList, e]
    constructor
    · simp only [List.size_toArray, List.length_append, List.length_take, List.length_drop, e4, Array.length_toList, h6]; omega
    · simp only [List.append_assoc]
      rw [List.take_append_of_le_length (by simp [h6]; omega), List.take_take, Nat.min_self]

theorem CptB.post {base : Nat} {w : World} {g n cap : Nat} {l d : List Ls.Hop} {k0 j kk : Nat} {wr : World} {C : Array Value} (R : CptB base w (.slice (some ⟨g, 0, none⟩) n cap) l k0 j kk d wr) (he : k0 + j = l.length) (hC : Cleared g kk wr C) :
    CptPost base w l (.returned (.slice (some ⟨g, 0, none⟩) kk cap)) (wr.setRow g C) := by
  obtain ⟨e1, h1, h2, h3, h4, cur, h5, h6, h7⟩ := R.own.block
  have := R.kk1; have := R.len
  refine ⟨_, rfl, ?_, ?_⟩
  · have p := R.pre
    rw [he, List.take_of_length_le (Nat.le_refl _)] at p
    rw [p]
    exact R.own.cut kk (by omega) C (by rw [(hC cur h5).1, h6]) fun cur' h' => (hC cur' h').2
  · exact R.bel.trans ⟨rfl, rfl, rfl, by simp [World.setRow], fun i hi => by simp only [World.setRow, Array.getElem?_modify]; rw [if_neg (by omega)]⟩

set_option maxHeartbeats 2000000 in
set_option maxRecDepth 100000 in
theorem compact_big (base : Nat) (w : World) (g cap : Nat) (l : List Ls.Hop) (hl : 2 ≤ l.length) (h : HopsOwn base w (.slice (some ⟨g, 0, none⟩) l.length cap) l) :
    Calls Tryz.prog 96 #[.slice (some ⟨g, 0, none⟩) l.length cap] w (CptPost base w l) := by
  have R0 : CptA base w (.slice (some ⟨g, 0, none⟩) l.length cap) l 1 w := ⟨h, Below.refl _ _, Nat.le_refl _, by omega, by
    obtain ⟨x, r, rfl⟩ : ∃ x r, l = x :: r := by cases l with | nil => simp at hl | cons x r => exact ⟨x, r, rfl⟩
    simp [Ls.compact]⟩
  obtain ⟨-, -, -, hcap, hcm, -⟩ := h.block
  have hcap' : (l.length : Int) ≤ (cap : Int) := by omega
  have hcm' : cap ≤ 9223372036854775807 := by unfold maxLen at hcm; omega
  clear h hcm
  have EQ := eqHop
  have NE := neqHop
  go_enter Tryz.func96, Tryz.ntmps96
  go_wp2_with fail
  go_loopw [3] (fun i wr => ∃ k : Nat, i = .int .i64 k ∧ CptA base w (.slice (some ⟨g, 0, none⟩) l.length cap) l k wr) (fun i _ => l.length - (intOf i).toNat)
  case atStart => exact ⟨1, rfl, R0⟩
  case round =>
    clear R0
    obtain ⟨k, rfl, R⟩ := hrel
    have k1 := R.k1
    have k2 := R.k2
    by_cases c : k < l.length
    · obtain ⟨x1, x2, x3⟩ := R.own.cell k c
      obtain ⟨y1, y2, y3⟩ := R.own.cell (k - 1) (by omega)
      have RR := Lib.hid R
      clear R
      by_cases e : l[k] = l[k - 1]
      · have NX := Lib.hid (RR.out.toB c e)
        have D := Lib.hid e
        generalize l[k] = hx at *
        generalize l[k - 1] = hy at *
        clear e
        have dd : decide (hx = hy) = true := by simpa using D.out
        have c' : (k : Int) < (l.length : Int) := by omega
        go_wp2_with fail
        go_quiet (fail)
        have B0 := Lib.hid (NX.out nq)
        generalize wr.drewN nq = wq at B0 ⊢
        clear NX RR D dd x1 x2 x3 y1 y2 y3
        go_wp2_with fail
        go_loopw [3, 5] (fun i jj wr => ∃ (kk j : Nat) (d : List Ls.Hop), i = .int .i64 kk ∧ jj = .int .i64 j ∧ CptB base w (.slice (some ⟨g, 0, none⟩) l.length cap) l k j kk d wr) (fun _ jj _ => l.length - (intOf jj).toNat)
        case atStart => exact ⟨k, 1, l, rfl, rfl, B0.out⟩
        case round =>
          clear B0
          obtain ⟨kk, j, d, rfl, rfl, R⟩ := hrel
          have j1 := R.j1
          have j2 := R.j2
          have kk1 := R.kk1
          have hd := R.len
          by_cases cj : k + j < l.length
          · obtain ⟨x1, x2, x3⟩ := R.own.cell (k + j) (by omega)
            obtain ⟨y1, y2, y3⟩ := R.own.cell (k + j - 1) (by omega)
            rw [R.rest (k + j) (by omega) cj (by omega)] at x1 x2 x3
            rw [R.rest (k + j - 1) (by omega) (by omega) (by omega)] at y1 y2 y3
            rw [show (k + j) * 3 = k * 3 + j * 3 from by omega] at x1 x2 x3
            rw [show (k + j - 1) * 3 = k * 3 + (j - 1) * 3 from by omega] at y1 y2 y3
            have RR := Lib.hid R
            have cj' : (j : Int) < ((l.length - k : Nat) : Int) := by omega
            by_cases e : l[k + j] = l[k + j - 1]
            · have NX := Lib.hid (RR.out.skip cj e)
              have D := Lib.hid e
              clear R
              generalize l[k + j] = hx at *
              generalize l[k + j - 1] = hy at *
              clear e hd
              have dd : decide (hx = hy) = true := by simpa using D.out
              go_wp2_with fail
              go_quiet (fail)
              go_wp2_with fail
              go_roundw
              case rel => exact ⟨kk, j + 1, d, rfl, by go_num, NX.out nq⟩
              case measure => simp [intOf]; omega
            · have NX := Lib.hid (RR.out.put cj e)
              have D := Lib.hid e
              have f0 := R.own.free (kk * 3)
              have f1 := R.own.free (kk * 3 + 1)
              have f2 := R.own.free (kk * 3 + 2)
              obtain ⟨z1, z2, z3⟩ := R.own.cell kk (by omega)
              clear R
              generalize l[k + j] = hx at *
              generalize l[k + j - 1] = hy at *
              generalize d[kk] = hz at *
              clear e
              have dd : decide (hx = hy) = false := by simpa using D.out
              go_wp2_with fail
              go_quiet (fail)
              have N := Lib.hid (NX.out nq hx rfl)
              clear NX
              go_wp2_with fail
              go_roundw
              case rel => exact ⟨kk + 1, j + 1, d.set kk hx, by go_num, by go_num, N.out⟩
              case measure => simp [intOf]; omega
          · obtain ⟨C, hrun, hC⟩ := clear_tail R.own kk (by omega)
            have PO := Lib.hid (R.post (by omega) hC)
            clear R
            go_wp2_with fail
            go_ret
            exact PO.out
      · have NX := Lib.hid (RR.out.drewN c e)
        have D := Lib.hid e
        generalize l[k] = hx at *
        generalize l[k - 1] = hy at *
        clear e
        have dd : decide (hx = hy) = false := by simpa using D.out
        have c' : (k : Int) < (l.length : Int) := by omega
        go_wp2_with fail
        go_quiet (fail)
        go_wp2_with fail
        go_roundw
        case rel => exact ⟨k + 1, by go_num, NX.out nq⟩
        case measure => simp [intOf]; omega
    · obtain ⟨a1, a2, a3, a4, a5⟩ := R
      have E : Hid (Ls.compact l = l) := Lib.hid (by rw [List.take_of_length_le (by omega)] at a5; exact a5)
      clear a5
      go_wp2_with fail
      go_ret
      exact ⟨_, rfl, by rw [E.out]; exact a1, a2⟩

set_option maxHeartbeats 400000 in
theorem compact_small (w : World) (a : Option Addr) (n cap : Nat) (hl : n < 2) :
    Calls Tryz.prog 96 #[.slice a n cap] w fun e w' => e = .returned (.slice a n cap) ∧ w = w' := by
  have hl' : (n : Int) < 2 := by omega
  go_enter Tryz.func96, Tryz.ntmps96
  go_wp2_with fail
  go_ret
  exact ⟨rfl, rfl⟩

theorem compact_short {α : Type} [DecidableEq α] (l : List α) (h : l.length < 2) : Ls.compact l = l := by
  match l, h with
  | [], _ => rfl
  | [x], _ => rfl
  | x :: y :: r, h => simp at h; omega

theorem compact_any (base : Nat) (w : World) (v : Value) (l : List Ls.Hop) (h : HopsOwn base w v l) :
    Calls Tryz.prog 96 #[v] w (CptPost base w l) := by
  rcases own_cases h with ⟨rfl, h0⟩ | ⟨g, cap, cur, rfl, _⟩
  · refine (compact_small w none 0 0 (by omega)).mono ?_
    rintro e w' ⟨rfl, rfl⟩
    exact ⟨_, rfl, by rw [compact_short l (by omega)]; exact h, Below.refl _ _⟩
  · by_cases c : 2 ≤ l.length
    · exact compact_big base w g cap l c h
    · refine (compact_small w _ _ _ (by omega)).mono ?_
      rintro e w' ⟨rfl, rfl⟩
      exact ⟨_, rfl, by rw [compact_short l (by omega)]; exact h, Below.refl _ _⟩

end Go.Proofs.YtogdconliofblaaGreat
