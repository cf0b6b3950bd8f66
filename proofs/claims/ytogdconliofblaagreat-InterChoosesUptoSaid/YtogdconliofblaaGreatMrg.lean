/-
  slices.Compact at hops.
-/
/-
  The walk through slices.Compact at hops.
-/
/-
  A row of one's own, sorted: from 'ownsRow' to the shelf's words and back.
-/
/-
  slices.SortFunc at no element: nothing turns.
-/
/-
  DERIVED: THE SHELF's CONTRACTS AT THIS DUMP, IN PLAIN WORDS (tools/lay-plain.mjs out of 'TryShelf.lean', which tools/lay-shelf.mjs wrote): THE SAME DECLARATIONS UNDER THE SAME NAMES: 'import', 'namespace', 'open', 'def', 'theorem' AND NOTHING ELSE: no command of the shelf's: FOR A HAND-IN. Each laying: the table of numbers ('.._ren') and one theorem, a field a fact of the dump's own or the kernel's comparison; each contract: ONE APPLICATION.
-/
/-
  intra.Merge: the hops of both lists, ascending, each once.
-/
import Derived.Test.YtogdconliofblaaGreatGrw
import Derived.Test.YtogdconliofblaaGreatMem
import Derived.Test.YtogdconliofblaaGreatLeaf
import Derived.Test.YtogdconliofblaaGreatProg
import Derived.Laws.StructEq
import Derived.Shelf.SlSortCmp.WholeK
import Derived.Shelf.SlGeneric
import Derived.Ground.SlsfProg
namespace Go.Proofs.YtogdconliofblaaGreat
open Go.RowKit

namespace Ls
section
variable {α : Type} [DecidableEq α]
theorem compact_snoc : ∀ (m : List α) (h : m ≠ []) (x : α), compact (m ++ [x]) = if m.getLast h = x then compact m else compact m ++ [x]
  | [y], _, x => by
    by_cases e : y = x
    · subst e; simp [compact]
    · simp [compact, e]
  | y :: z :: m, _, x => by
    have ih := compact_snoc (z :: m) (by simp) x
    rw [List.getLast_cons (by simp)]
    show compact (y :: z :: (m ++ [x])) = _
    by_cases e : y = z
    · unfold compact
      rw [if_pos e, if_pos e]; exact ih
    · unfold compact
      rw [if_neg e, if_neg e]
      show y :: compact ((z :: m) ++ [x]) = _
      rw [ih]
      split <;> simp

theorem compact_take {l : List α} {k : Nat} (h1 : 1 ≤ k) (hk : k < l.length) : compact (l.take (k + 1)) = if l[k] = l[k - 1] then compact (l.take k) else compact (l.take k) ++ [l[k]] := by
  have hne : l.take k ≠ [] := by
    intro e
    have := congrArg List.length e
    rw [List.length_take, List.length_nil] at this; omega
  rw [List.take_succ_eq_append_getElem hk, compact_snoc _ hne]
  have e : (l.take k).getLast hne = l[k - 1] := by
    rw [List.getLast_eq_getElem]
    simp [Nat.min_eq_left (Nat.le_of_lt hk)]
  rw [e]
  by_cases c : l[k] = l[k - 1]
  · rw [if_pos c, if_pos c.symm]
  · rw [if_neg c, if_neg (fun h => c h.symm)]
end
end Ls

theorem flat_set (x : Ls.Hop) : ∀ (d : List Ls.Hop) (i : Nat), ((((d.map hopE).flatten.set (i * 3) (.int .i64 x.iface)).set (i * 3 + 1) (.int .u32 x.addr)).set (i * 3 + 2) (.int .u32 x.router)) = ((d.set i x).map hopE).flatten ∨ d.length ≤ i
  | [], i => .inr (by simp)
  | y :: d, 0 => .inl (by simp [hopE])
  | y :: d, i + 1 => by
    rcases flat_set x d i with h | h
    · refine .inl ?_
      rw [show (i + 1) * 3 = i * 3 + 1 + 1 + 1 from by omega]
      simp only [List.set_cons_succ, List.map_cons, List.flatten_cons, hopE, List.cons_append, List.nil_append]
      rw [← h]
    · exact .inr (by simp; omega)

theorem HopsOwn.block {base : Nat} {w : World} {g n cap : Nat} {d : List Ls.Hop} (h : HopsOwn base w (.slice (some ⟨g, 0, none⟩) n cap) d) : n = d.length ∧ base ≤ g ∧ g < w.heap.size ∧ n ≤ cap ∧ cap ≤ maxLen ∧ ∃ cur, w.heap[g]? = some (.cells cur 60 (0, 0)) ∧ cur.size = cap * 3 ∧ cur.toList.take (d.length * 3) = (d.map hopE).flatten := by
  rcases own_cases h with ⟨e, _⟩ | ⟨g', cap', cur, e, h1, h2, h3, h4, h5, h6, h7⟩
  · cases e
  · simp only [Value.slice.injEq, Option.some.injEq, Addr.mk.injEq, and_true] at e
    obtain ⟨e1, e2, e3⟩ := e
    subst e1 e2 e3
    exact ⟨rfl, h1, h2, h4, h5, cur, h3, h6, h7⟩

theorem HopsOwn.mk {base : Nat} {w : World} {g cap : Nat} {d : List Ls.Hop} {cur : Array Value} (h1 : base ≤ g) (h2 : d.length ≤ cap) (h3 : cap ≤ maxLen) (h4 : w.heap[g]? = some (.cells cur 60 (0, 0))) (h5 : cur.size = cap * 3) (h6 : cur.toList.take (d.length * 3) = (d.map hopE).flatten) :
    HopsOwn base w (.slice (some ⟨g, 0, none⟩) d.length cap) d :=
  ⟨by rw [flat_len _ (hopE_len d), List.length_map], .inr ⟨g, cap, cur, rfl, h1, h4, h2, h3, h5, h6⟩⟩

/-- a hop is stored -/
theorem HopsOwn.set {base : Nat} {w : World} {g n cap : Nat} {d : List Ls.Hop} (h : HopsOwn base w (.slice (some ⟨g, 0, none⟩) n cap) d) (i : Nat) (x : Ls.Hop) (hi : i < d.length) :
    HopsOwn base (((w.setCell ⟨g, i * 3, none⟩ (.int .i64 x.iface)).setCell ⟨g, i * 3 + 1, none⟩ (.int .u32 x.addr)).setCell ⟨g, i * 3 + 2, none⟩ (.int .u32 x.router)) (.slice (some ⟨g, 0, none⟩) n cap) (d.set i x) := by
  obtain ⟨rfl, h1, h2, h3, h4, cur, h5, h6, h7⟩ := h.block
  have := HopsOwn.mk (w := (((w.setCell ⟨g, i * 3, none⟩ (.int .i64 x.iface)).setCell ⟨g, i * 3 + 1, none⟩ (.int .u32 x.addr)).setCell ⟨g, i * 3 + 2, none⟩ (.int .u32 x.router))) (d := d.set i x) (cap := cap) h1 (by simpa using h3) h4 (blk_set (blk_set (blk_set h5 _ _) _ _) _ _) (by simpa using h6) (by
    rcases flat_set x d i with e | e
    · rw [← e, ← h7]
      simp only [List.length_set, Array.toList_setIfInBounds, List.take_set]
    · omega)
  simpa using this

/-- the tail is cleared: the head stays -/
theorem HopsOwn.cut {base : Nat} {w : World} {g n cap : Nat} {d : List Ls.Hop} (h : HopsOwn base w (.slice (some ⟨g, 0, none⟩) n cap) d) (i : Nat) (hi : i ≤ d.length) (C : Array Value) (hC : C.size = cap * 3) (hT : ∀ cur, w.heap[g]? = some (.cells cur 60 (0, 0)) → C.toList.take (i * 3) = cur.toList.take (i * 3)) :
    HopsOwn base (w.setRow g C) (.slice (some ⟨g, 0, none⟩) i cap) (d.take i) := by
  obtain ⟨rfl, h1, h2, h3, h4, cur, h5, h6, h7⟩ := h.block
  have e : (d.take i).length = i := by simp; omega
  have := HopsOwn.mk (w := w.setRow g C) (d := d.take i) (cap := cap) (cur := C) h1 (by omega) h4 (by simp [World.setRow, Array.getElem?_modify, h5]) hC (by
    rw [e, hT cur h5]
    have e2 : (List.map hopE d).flatten.take (i * 3) = ((d.map hopE).take i).flatten := by
      clear h7 e h5 h6 h3 hT h
      induction d generalizing i with
      | nil => simp
      | cons y d ih =>
        cases i with
        | zero => simp
        | succ i =>
          rw [show (i + 1) * 3 = i * 3 + 1 + 1 + 1 from by omega]
          simp only [List.map_cons, List.flatten_cons, hopE, List.cons_append, List.nil_append, List.take_succ_cons]
          rw [ih i (by simpa using hi)]
    rw [← List.map_take] at e2
    rw [← e2, ← h7, List.take_take, Nat.min_eq_left (by omega)])
  rw [e] at this
  exact this

theorem eqHop (x y : Ls.Hop) (w : World) : (binOp .eql 60 (.agg #[.int .i64 x.iface, .int .u32 x.addr, .int .u32 x.router]) (.agg #[.int .i64 y.iface, .int .u32 y.addr, .int .u32 y.router])).run Tryz.prog w = .ok (.bool (decide (x = y))) w := by
  have u3 := Tryz.underlying3
  have u22 := Tryz.underlying22
  have u23 := Tryz.underlying45
  have a3 := Tryz.isAgg3
  have z3 := Tryz.sizeOf3
  have a22 := Tryz.isAgg22
  have z22 := Tryz.sizeOf22
  have a23 := Tryz.isAgg45
  have z23 := Tryz.sizeOf45
  have hS : Tryz.prog.underlying 60 = some (.struct (Tryz.prog.fieldsOf 60)) := by kernel_rfl
  have hp : Tryz.prog.stoodInHeld 60 = false := by kernel_rfl
  obtain ⟨x1, x2, x3⟩ := x
  obtain ⟨y1, y2, y3⟩ := y
  rw [run_eql_struct, show (10000 : Nat) = 9999 + 1 from rfl, run_equalIn_agg w 9999 60 _ _ hS hp]
  simp only [Program.fieldsOf, Tryz.underlying60]
  go_simp
  by_cases h1 : x1 = y1 <;> by_cases h2 : x2 = y2 <;> by_cases h3 : x3 = y3 <;> simp [h1, h2, h3]

end Go.Proofs.YtogdconliofblaaGreat

namespace Go.Proofs.YtogdconliofblaaGreat
open Go.RowKit

theorem neqHop (x y : Ls.Hop) (w : World) : (binOp .neq 60 (.agg #[.int .i64 x.iface, .int .u32 x.addr, .int .u32 x.router]) (.agg #[.int .i64 y.iface, .int .u32 y.addr, .int .u32 y.router])).run Tryz.prog w = .ok (.bool (!decide (x = y))) w := by
  have h := eqHop x y w
  simp only [binOp] at h ⊢
  revert h
  simp only [Sem.run_bind, Sem.run_pure]
  cases (Op.equal 60 (.agg #[.int .i64 x.iface, .int .u32 x.addr, .int .u32 x.router]) (.agg #[.int .i64 y.iface, .int .u32 y.addr, .int .u32 y.router])).run Tryz.prog w <;> simp

/-- the cells of a hop of one's own -/
theorem HopsOwn.cell {base : Nat} {w : World} {g n cap : Nat} {d : List Ls.Hop} (h : HopsOwn base w (.slice (some ⟨g, 0, none⟩) n cap) d) (i : Nat) (hi : i < d.length) :
    w.cell? ⟨g, i * 3, none⟩ = some (.int .i64 d[i].iface) ∧ w.cell? ⟨g, i * 3 + 1, none⟩ = some (.int .u32 d[i].addr) ∧ w.cell? ⟨g, i * 3 + 2, none⟩ = some (.int .u32 d[i].router) := by
  obtain ⟨rfl, h1, h2, h3, h4, cur, h5, h6, h7⟩ := h.block
  have f := fun j u hu => flat_get (k := 3) (d.map hopE) (hopE_len d) i (by simpa using hi) j u hu
  simp only [List.getElem_map, hopE] at f
  have g := fun j u (hj : i * 3 + j < d.length * 3) (hu : (d.map hopE).flatten[i * 3 + j]? = some u) => show cur[i * 3 + j]? = some u from by
    rw [← h7, List.getElem?_take, if_pos hj] at hu; simpa using hu
  exact ⟨blk_cell h5 (g 0 _ (by omega) (f 0 _ rfl)), blk_cell h5 (g 1 _ (by omega) (f 1 _ rfl)), blk_cell h5 (g 2 _ (by omega) (f 2 _ rfl))⟩
theorem HopsOwn.free {base : Nat} {w : World} {g n cap : Nat} {d : List Ls.Hop} (h : HopsOwn base w (.slice (some ⟨g, 0, none⟩) n cap) d) (i : Nat) : w.frozen? ⟨g, i, none⟩ = false := by
  obtain ⟨rfl, h1, h2, h3, h4, cur, h5, h6, h7⟩ := h.block
  exact blk_free h5 i

def CptPost (base : Nat) (w : World) (l : List Ls.Hop) (e : Ending) (w' : World) : Prop := ∃ v', e = .returned v' ∧ HopsOwn base w' v' (Ls.compact l) ∧ Below base w w'

/-- at the head of the first loop -/
structure CptA (base : Nat) (w : World) (v : Value) (l : List Ls.Hop) (k : Nat) (wr : World) : Prop where
  own : HopsOwn base wr v l
  bel : Below base w wr
  k1 : 1 ≤ k
  k2 : k ≤ l.length
  pre : Ls.compact (l.take k) = l.take k

/-- at the head of the second loop -/
structure CptB (base : Nat) (w : World) (v : Value) (l : List Ls.Hop) (k0 j kk : Nat) (d : List Ls.Hop) (wr : World) : Prop where
  own : HopsOwn base wr v d
  bel : Below base w wr
  len : d.length = l.length
  j1 : 1 ≤ j
  j2 : k0 + j ≤ l.length
  kk1 : kk + 1 ≤ k0 + j
  pre : Ls.compact (l.take (k0 + j)) = d.take kk
  rest : ∀ i (h : i < d.length) (h' : i < l.length), k0 + j ≤ i + 1 → d[i] = l[i]

theorem CptA.drewN {base : Nat} {w : World} {v : Value} {l : List Ls.Hop} {k : Nat} {wr : World} (R : CptA base w v l k wr) (hk : k < l.length) (hne : ¬ l[k] = l[k - 1]) (q : Nat) : CptA base w v l (k + 1) (wr.drewN q) := by
  refine ⟨R.own, ⟨R.bel.os, R.bel.tape, R.bel.output, R.bel.size, R.bel.block⟩, by omega, hk, ?_⟩
  rw [Ls.compact_take R.k1 hk, if_neg hne, R.pre, List.take_succ_eq_append_getElem hk]

theorem CptA.toB {base : Nat} {w : World} {v : Value} {l : List Ls.Hop} {k : Nat} {wr : World} (R : CptA base w v l k wr) (hk : k < l.length) (he : l[k] = l[k - 1]) (q : Nat) : CptB base w v l k 1 k l (wr.drewN q) := by
  refine ⟨R.own, ⟨R.bel.os, R.bel.tape, R.bel.output, R.bel.size, R.bel.block⟩, rfl, by omega, hk, by omega, ?_, fun _ _ _ _ => rfl⟩
  rw [Ls.compact_take R.k1 hk, if_pos he, R.pre]

theorem CptB.skip {base : Nat} {w : World} {v : Value} {l d : List Ls.Hop} {k0 j kk : Nat} {wr : World} (R : CptB base w v l k0 j kk d wr) (hk : k0 + j < l.length) (he : l[k0 + j] = l[k0 + j - 1]) (q : Nat) : CptB base w v l k0 (j + 1) kk d (wr.drewN q) := by
  have j1 := R.j1
  refine ⟨R.own, ⟨R.bel.os, R.bel.tape, R.bel.output, R.bel.size, R.bel.block⟩, R.len, by omega, by omega, by have := R.kk1; omega, ?_, fun i h h' hi => R.rest i h h' (by omega)⟩
  rw [← Nat.add_assoc, Ls.compact_take (by omega) hk, if_pos he, R.pre]

theorem CptB.put {base : Nat} {w : World} {g n cap : Nat} {l d : List Ls.Hop} {k0 j kk : Nat} {wr : World} (R : CptB base w (.slice (some ⟨g, 0, none⟩) n cap) l k0 j kk d wr) (hk : k0 + j < l.length) (he : ¬ l[k0 + j] = l[k0 + j - 1]) (q : Nat) (x : Ls.Hop) (hx : x = l[k0 + j]) :
    CptB base w (.slice (some ⟨g, 0, none⟩) n cap) l k0 (j + 1) (kk + 1) (d.set kk x) ((((wr.drewN q).setCell ⟨g, kk * 3, none⟩ (.int .i64 x.iface)).setCell ⟨g, kk * 3 + 1, none⟩ (.int .u32 x.addr)).setCell ⟨g, kk * 3 + 2, none⟩ (.int .u32 x.router)) := by
  have j1 := R.j1
  have k1 := R.kk1
  have hl := R.len
  have hb : base ≤ g := R.own.block.2.1
  have hB : Below base w (wr.drewN q) := ⟨R.bel.os, R.bel.tape, R.bel.output, R.bel.size, R.bel.block⟩
  have hO : HopsOwn base (wr.drewN q) (.slice (some ⟨g, 0, none⟩) n cap) d := R.own
  refine ⟨hO.set kk x (by omega), ((hB.setCell hb _).setCell hb _).setCell hb _, by simpa using hl, by omega, by omega, by omega, ?_, fun i h h' hi => ?_⟩
  · rw [← Nat.add_assoc, Ls.compact_take (by omega) hk, if_neg he, R.pre, ← hx]
    rw [List.take_succ_eq_append_getElem (by rw [List.length_set]; omega), List.take_set_of_le (Nat.le_refl _)]
    simp
  · rw [List.getElem_set, if_neg (by omega)]
    exact R.rest i (by simpa using h) h' (by omega)

theorem Tryz.zeroHop (w : World) : (zeroValue 60).run Tryz.prog w = .ok (.agg #[.int .i64 0, .int .u32 0, .int .u32 0]) w := by kernel_rfl

theorem zeros_one (n : Nat) : ∀ v ∈ (Builtin.zeroCells (Value.agg #[Value.int .i64 0, Value.int .u32 0, Value.int .u32 0]).cells n).toList, v.oneCell' = true := by
  intro v hv
  simp [Builtin.zeroCells, Value.cells] at hv
  obtain ⟨a, _, rfl⟩ := hv
  have : a % 3 < 3 := Nat.mod_lt _ (by omega)
  rcases h : a % 3 with _ | _ | _ | n
  · rfl
  · rfl
  · rfl
  · omega

/-- what 'clear' of the tail leaves -/
def Cleared (g : Nat) (i : Nat) (w : World) (C : Array Value) : Prop := ∀ cur, w.heap[g]? = some (.cells cur 60 (0, 0)) → C.size = cur.size ∧ C.toList.take (i * 3) = cur.toList.take (i * 3)

theorem clear_tail {base : Nat} {w : World} {g n cap : Nat} {d : List Ls.Hop} (h : HopsOwn base w (.slice (some ⟨g, 0, none⟩) n cap) d) (i : Nat) (hi : i < d.length) :
    ∃ C, (∀ ty, (Builtin.clear_ #[48] ty #[.slice (some ⟨g, i * 3, none⟩) (n - i) (cap - i)]).run Tryz.prog w = .ok (.tuple #[]) (w.setRow g C)) ∧ Cleared g i w C := by
  obtain ⟨rfl, h1, h2, h3, h4, cur, h5, h6, h7⟩ := h.block
  have hs := run_storeCells_at Tryz.prog g (i * 3) 60 (Builtin.zeroCells (Value.agg #[Value.int .i64 0, Value.int .u32 0, Value.int .u32 0]).cells (d.length - i)).toList 0 cur w h5 (by rw [Array.length_toList, size_zeroCells, h6]; simp [Value.cells]; omega) (zeros_one _)
  simp only [Nat.add_zero] at hs
  refine ⟨(cur.toList.take (i * 3) ++ (Builtin.zeroCells (Value.agg #[Value.int .i64 0, Value.int .u32 0, Value.int .u32 0]).cells (d.length - i)).toList ++ cur.toList.drop (i * 3 + (Builtin.zeroCells (Value.agg #[Value.int .i64 0, Value.int .u32 0, Value.int .u32 0]).cells (d.length - i)).toList.length)).toArray, fun ty => ?_, fun cur' h' => ?_⟩
  · obtain ⟨m, hm⟩ : ∃ m, d.length - i = m + 1 := ⟨d.length - i - 1, by omega⟩
    rw [hm] at hs ⊢
    simp only [Builtin.clear_, run_underlying Tryz.underlying48, Tryz.zeroHop, Sem.run_bind, Sem.run_pure, Result.andThen_ok, hs, List.getElem?_toArray, List.getElem?_cons_zero]
  · rw [h5] at h'
    cases h'
    have e := size_zeroCells (Value.agg #[Value.int .i64 0, Value.int .u32 0, Value.int .u32 0]).cells (d.length - i)
    have e3 : (Value.agg #[Value.int .i64 0, Value.int .u32 0, Value.int .u32 0]).cells.size = 3 := rfl
    rw [e3] at e
    have e4 : (Builtin.zeroCells (Value.agg #[Value.int .i64 0, Value.int .u32 0, Value.int .u32 0]).cells (d.length - i)).toList.length = (d.length - i) * 3 := by rw [Array.length_toList, e]
    constructor
    · simp only [List.size_toArray, List.length_append, List.length_take, List.length_drop, e4, Array.length_toList, h6]; omega
    · simp only [List.append_assoc]
      rw [List.take_append_of_le_length (by simp [h6]; omega), List.take_take, Nat.min_self]

theorem CptB.post {base : Nat} {w : World} {g n cap : Nat} {l d : List Ls.Hop} {k0 j kk : Nat} {wr : World} {C : Array Value} (R : CptB base w (.slice (some ⟨g, 0, none⟩) n cap) l k0 j kk d wr) (he : k0 + j = l.length) (hC : Cleared g kk wr C) :
    CptPost base w l (.returned (.slice (some ⟨g, 0, none⟩) kk cap)) (wr.setRow g C) := by
  obtain ⟨e1, h1, h2, h3, h4, cur, h5, h6, h7⟩ := R.own.block
  have := R.kk1; have := R.len
  refine ⟨_, rfl, ?_, ?_⟩
  · have p := R.pre
    rw [he, List.take_of_length_le (Nat.le_refl _)] at p
    rw [p]
    exact R.own.cut kk (by omega) C (by rw [(hC cur h5).1, h6]) fun cur' h' => (hC cur' h').2
  · exact R.bel.trans ⟨rfl, rfl, rfl, by simp [World.setRow], fun i hi => by simp only [World.setRow, Array.getElem?_modify]; rw [if_neg (by omega)]⟩

set_option maxHeartbeats 2000000 in
set_option maxRecDepth 100000 in
theorem compact_big (base : Nat) (w : World) (g cap : Nat) (l : List Ls.Hop) (hl : 2 ≤ l.length) (h : HopsOwn base w (.slice (some ⟨g, 0, none⟩) l.length cap) l) :
    Calls Tryz.prog 96 #[.slice (some ⟨g, 0, none⟩) l.length cap] w (CptPost base w l) := by
  have R0 : CptA base w (.slice (some ⟨g, 0, none⟩) l.length cap) l 1 w := ⟨h, Below.refl _ _, Nat.le_refl _, by omega, by
    obtain ⟨x, r, rfl⟩ : ∃ x r, l = x :: r := by cases l with | nil => simp at hl | cons x r => exact ⟨x, r, rfl⟩
    simp [Ls.compact]⟩
  obtain ⟨-, -, -, hcap, hcm, -⟩ := h.block
  have hcap' : (l.length : Int) ≤ (cap : Int) := by omega
  have hcm' : cap ≤ 9223372036854775807 := by unfold maxLen at hcm; omega
  clear h hcm
  have EQ := eqHop
  have NE := neqHop
  go_enter Tryz.func96, Tryz.ntmps96
  go_wp2_with fail
  go_loopw [3] (fun i wr => ∃ k : Nat, i = .int .i64 k ∧ CptA base w (.slice (some ⟨g, 0, none⟩) l.length cap) l k wr) (fun i _ => l.length - (intOf i).toNat)
  case atStart => exact ⟨1, rfl, R0⟩
  case round =>
    clear R0
    obtain ⟨k, rfl, R⟩ := hrel
    have k1 := R.k1
    have k2 := R.k2
    by_cases c : k < l.length
    · obtain ⟨x1, x2, x3⟩ := R.own.cell k c
      obtain ⟨y1, y2, y3⟩ := R.own.cell (k - 1) (by omega)
      have RR := Lib.hid R
      clear R
      by_cases e : l[k] = l[k - 1]
      · have NX := Lib.hid (RR.out.toB c e)
        have D := Lib.hid e
        generalize l[k] = hx at *
        generalize l[k - 1] = hy at *
        clear e
        have dd : decide (hx = hy) = true := by simpa using D.out
        have c' : (k : Int) < (l.length : Int) := by omega
        go_wp2_with fail
        go_quiet (fail)
        have B0 := Lib.hid (NX.out nq)
        generalize wr.drewN nq = wq at B0 ⊢
        clear NX RR D dd x1 x2 x3 y1 y2 y3
        go_wp2_with fail
        go_loopw [3, 5] (fun i jj wr => ∃ (kk j : Nat) (d : List Ls.Hop), i = .int .i64 kk ∧ jj = .int .i64 j ∧ CptB base w (.slice (some ⟨g, 0, none⟩) l.length cap) l k j kk d wr) (fun _ jj _ => l.length - (intOf jj).toNat)
        case atStart => exact ⟨k, 1, l, rfl, rfl, B0.out⟩
        case round =>
          clear B0
          obtain ⟨kk, j, d, rfl, rfl, R⟩ := hrel
          have j1 := R.j1
          have j2 := R.j2
          have kk1 := R.kk1
          have hd := R.len
          by_cases cj : k + j < l.length
          · obtain ⟨x1, x2, x3⟩ := R.own.cell (k + j) (by omega)
            obtain ⟨y1, y2, y3⟩ := R.own.cell (k + j - 1) (by omega)
            rw [R.rest (k + j) (by omega) cj (by omega)] at x1 x2 x3
            rw [R.rest (k + j - 1) (by omega) (by omega) (by omega)] at y1 y2 y3
            rw [show (k + j) * 3 = k * 3 + j * 3 from by omega] at x1 x2 x3
            rw [show (k + j - 1) * 3 = k * 3 + (j - 1) * 3 from by omega] at y1 y2 y3
            have RR := Lib.hid R
            have cj' : (j : Int) < ((l.length - k : Nat) : Int) := by omega
            by_cases e : l[k + j] = l[k + j - 1]
            · have NX := Lib.hid (RR.out.skip cj e)
              have D := Lib.hid e
              clear R
              generalize l[k + j] = hx at *
              generalize l[k + j - 1] = hy at *
              clear e hd
              have dd : decide (hx = hy) = true := by simpa using D.out
              go_wp2_with fail
              go_quiet (fail)
              go_wp2_with fail
              go_roundw
              case rel => exact ⟨kk, j + 1, d, rfl, by go_num, NX.out nq⟩
              case measure => simp [intOf]; omega
            · have NX := Lib.hid (RR.out.put cj e)
              have D := Lib.hid e
              have f0 := R.own.free (kk * 3)
              have f1 := R.own.free (kk * 3 + 1)
              have f2 := R.own.free (kk * 3 + 2)
              obtain ⟨z1, z2, z3⟩ := R.own.cell kk (by omega)
              clear R
              generalize l[k + j] = hx at *
              generalize l[k + j - 1] = hy at *
              generalize d[kk] = hz at *
              clear e
              have dd : decide (hx = hy) = false := by simpa using D.out
              go_wp2_with fail
              go_quiet (fail)
              have N := Lib.hid (NX.out nq hx rfl)
              clear NX
              go_wp2_with fail
              go_roundw
              case rel => exact ⟨kk + 1, j + 1, d.set kk hx, by go_num, by go_num, N.out⟩
              case measure => simp [intOf]; omega
          · obtain ⟨C, hrun, hC⟩ := clear_tail R.own kk (by omega)
            have PO := Lib.hid (R.post (by omega) hC)
            clear R
            go_wp2_with fail
            go_ret
            exact PO.out
      · have NX := Lib.hid (RR.out.drewN c e)
        have D := Lib.hid e
        generalize l[k] = hx at *
        generalize l[k - 1] = hy at *
        clear e
        have dd : decide (hx = hy) = false := by simpa using D.out
        have c' : (k : Int) < (l.length : Int) := by omega
        go_wp2_with fail
        go_quiet (fail)
        go_wp2_with fail
        go_roundw
        case rel => exact ⟨k + 1, by go_num, NX.out nq⟩
        case measure => simp [intOf]; omega
    · obtain ⟨a1, a2, a3, a4, a5⟩ := R
      have E : Hid (Ls.compact l = l) := Lib.hid (by rw [List.take_of_length_le (by omega)] at a5; exact a5)
      clear a5
      go_wp2_with fail
      go_ret
      exact ⟨_, rfl, by rw [E.out]; exact a1, a2⟩

set_option maxHeartbeats 400000 in
theorem compact_small (w : World) (a : Option Addr) (n cap : Nat) (hl : n < 2) :
    Calls Tryz.prog 96 #[.slice a n cap] w fun e w' => e = .returned (.slice a n cap) ∧ w = w' := by
  have hl' : (n : Int) < 2 := by omega
  go_enter Tryz.func96, Tryz.ntmps96
  go_wp2_with fail
  go_ret
  exact ⟨rfl, rfl⟩

theorem compact_short {α : Type} [DecidableEq α] (l : List α) (h : l.length < 2) : Ls.compact l = l := by
  match l, h with
  | [], _ => rfl
  | [x], _ => rfl
  | x :: y :: r, h => simp at h; omega

theorem compact_any (base : Nat) (w : World) (v : Value) (l : List Ls.Hop) (h : HopsOwn base w v l) :
    Calls Tryz.prog 96 #[v] w (CptPost base w l) := by
  rcases own_cases h with ⟨rfl, h0⟩ | ⟨g, cap, cur, rfl, _⟩
  · refine (compact_small w none 0 0 (by omega)).mono ?_
    rintro e w' ⟨rfl, rfl⟩
    exact ⟨_, rfl, by rw [compact_short l (by omega)]; exact h, Below.refl _ _⟩
  · by_cases c : 2 ≤ l.length
    · exact compact_big base w g cap l c h
    · refine (compact_small w _ _ _ (by omega)).mono ?_
      rintro e w' ⟨rfl, rfl⟩
      exact ⟨_, rfl, by rw [compact_short l (by omega)]; exact h, Below.refl _ _⟩

end Go.Proofs.YtogdconliofblaaGreat

namespace Go.Proofs.YtogdconliofblaaGreat
open Go.RowKit Go.Sort

section
variable {α : Type} [Inhabited α] {enc : α → List Value} {k : Nat}

theorem flatK_eq (hk : ∀ x, (enc x).length = k) (d : Array α) : (flatK enc k d).toList = (d.toList.map enc).flatten := by
  have hl : ∀ c ∈ d.toList.map enc, c.length = k := by
    intro c hc
    obtain ⟨x, _, rfl⟩ := List.mem_map.1 hc
    exact hk x
  apply List.ext_getElem?
  intro j
  by_cases c : j < d.size * k
  · have k0 : 0 < k := by rcases Nat.eq_zero_or_pos k with e | e; · subst e; simp at c
                          · exact e
    have hi : j / k < d.size := Nat.div_lt_of_lt_mul (by rwa [Nat.mul_comm])
    have hm := Nat.mod_lt j k0
    have hd : j / k * k + j % k = j := Nat.div_add_mod' j k
    have e1 := flat_get (k := k) (d.toList.map enc) hl (j / k) (by simpa using hi) (j % k) ((enc d[j / k]!)[j % k]!) (by
      simp only [List.getElem_map, Array.getElem_toList]
      rw [getElem!_pos d _ hi, getElem!_pos _ _ (by rw [hk]; exact hm)]
      exact List.getElem?_eq_getElem (by rw [hk]; exact hm))
    rw [hd] at e1
    rw [e1, Array.getElem?_toList, Array.getElem?_eq_getElem (by simpa using c)]
    have := get_flatK enc k d j c
    rw [getElem!_pos _ _ (by simpa using c)] at this
    rw [this]
  · rw [List.getElem?_eq_none (by simp; omega), List.getElem?_eq_none (by rw [flat_len _ hl]; simp; omega)]

theorem own_holds (hk : ∀ x, (enc x).length = k) {w : World} {base : Nat} {e : TypeId} {g cap : Nat} {l : List α} (h : w.ownsRow base e k (.slice (some ⟨g, 0, none⟩) l.length cap) l.length (l.map enc).flatten) :
    HoldsK enc k w g 0 l.toArray := by
  rcases own_cases h with ⟨e, _⟩ | ⟨g', cap', cur, e', h1, h2, h3, h4, h5, h6, h7⟩
  · cases e
  · simp only [Value.slice.injEq, Option.some.injEq, Addr.mk.injEq, and_true, true_and] at e'
    obtain ⟨e1, e3⟩ := e'
    subst e1 e3
    intro j hj
    rw [size_flatK] at hj
    have hj' : j < l.length * k := by simpa using hj
    refine ⟨?_, blk_free h3 _⟩
    rw [Nat.zero_add]
    refine blk_cell h3 ?_
    have e2 : (flatK enc k l.toArray).toList[j]? = some (flatK enc k l.toArray)[j]! := by
      rw [Array.getElem?_toList, Array.getElem?_eq_getElem (by simpa using hj'), getElem!_pos _ _ (by simpa using hj')]
    rw [flatK_eq hk] at e2
    simp only at e2
    rw [← h7, List.getElem?_take, if_pos hj'] at e2
    simpa using e2

theorem heap_sort {w : World} {g m : Nat} {d' : Array α} {os : Array Obj} : ∀ i, i < w.heap.size → i ≠ g → (sortWorldK enc k w g 0 m d' os).heap[i]? = w.heap[i]? := by
  intro i hi hne
  show (w.heap.modify g (onCells (putCells id 0 (flatK enc k d'))) ++ os)[i]? = _
  rw [Array.getElem?_append_left (by simpa using hi), Array.getElem?_modify, if_neg (fun h => hne h.symm)]

theorem own_sorted (hk : ∀ x, (enc x).length = k) {w : World} {base : Nat} {e : TypeId} {g cap : Nat} {l : List α} (h : w.ownsRow base e k (.slice (some ⟨g, 0, none⟩) l.length cap) l.length (l.map enc).flatten)
    {m : Nat} {d' : Array α} {os : Array Obj} (hs : d'.size = l.length) :
    (sortWorldK enc k w g 0 m d' os).ownsRow base e k (.slice (some ⟨g, 0, none⟩) l.length cap) l.length (d'.toList.map enc).flatten ∧ w.grownBy (sortWorldK enc k w g 0 m d' os) (some g) := by
  have hl : ∀ c ∈ d'.toList.map enc, c.length = k := by
    intro c hc
    obtain ⟨x, _, rfl⟩ := List.mem_map.1 hc
    exact hk x
  rcases own_cases h with ⟨e, _⟩ | ⟨g', cap', cur, e', h1, h2, h3, h4, h5, h6, h7⟩
  · cases e
  · simp only [Value.slice.injEq, Option.some.injEq, Addr.mk.injEq, and_true, true_and] at e'
    obtain ⟨e1, e3⟩ := e'
    subst e1 e3
    have hb : (sortWorldK enc k w g 0 m d' os).heap[g]? = some (.cells (putCells id 0 (flatK enc k d') cur) e (0, 0)) := by
      show (w.heap.modify g (onCells (putCells id 0 (flatK enc k d'))) ++ os)[g]? = _
      rw [Array.getElem?_append_left (by simpa using h2), Array.getElem?_modify, if_pos rfl, h3]
      rfl
    refine ⟨⟨by rw [flat_len _ hl]; simp [hs], .inr ⟨g, cap, _, rfl, h1, hb, h4, h5, by simpa [putCells] using h6, ?_⟩⟩, rfl, rfl, rfl, ?_, fun i hi hne => heap_sort i hi (fun e => hne (by rw [e]))⟩
    · rw [← flatK_eq hk]
      apply List.ext_getElem?
      intro j
      rw [List.getElem?_take]
      by_cases c : j < l.length * k
      · have cc : j < cur.size := by rw [h6]; exact Nat.lt_of_lt_of_le c (Nat.mul_le_mul_right _ h4)
        rw [if_pos c]
        simp only [putCells, Array.getElem?_toList, Array.getElem?_mapIdx, Array.getElem?_eq_getElem cc, Option.map_some, Nat.zero_le, true_and, Nat.zero_add, size_flatK, hs, Nat.sub_zero, id]
        rw [if_pos c, Array.getElem?_eq_getElem (by rw [size_flatK, hs]; exact c), getElem!_pos _ _ (by rw [size_flatK, hs]; exact c)]
      · rw [if_neg c, List.getElem?_eq_none (by simp [hs]; omega)]
    · show _ ≤ (w.heap.modify g (onCells (putCells id 0 (flatK enc k d'))) ++ os).size
      simp
end

/-- what the sort leaves, in the words of lists -/
theorem sorted_list {α : Type} [Inhabited α] {lt : α → α → Bool} {l : List α} {d' : Array α} (hp : PermIn 0 l.toArray.size l.toArray d') (hs : SortedIn lt 0 l.toArray.size d') :
    d'.size = l.length ∧ d'.toList.Perm l ∧ d'.toList.Pairwise fun a b => lt b a = false := by
  obtain ⟨h1, _, h3⟩ := hp
  have h1 : d'.size = l.length := by simpa using h1
  refine ⟨h1, ?_, ?_⟩
  · have e1 : d'.extract 0 l.toArray.size = d' := by rw [List.size_toArray, ← h1]; exact Array.extract_size
    have e2 : l.toArray.extract 0 l.toArray.size = l.toArray := Array.extract_size
    rw [e1, e2] at h3
    exact h3
  · rw [List.pairwise_iff_getElem]
    intro i j hi hj hij
    have := hs i j (Nat.zero_le _) hij (by simp; simpa [h1] using hj)
    rw [getElem!_pos d' j (by simpa using hj), getElem!_pos d' i (by simpa using hi)] at this
    simpa using this

end Go.Proofs.YtogdconliofblaaGreat

namespace Go.Proofs.YtogdconliofblaaGreat
open Go.RowKit

set_option maxHeartbeats 2000000 in
set_option maxRecDepth 100000 in
theorem bits_len0 (w : World) : Calls Tryz.prog 77 #[.int .u64 0] w fun e w' => (∃ x : Int, e = .returned (.int .i64 x)) ∧ w = w' := by
  go_enter Tryz.func77, Tryz.ntmps77
  go_wp2
  go_ret
  exact ⟨⟨_, rfl⟩, rfl⟩

set_option maxHeartbeats 2000000 in
theorem ins_none_hop (p : Option Addr) (cap : Nat) (fv : Value) (w : World) :
    Calls Tryz.prog 157 #[.slice p 0 cap, .int .i64 0, .int .i64 0, fv] w fun e w' => e = .returned (.tuple #[]) ∧ w = w' := by
  go_enter Tryz.func157, Tryz.ntmps157
  go_wp2_with fail
  refine wp_loop_rounds 1 ?_
  rw [rounds_succ]
  go_wp2_with fail
  go_end0
  exact ⟨rfl, rfl⟩

set_option maxHeartbeats 2000000 in
theorem pdq_none_hop (p : Option Addr) (cap : Nat) (lim : Int) (fv : Value) (w : World) :
    Calls Tryz.prog 137 #[.slice p 0 cap, .int .i64 0, .int .i64 0, .int .i64 lim, fv] w fun e w' => e = .returned (.tuple #[]) ∧ w = w' := by
  go_enter Tryz.func137, Tryz.ntmps137
  go_wp2_with fail
  refine wp_loop_rounds 1 ?_
  rw [rounds_succ]
  go_wp2_with fail
  refine (ins_none_hop p cap fv w).mono ?_
  rintro e w' ⟨rfl, rfl⟩
  go_wp2_with fail
  (try simp only [Exit.inBlock, Exit.then]); refine bodyPost_ret (results_none rfl _ _ _) rfl ?_
  exact ⟨rfl, rfl⟩

set_option maxHeartbeats 2000000 in
theorem sort_none_hop (p : Option Addr) (cap : Nat) (fv : Value) (w : World) :
    Calls Tryz.prog 94 #[.slice p 0 cap, fv] w fun e w' => e = .returned (.tuple #[]) ∧ w = w' := by
  go_enter Tryz.func94, Tryz.ntmps94
  go_wp2_with fail
  have hl : Calls Tryz.prog 77 #[.int .u64 0] w fun e w' => (∃ x : Int, e = .returned (.int .i64 x)) ∧ w = w' := bits_len0 w
  refine hl.mono ?_
  rintro e w' ⟨⟨x, rfl⟩, rfl⟩
  go_wp2_with fail
  refine (pdq_none_hop p cap x fv w).mono ?_
  rintro e w' ⟨rfl, rfl⟩
  go_wp2_with fail
  go_end0
  exact ⟨rfl, rfl⟩

set_option maxHeartbeats 2000000 in
theorem ins_none_rt (p : Option Addr) (cap : Nat) (fv : Value) (w : World) :
    Calls Tryz.prog 127 #[.slice p 0 cap, .int .i64 0, .int .i64 0, fv] w fun e w' => e = .returned (.tuple #[]) ∧ w = w' := by
  go_enter Tryz.func127, Tryz.ntmps127
  go_wp2_with fail
  refine wp_loop_rounds 1 ?_
  rw [rounds_succ]
  go_wp2_with fail
  go_end0
  exact ⟨rfl, rfl⟩

set_option maxHeartbeats 2000000 in
theorem pdq_none_rt (p : Option Addr) (cap : Nat) (lim : Int) (fv : Value) (w : World) :
    Calls Tryz.prog 87 #[.slice p 0 cap, .int .i64 0, .int .i64 0, .int .i64 lim, fv] w fun e w' => e = .returned (.tuple #[]) ∧ w = w' := by
  go_enter Tryz.func87, Tryz.ntmps87
  go_wp2_with fail
  refine wp_loop_rounds 1 ?_
  rw [rounds_succ]
  go_wp2_with fail
  refine (ins_none_rt p cap fv w).mono ?_
  rintro e w' ⟨rfl, rfl⟩
  go_wp2_with fail
  (try simp only [Exit.inBlock, Exit.then]); refine bodyPost_ret (results_none rfl _ _ _) rfl ?_
  exact ⟨rfl, rfl⟩

set_option maxHeartbeats 2000000 in
theorem sort_none_rt (p : Option Addr) (cap : Nat) (fv : Value) (w : World) :
    Calls Tryz.prog 50 #[.slice p 0 cap, fv] w fun e w' => e = .returned (.tuple #[]) ∧ w = w' := by
  go_enter Tryz.func50, Tryz.ntmps50
  go_wp2_with fail
  have hl : Calls Tryz.prog 77 #[.int .u64 0] w fun e w' => (∃ x : Int, e = .returned (.int .i64 x)) ∧ w = w' := bits_len0 w
  refine hl.mono ?_
  rintro e w' ⟨⟨x, rfl⟩, rfl⟩
  go_wp2_with fail
  refine (pdq_none_rt p cap x fv w).mono ?_
  rintro e w' ⟨rfl, rfl⟩
  go_wp2_with fail
  go_end0
  exact ⟨rfl, rfl⟩

set_option maxHeartbeats 2000000 in
theorem ins_none_lsa (p : Option Addr) (cap : Nat) (fv : Value) (w : World) :
    Calls Tryz.prog 106 #[.slice p 0 cap, .int .i64 0, .int .i64 0, fv] w fun e w' => e = .returned (.tuple #[]) ∧ w = w' := by
  go_enter Tryz.func106, Tryz.ntmps106
  go_wp2_with fail
  refine wp_loop_rounds 1 ?_
  rw [rounds_succ]
  go_wp2_with fail
  go_end0
  exact ⟨rfl, rfl⟩

set_option maxHeartbeats 2000000 in
theorem pdq_none_lsa (p : Option Addr) (cap : Nat) (lim : Int) (fv : Value) (w : World) :
    Calls Tryz.prog 76 #[.slice p 0 cap, .int .i64 0, .int .i64 0, .int .i64 lim, fv] w fun e w' => e = .returned (.tuple #[]) ∧ w = w' := by
  go_enter Tryz.func76, Tryz.ntmps76
  go_wp2_with fail
  refine wp_loop_rounds 1 ?_
  rw [rounds_succ]
  go_wp2_with fail
  refine (ins_none_lsa p cap fv w).mono ?_
  rintro e w' ⟨rfl, rfl⟩
  go_wp2_with fail
  (try simp only [Exit.inBlock, Exit.then]); refine bodyPost_ret (results_none rfl _ _ _) rfl ?_
  exact ⟨rfl, rfl⟩

set_option maxHeartbeats 2000000 in
theorem sort_none_lsa (p : Option Addr) (cap : Nat) (fv : Value) (w : World) :
    Calls Tryz.prog 37 #[.slice p 0 cap, fv] w fun e w' => e = .returned (.tuple #[]) ∧ w = w' := by
  go_enter Tryz.func37, Tryz.ntmps37
  go_wp2_with fail
  have hl : Calls Tryz.prog 77 #[.int .u64 0] w fun e w' => (∃ x : Int, e = .returned (.int .i64 x)) ∧ w = w' := bits_len0 w
  refine hl.mono ?_
  rintro e w' ⟨⟨x, rfl⟩, rfl⟩
  go_wp2_with fail
  refine (pdq_none_lsa p cap x fv w).mono ?_
  rintro e w' ⟨rfl, rfl⟩
  go_wp2_with fail
  go_end0
  exact ⟨rfl, rfl⟩

end Go.Proofs.YtogdconliofblaaGreat

namespace Go.Proofs
open Go.Shelf
def Tryz.sortHop_ren : Go.Shelf.Ren := ⟨fun | 6 => 94 | 15 => 77 | 14 => 137 | 28 => 114 | 29 => 115 | 20 => 157 | 21 => 158 | 22 => 159 | 23 => 160 | 24 => 161 | 25 => 162 | 26 => 163 | 27 => 164 | 46 => 186 | 47 => 147 | 48 => 148 | 49 => 187 | 50 => 188 | 57 => 194 | n => n, fun | 22 => 48 | 24 => 60 | 25 => 153 | 3 => 3 | 39 => 136 | 0 => 0 | 53 => 22 | 55 => 174 | 4 => 4 | 46 => 167 | 45 => 166 | 50 => 90 | 5 => 5 | 9 => 9 | 66 => 196 | 70 => 200 | 76 => 224 | 77 => 217 | n => n, fun | n => n⟩
theorem Tryz.sortHop : Go.Proofs.SlLaysF0.n6 Tryz.prog Tryz.sortHop_ren := {
  mixed := by kernel_rfl
  f6 := ⟨Tryz.f94.name, by decide, Tryz.func94.trans (congrArg some (by kernel_rfl))⟩
  f14 := ⟨Tryz.f137.name, by decide, Tryz.func137.trans (congrArg some (by kernel_rfl))⟩
  f15 := Tryz.func77.trans (congrArg some (by kernel_rfl))
  f20 := ⟨Tryz.f157.name, by decide, Tryz.func157.trans (congrArg some (by kernel_rfl))⟩
  f21 := ⟨Tryz.f158.name, by decide, Tryz.func158.trans (congrArg some (by kernel_rfl))⟩
  f22 := ⟨Tryz.f159.name, by decide, Tryz.func159.trans (congrArg some (by kernel_rfl))⟩
  f23 := ⟨Tryz.f160.name, by decide, Tryz.func160.trans (congrArg some (by kernel_rfl))⟩
  f24 := ⟨Tryz.f161.name, by decide, Tryz.func161.trans (congrArg some (by kernel_rfl))⟩
  f25 := ⟨Tryz.f162.name, by decide, Tryz.func162.trans (congrArg some (by kernel_rfl))⟩
  f26 := ⟨Tryz.f163.name, by decide, Tryz.func163.trans (congrArg some (by kernel_rfl))⟩
  f27 := ⟨Tryz.f164.name, by decide, Tryz.func164.trans (congrArg some (by kernel_rfl))⟩
  f28 := Tryz.func114.trans (congrArg some (by kernel_rfl))
  f29 := Tryz.func115.trans (congrArg some (by kernel_rfl))
  f46 := ⟨Tryz.f186.name, by decide, Tryz.func186.trans (congrArg some (by kernel_rfl))⟩
  f47 := Tryz.func147.trans (congrArg some (by kernel_rfl))
  f48 := Tryz.func148.trans (congrArg some (by kernel_rfl))
  f49 := ⟨Tryz.f187.name, by decide, Tryz.func187.trans (congrArg some (by kernel_rfl))⟩
  f50 := ⟨Tryz.f188.name, by decide, Tryz.func188.trans (congrArg some (by kernel_rfl))⟩
  f57 := ⟨Tryz.f194.name, by decide, Tryz.func194.trans (congrArg some (by kernel_rfl))⟩
  t0 := Tryz.underlying0
  a0 := Tryz.isAgg0
  z0 := Tryz.sizeOf0
  v0 := Tryz.zeroValue0
  t3 := Tryz.underlying3
  a3 := Tryz.isAgg3
  z3 := Tryz.sizeOf3
  v3 := Tryz.zeroValue3
  t4 := Tryz.underlying4
  a4 := Tryz.isAgg4
  z4 := Tryz.sizeOf4
  v4 := Tryz.zeroValue4
  t5 := Tryz.underlying5
  a5 := Tryz.isAgg5
  z5 := Tryz.sizeOf5
  v5 := Tryz.zeroValue5
  t9 := Tryz.underlying9
  a9 := Tryz.isAgg9
  z9 := Tryz.sizeOf9
  v9 := Tryz.zeroValue9
  t22 := Tryz.underlying48
  a22 := Tryz.isAgg48
  z22 := Tryz.sizeOf48
  v22 := Tryz.zeroValue48
  t25 := Tryz.underlying153
  a25 := Tryz.isAgg153
  z25 := Tryz.sizeOf153
  v25 := Tryz.zeroValue153
  t39 := Tryz.underlying136
  a39 := Tryz.isAgg136
  z39 := Tryz.sizeOf136
  v39 := Tryz.zeroValue136
  t45 := Tryz.underlying166
  a45 := Tryz.isAgg166
  z45 := Tryz.sizeOf166
  v45 := Tryz.zeroValue166
  t46 := Tryz.underlying167
  a46 := Tryz.isAgg167
  z46 := Tryz.sizeOf167
  v46 := Tryz.zeroValue167
  t50 := Tryz.underlying90
  a50 := Tryz.isAgg90
  z50 := Tryz.sizeOf90
  v50 := Tryz.zeroValue90
  t53 := Tryz.underlying22
  a53 := Tryz.isAgg22
  z53 := Tryz.sizeOf22
  v53 := Tryz.zeroValue22
  t55 := Tryz.underlying174
  a55 := Tryz.isAgg174
  z55 := Tryz.sizeOf174
  v55 := Tryz.zeroValue174
  t66 := Tryz.underlying196
  a66 := Tryz.isAgg196
  z66 := Tryz.sizeOf196
  v66 := Tryz.zeroValue196
  t70 := Tryz.underlying200
  a70 := Tryz.isAgg200
  z70 := Tryz.sizeOf200
  v70 := Tryz.zeroValue200
  t76 := Tryz.underlying224
  a76 := Tryz.isAgg224
  z76 := Tryz.sizeOf224
  v76 := Tryz.zeroValue224
  t77 := Tryz.underlying217
  a77 := Tryz.isAgg217
  z77 := Tryz.sizeOf217
  v77 := Tryz.zeroValue217 }
def Tryz.sortRoute_ren : Go.Shelf.Ren := ⟨fun | 6 => 50 | 15 => 77 | 14 => 87 | 28 => 114 | 29 => 115 | 20 => 127 | 21 => 128 | 22 => 129 | 23 => 130 | 24 => 131 | 25 => 132 | 26 => 133 | 27 => 134 | 46 => 153 | 47 => 147 | 48 => 148 | 49 => 154 | 50 => 155 | 57 => 184 | n => n, fun | 22 => 27 | 24 => 57 | 25 => 103 | 3 => 3 | 39 => 136 | 0 => 0 | 53 => 22 | 55 => 174 | 4 => 4 | 46 => 167 | 45 => 166 | 50 => 90 | 5 => 5 | 9 => 9 | 66 => 196 | 70 => 200 | 76 => 224 | 77 => 217 | n => n, fun | n => n⟩
theorem Tryz.sortRoute : Go.Proofs.SlLaysF0.n6 Tryz.prog Tryz.sortRoute_ren := {
  mixed := by kernel_rfl
  f6 := ⟨Tryz.f50.name, by decide, Tryz.func50.trans (congrArg some (by kernel_rfl))⟩
  f14 := ⟨Tryz.f87.name, by decide, Tryz.func87.trans (congrArg some (by kernel_rfl))⟩
  f15 := Tryz.func77.trans (congrArg some (by kernel_rfl))
  f20 := ⟨Tryz.f127.name, by decide, Tryz.func127.trans (congrArg some (by kernel_rfl))⟩
  f21 := ⟨Tryz.f128.name, by decide, Tryz.func128.trans (congrArg some (by kernel_rfl))⟩
  f22 := ⟨Tryz.f129.name, by decide, Tryz.func129.trans (congrArg some (by kernel_rfl))⟩
  f23 := ⟨Tryz.f130.name, by decide, Tryz.func130.trans (congrArg some (by kernel_rfl))⟩
  f24 := ⟨Tryz.f131.name, by decide, Tryz.func131.trans (congrArg some (by kernel_rfl))⟩
  f25 := ⟨Tryz.f132.name, by decide, Tryz.func132.trans (congrArg some (by kernel_rfl))⟩
  f26 := ⟨Tryz.f133.name, by decide, Tryz.func133.trans (congrArg some (by kernel_rfl))⟩
  f27 := ⟨Tryz.f134.name, by decide, Tryz.func134.trans (congrArg some (by kernel_rfl))⟩
  f28 := Tryz.func114.trans (congrArg some (by kernel_rfl))
  f29 := Tryz.func115.trans (congrArg some (by kernel_rfl))
  f46 := ⟨Tryz.f153.name, by decide, Tryz.func153.trans (congrArg some (by kernel_rfl))⟩
  f47 := Tryz.func147.trans (congrArg some (by kernel_rfl))
  f48 := Tryz.func148.trans (congrArg some (by kernel_rfl))
  f49 := ⟨Tryz.f154.name, by decide, Tryz.func154.trans (congrArg some (by kernel_rfl))⟩
  f50 := ⟨Tryz.f155.name, by decide, Tryz.func155.trans (congrArg some (by kernel_rfl))⟩
  f57 := ⟨Tryz.f184.name, by decide, Tryz.func184.trans (congrArg some (by kernel_rfl))⟩
  t0 := Tryz.underlying0
  a0 := Tryz.isAgg0
  z0 := Tryz.sizeOf0
  v0 := Tryz.zeroValue0
  t3 := Tryz.underlying3
  a3 := Tryz.isAgg3
  z3 := Tryz.sizeOf3
  v3 := Tryz.zeroValue3
  t4 := Tryz.underlying4
  a4 := Tryz.isAgg4
  z4 := Tryz.sizeOf4
  v4 := Tryz.zeroValue4
  t5 := Tryz.underlying5
  a5 := Tryz.isAgg5
  z5 := Tryz.sizeOf5
  v5 := Tryz.zeroValue5
  t9 := Tryz.underlying9
  a9 := Tryz.isAgg9
  z9 := Tryz.sizeOf9
  v9 := Tryz.zeroValue9
  t22 := Tryz.underlying27
  a22 := Tryz.isAgg27
  z22 := Tryz.sizeOf27
  v22 := Tryz.zeroValue27
  t25 := Tryz.underlying103
  a25 := Tryz.isAgg103
  z25 := Tryz.sizeOf103
  v25 := Tryz.zeroValue103
  t39 := Tryz.underlying136
  a39 := Tryz.isAgg136
  z39 := Tryz.sizeOf136
  v39 := Tryz.zeroValue136
  t45 := Tryz.underlying166
  a45 := Tryz.isAgg166
  z45 := Tryz.sizeOf166
  v45 := Tryz.zeroValue166
  t46 := Tryz.underlying167
  a46 := Tryz.isAgg167
  z46 := Tryz.sizeOf167
  v46 := Tryz.zeroValue167
  t50 := Tryz.underlying90
  a50 := Tryz.isAgg90
  z50 := Tryz.sizeOf90
  v50 := Tryz.zeroValue90
  t53 := Tryz.underlying22
  a53 := Tryz.isAgg22
  z53 := Tryz.sizeOf22
  v53 := Tryz.zeroValue22
  t55 := Tryz.underlying174
  a55 := Tryz.isAgg174
  z55 := Tryz.sizeOf174
  v55 := Tryz.zeroValue174
  t66 := Tryz.underlying196
  a66 := Tryz.isAgg196
  z66 := Tryz.sizeOf196
  v66 := Tryz.zeroValue196
  t70 := Tryz.underlying200
  a70 := Tryz.isAgg200
  z70 := Tryz.sizeOf200
  v70 := Tryz.zeroValue200
  t76 := Tryz.underlying224
  a76 := Tryz.isAgg224
  z76 := Tryz.sizeOf224
  v76 := Tryz.zeroValue224
  t77 := Tryz.underlying217
  a77 := Tryz.isAgg217
  z77 := Tryz.sizeOf217
  v77 := Tryz.zeroValue217 }
def Tryz.sortLsa_ren : Go.Shelf.Ren := ⟨fun | 6 => 37 | 15 => 77 | 14 => 76 | 28 => 114 | 29 => 115 | 20 => 106 | 21 => 107 | 22 => 108 | 23 => 109 | 24 => 110 | 25 => 111 | 26 => 112 | 27 => 113 | 46 => 146 | 47 => 147 | 48 => 148 | 49 => 149 | 50 => 150 | 57 => 182 | n => n, fun | 22 => 32 | 24 => 47 | 25 => 87 | 3 => 3 | 39 => 136 | 0 => 0 | 53 => 22 | 55 => 174 | 4 => 4 | 46 => 167 | 45 => 166 | 50 => 90 | 5 => 5 | 9 => 9 | 66 => 196 | 70 => 200 | 76 => 224 | 77 => 217 | n => n, fun | n => n⟩
theorem Tryz.sortLsa : Go.Proofs.SlLaysF0.n6 Tryz.prog Tryz.sortLsa_ren := {
  mixed := by kernel_rfl
  f6 := ⟨Tryz.f37.name, by decide, Tryz.func37.trans (congrArg some (by kernel_rfl))⟩
  f14 := ⟨Tryz.f76.name, by decide, Tryz.func76.trans (congrArg some (by kernel_rfl))⟩
  f15 := Tryz.func77.trans (congrArg some (by kernel_rfl))
  f20 := ⟨Tryz.f106.name, by decide, Tryz.func106.trans (congrArg some (by kernel_rfl))⟩
  f21 := ⟨Tryz.f107.name, by decide, Tryz.func107.trans (congrArg some (by kernel_rfl))⟩
  f22 := ⟨Tryz.f108.name, by decide, Tryz.func108.trans (congrArg some (by kernel_rfl))⟩
  f23 := ⟨Tryz.f109.name, by decide, Tryz.func109.trans (congrArg some (by kernel_rfl))⟩
  f24 := ⟨Tryz.f110.name, by decide, Tryz.func110.trans (congrArg some (by kernel_rfl))⟩
  f25 := ⟨Tryz.f111.name, by decide, Tryz.func111.trans (congrArg some (by kernel_rfl))⟩
  f26 := ⟨Tryz.f112.name, by decide, Tryz.func112.trans (congrArg some (by kernel_rfl))⟩
  f27 := ⟨Tryz.f113.name, by decide, Tryz.func113.trans (congrArg some (by kernel_rfl))⟩
  f28 := Tryz.func114.trans (congrArg some (by kernel_rfl))
  f29 := Tryz.func115.trans (congrArg some (by kernel_rfl))
  f46 := ⟨Tryz.f146.name, by decide, Tryz.func146.trans (congrArg some (by kernel_rfl))⟩
  f47 := Tryz.func147.trans (congrArg some (by kernel_rfl))
  f48 := Tryz.func148.trans (congrArg some (by kernel_rfl))
  f49 := ⟨Tryz.f149.name, by decide, Tryz.func149.trans (congrArg some (by kernel_rfl))⟩
  f50 := ⟨Tryz.f150.name, by decide, Tryz.func150.trans (congrArg some (by kernel_rfl))⟩
  f57 := ⟨Tryz.f182.name, by decide, Tryz.func182.trans (congrArg some (by kernel_rfl))⟩
  t0 := Tryz.underlying0
  a0 := Tryz.isAgg0
  z0 := Tryz.sizeOf0
  v0 := Tryz.zeroValue0
  t3 := Tryz.underlying3
  a3 := Tryz.isAgg3
  z3 := Tryz.sizeOf3
  v3 := Tryz.zeroValue3
  t4 := Tryz.underlying4
  a4 := Tryz.isAgg4
  z4 := Tryz.sizeOf4
  v4 := Tryz.zeroValue4
  t5 := Tryz.underlying5
  a5 := Tryz.isAgg5
  z5 := Tryz.sizeOf5
  v5 := Tryz.zeroValue5
  t9 := Tryz.underlying9
  a9 := Tryz.isAgg9
  z9 := Tryz.sizeOf9
  v9 := Tryz.zeroValue9
  t22 := Tryz.underlying32
  a22 := Tryz.isAgg32
  z22 := Tryz.sizeOf32
  v22 := Tryz.zeroValue32
  t25 := Tryz.underlying87
  a25 := Tryz.isAgg87
  z25 := Tryz.sizeOf87
  v25 := Tryz.zeroValue87
  t39 := Tryz.underlying136
  a39 := Tryz.isAgg136
  z39 := Tryz.sizeOf136
  v39 := Tryz.zeroValue136
  t45 := Tryz.underlying166
  a45 := Tryz.isAgg166
  z45 := Tryz.sizeOf166
  v45 := Tryz.zeroValue166
  t46 := Tryz.underlying167
  a46 := Tryz.isAgg167
  z46 := Tryz.sizeOf167
  v46 := Tryz.zeroValue167
  t50 := Tryz.underlying90
  a50 := Tryz.isAgg90
  z50 := Tryz.sizeOf90
  v50 := Tryz.zeroValue90
  t53 := Tryz.underlying22
  a53 := Tryz.isAgg22
  z53 := Tryz.sizeOf22
  v53 := Tryz.zeroValue22
  t55 := Tryz.underlying174
  a55 := Tryz.isAgg174
  z55 := Tryz.sizeOf174
  v55 := Tryz.zeroValue174
  t66 := Tryz.underlying196
  a66 := Tryz.isAgg196
  z66 := Tryz.sizeOf196
  v66 := Tryz.zeroValue196
  t70 := Tryz.underlying200
  a70 := Tryz.isAgg200
  z70 := Tryz.sizeOf200
  v70 := Tryz.zeroValue200
  t76 := Tryz.underlying224
  a76 := Tryz.isAgg224
  z76 := Tryz.sizeOf224
  v76 := Tryz.zeroValue224
  t77 := Tryz.underlying217
  a77 := Tryz.isAgg217
  z77 := Tryz.sizeOf217
  v77 := Tryz.zeroValue217 }
end Go.Proofs

namespace Go.Proofs.YtogdconliofblaaGreat
open Go.RowKit

theorem cmpI_cases (a b : Int) : (a < b ∧ cmpI a b = -1) ∨ (b < a ∧ cmpI a b = 1) ∨ (a = b ∧ cmpI a b = 0) := by
  by_cases h1 : a < b
  · exact .inl ⟨h1, cmpI_lt h1⟩
  · by_cases h2 : b < a
    · exact .inr (.inl ⟨h2, cmpI_gt h2⟩)
    · exact .inr (.inr ⟨by omega, cmpI_eq (by omega)⟩)

theorem hopCmp_lt (a b : Ls.Hop) : ltOf hopCmp a b = Ls.hopLt a b := by
  obtain ⟨a1, a2, a3⟩ := a
  obtain ⟨b1, b2, b3⟩ := b
  unfold ltOf hopCmp Ls.hopLt Ls.lexB
  simp only [orI]
  rcases cmpI_cases a1 b1 with ⟨h1, e1⟩ | ⟨h1, e1⟩ | ⟨h1, e1⟩ <;> rcases cmpI_cases a2 b2 with ⟨h2, e2⟩ | ⟨h2, e2⟩ | ⟨h2, e2⟩ <;> rcases cmpI_cases a3 b3 with ⟨h3, e3⟩ | ⟨h3, e3⟩ | ⟨h3, e3⟩ <;>
    rw [e1, e2, e3, Bool.eq_iff_iff] <;> simp <;> omega

theorem hopSWO : Go.Sort.SWO (ltOf hopCmp) := by
  have e : ltOf hopCmp = Ls.hopLt := by funext a b; exact hopCmp_lt a b
  rw [e]
  refine ⟨Ls.hopLin.irr, Ls.hopLin.tr, fun x y z h1 h2 => ?_⟩
  cases c : Ls.hopLt x z with
  | false => rfl
  | true =>
    cases d : Ls.hopLt y x with
    | true => have := Ls.hopLin.tr _ _ _ d c; rw [h2] at this; cases this
    | false =>
      have := Ls.hopLin.tot _ _ h1 d
      subst this
      rw [h2] at c; cases c

theorem cmpLaysHop (blk off size : Nat) (w : World) : CmpLays Tryz.prog 95 #[] hopE 3 hopCmp blk off size w :=
  fun _ _ _ _ x y => (order_calls x y _).mono fun _ _ ⟨he, hg⟩ => ⟨he, hg.grow⟩

def SortPost (base : Nat) (w : World) (v : Value) (l : List Ls.Hop) (e : Ending) (w' : World) : Prop :=
  e = .returned (.tuple #[]) ∧ ∃ l', l'.Perm l ∧ Ls.Up Ls.hopLt l' ∧ HopsOwn base w' v l' ∧ Below base w w'

theorem sort_hops (base : Nat) (w : World) (v : Value) (l : List Ls.Hop) (h : HopsOwn base w v l) (hl : l.length < 4611686018427387904) :
    Calls Tryz.prog 94 #[v, .func (.func 95) #[] #[]] w (SortPost base w v l) := by
  rcases own_cases h with ⟨rfl, h0⟩ | ⟨g, cap, cur, rfl, hb, hlt, _⟩
  · refine (sort_none_hop none 0 (.func (.func 95) #[] #[]) w).mono ?_
    rintro e w' ⟨rfl, rfl⟩
    have : l = [] := List.length_eq_zero_iff.1 h0
    subst this
    exact ⟨rfl, [], List.Perm.refl _, List.Pairwise.nil, h, Below.refl _ _⟩
  · have eg : ∀ args w, (callFunc 95 args).run Tryz.prog w = .ok (.enter 95 args) w := enters_of Tryz.func95 (by kernel_rfl) rfl
    have hcon := AnyQ.slices_SortFunc Tryz.sortHop 3 Tryz.isAgg60 Tryz.sizeOf60 hopE (fun _ => rfl) (fun x v hv => by simp [hopE] at hv; rcases hv with rfl | rfl | rfl <;> rfl) hopCmp hopSWO 95 #[] g 0 cap l.toArray w eg (cmpLaysHop g 0 _ w) (own_holds (enc := hopE) (k := 3) (fun _ => rfl) h) hlt (by simpa using hl)
    change Calls Tryz.prog 94 _ _ _ at hcon
    rw [List.size_toArray] at hcon
    refine hcon.mono ?_
    rintro e w' ⟨rfl, d', n, os, hp, hs, rfl⟩
    obtain ⟨e1, e2, e3⟩ := sorted_list (l := l) (by simpa using hp) (by simpa using hs)
    obtain ⟨o1, o2⟩ := own_sorted (enc := hopE) (k := 3) (fun _ => rfl) h (m := n) (d' := d') (os := os) e1
    refine ⟨rfl, d'.toList, e2, ?_, ?_, ?_⟩
    · unfold Ls.Up
      refine e3.imp fun {a b} h => ?_
      rw [← hopCmp_lt]; exact h
    · have e4 : d'.toList.length = l.length := by simpa using e1
      unfold HopsOwn
      rw [e4]; exact o1
    · refine ⟨o2.os, o2.tape, o2.output, o2.size, fun i hi => o2.block i (by omega) (fun e => by cases e; omega)⟩

theorem HopsOwn.base {base base' : Nat} {w : World} {v : Value} {l : List Ls.Hop} (h : HopsOwn base w v l) (hb : base' ≤ base) : HopsOwn base' w v l := by
  refine ⟨h.1, ?_⟩
  rcases h.2 with h | ⟨g, cap, cur, h1, h2, h3⟩
  · exact .inl h
  · exact .inr ⟨g, cap, cur, h1, Nat.le_trans hb h2, h3⟩

def MrgPost (w : World) (l : List Ls.Hop) (e : Ending) (w' : World) : Prop := ∃ v, e = .returned v ∧ HopsOwn w.heap.size w' v l ∧ Below w.heap.size w w'

set_option maxHeartbeats 1000000 in
theorem merge_calls (w : World) (va vb : Value) (la lb : List Ls.Hop) (ha : HopsAt w va la) (hb : HopsAt w vb lb) (hn : (la.length + lb.length) * 16 ≤ 140737488355328) :
    Calls Tryz.prog 59 #[va, vb] w (MrgPost w (Ls.merge Ls.hopLt la lb)) := by
  have HA := Lib.hid ha
  have HB := Lib.hid hb
  have HN := Lib.hid hn
  obtain ⟨aa, ca, ea, -⟩ := ha.get
  obtain ⟨ab, cb, eb, -⟩ := hb.get
  subst ea eb
  clear ha hb hn
  go_enter Tryz.func59, Tryz.ntmps59
  go_wp2_with fail
  refine (concat2 _ _ _ la lb (HA.out.below ((Below.refl _ _).alloc (Nat.le_refl _) _)) (HB.out.below ((Below.refl _ _).alloc (Nat.le_refl _) _)) _ _ (blk_cell (alloc_new w _) rfl) (blk_cell (alloc_new w _) rfl) HN.out).mono ?_
  rintro e w1 ⟨v, rfl, O, B⟩
  have B1 : Below w.heap.size w w1 := ((Below.refl _ _).alloc (Nat.le_refl _) _).trans (B.mono (by simp))
  have O1 : HopsOwn w.heap.size w1 v (la ++ lb) := HopsOwn.base O (by simp)
  clear O B
  go_wp2_with fail
  refine (sort_hops w.heap.size w1 v (la ++ lb) O1 (by have := HN.out; rw [List.length_append]; omega)).mono ?_
  rintro e w2 ⟨rfl, l', P, U, O2, B2⟩
  have B3 := B1.trans B2
  have E : Hid (Ls.compact l' = Ls.merge Ls.hopLt la lb) := Lib.hid (Ls.compact_merge Ls.hopLin U fun x => by rw [P.mem_iff, List.mem_append])
  clear O1 B1 B2 P U
  go_wp2_with fail
  refine (compact_any w.heap.size w2 v l' O2).mono ?_
  rintro e w3 ⟨v', rfl, O3, B4⟩
  have B5 := B3.trans B4
  rw [E.out] at O3
  clear O2 B3 B4
  go_wp2_with fail
  go_ret
  exact ⟨_, rfl, O3, B5⟩

end Go.Proofs.YtogdconliofblaaGreat
