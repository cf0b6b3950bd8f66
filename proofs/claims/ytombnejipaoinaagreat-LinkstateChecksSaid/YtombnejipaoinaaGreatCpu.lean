/-
  slices.Compact at uint32.
-/
import Derived.Test.YtombnejipaoinaaGreatWds
import Derived.Test.YtombnejipaoinaaGreatBit
import Derived.Lib.AppendZerosOnto
import Derived.Laws.StructEq
import Derived.IntWalk
namespace Go.Proofs.YtombnejipaoinaaGreat
open Go.RowKit

namespace Ls
section
variable {α : Type} [DecidableEq α]
theorem compact_snoc : ∀ (m : List α) (h : m ≠ []) (x : α), compact (m ++ [x]) = if m.getLast h = x then compact m else compact m ++ [x]
  | [y], _, x => by
    by_cases e : y = x
    · subst e; simp [compact]
    · simp [compact, e]
  | y :: z :: m, _, x => by
    have ih := compact_snoc (z :: m) (by simp) x
    rw [List.getLast_cons (by simp)]
    show compact (y :: z :: (m ++ [x])) = _
    by_cases e : y = z
    · unfold compact
      rw [if_pos e, if_pos e]; exact ih
    · unfold compact
      rw [if_neg e, if_neg e]
      show y :: compact ((z :: m) ++ [x]) = _
      rw [ih]
      split <;> simp

theorem compact_take {l : List α} {k : Nat} (h1 : 1 ≤ k) (hk : k < l.length) : compact (l.take (k + 1)) = if l[k] = l[k - 1] then compact (l.take k) else compact (l.take k) ++ [l[k]] := by
  have hne : l.take k ≠ [] := by
    intro e
    have := congrArg List.length e
    rw [List.length_take, List.length_nil] at this; omega
  rw [List.take_succ_eq_append_getElem hk, compact_snoc _ hne]
  have e : (l.take k).getLast hne = l[k - 1] := by
    rw [List.getLast_eq_getElem]
    simp [Nat.min_eq_left (Nat.le_of_lt hk)]
  rw [e]
  by_cases c : l[k] = l[k - 1]
  · rw [if_pos c, if_pos c.symm]
  · rw [if_neg c, if_neg (fun h => c h.symm)]
end
end Ls

theorem flat_set32 (x : Int) : ∀ (d : List Int) (i : Nat), (d.map u32E).flatten.set i (.int .u32 x) = ((d.set i x).map u32E).flatten
  | [], i => by simp
  | y :: d, 0 => by simp [u32E]
  | y :: d, i + 1 => by
    have := flat_set32 x d i
    simp only [List.map_cons, List.flatten_cons, u32E, List.cons_append, List.nil_append, List.set_cons_succ] at this ⊢
    rw [this]
theorem flat_take32 : ∀ (d : List Int) (i : Nat), (d.map u32E).flatten.take i = ((d.take i).map u32E).flatten
  | [], i => by simp
  | y :: d, 0 => by simp
  | y :: d, i + 1 => by
    have := flat_take32 d i
    simp only [List.map_cons, List.flatten_cons, u32E, List.cons_append, List.nil_append, List.take_succ_cons] at this ⊢
    rw [this]

def WdsOwn (base : Nat) (w : World) (v : Value) (l : List Int) : Prop := w.ownsRow base 22 1 v l.length (l.map u32E).flatten

theorem WdsOwn.block {base : Nat} {w : World} {g n cap : Nat} {d : List Int} (h : WdsOwn base w (.slice (some ⟨g, 0, none⟩) n cap) d) : n = d.length ∧ base ≤ g ∧ g < w.heap.size ∧ n ≤ cap ∧ cap ≤ maxLen ∧ ∃ cur, w.heap[g]? = some (.cells cur 22 (0, 0)) ∧ cur.size = cap ∧ cur.toList.take d.length = (d.map u32E).flatten := by
  rcases own_cases h with ⟨e, _⟩ | ⟨g', cap', cur, e, h1, h2, h3, h4, h5, h6, h7⟩
  · cases e
  · simp only [Value.slice.injEq, Option.some.injEq, Addr.mk.injEq, and_true] at e
    obtain ⟨e1, e2, e3⟩ := e
    subst e1 e2 e3
    exact ⟨rfl, h1, h2, h4, h5, cur, h3, by simpa using h6, by simpa using h7⟩

theorem WdsOwn.mk {base : Nat} {w : World} {g cap : Nat} {d : List Int} {cur : Array Value} (h1 : base ≤ g) (h2 : d.length ≤ cap) (h3 : cap ≤ maxLen) (h4 : w.heap[g]? = some (.cells cur 22 (0, 0))) (h5 : cur.size = cap) (h6 : cur.toList.take d.length = (d.map u32E).flatten) :
    WdsOwn base w (.slice (some ⟨g, 0, none⟩) d.length cap) d :=
  ⟨by rw [flat_len _ (u32E_len d), List.length_map], .inr ⟨g, cap, cur, rfl, h1, h4, h2, h3, by simpa using h5, by simpa using h6⟩⟩

theorem WdsOwn.set {base : Nat} {w : World} {g n cap : Nat} {d : List Int} (h : WdsOwn base w (.slice (some ⟨g, 0, none⟩) n cap) d) (i : Nat) (x : Int) (_hi : i < d.length) :
    WdsOwn base (w.setCell ⟨g, i, none⟩ (.int .u32 x)) (.slice (some ⟨g, 0, none⟩) n cap) (d.set i x) := by
  obtain ⟨rfl, h1, h2, h3, h4, cur, h5, h6, h7⟩ := h.block
  have := WdsOwn.mk (w := w.setCell ⟨g, i, none⟩ (.int .u32 x)) (d := d.set i x) (cap := cap) h1 (by simpa using h3) h4 (blk_set h5 _ _) (by simpa using h6) (by
    rw [← flat_set32 x d i, ← h7]
    simp only [List.length_set, Array.toList_setIfInBounds, List.take_set])
  simpa using this

theorem WdsOwn.cut {base : Nat} {w : World} {g n cap : Nat} {d : List Int} (h : WdsOwn base w (.slice (some ⟨g, 0, none⟩) n cap) d) (i : Nat) (hi : i ≤ d.length) (C : Array Value) (hC : C.size = cap) (hT : ∀ cur, w.heap[g]? = some (.cells cur 22 (0, 0)) → C.toList.take i = cur.toList.take i) :
    WdsOwn base (w.setRow g C) (.slice (some ⟨g, 0, none⟩) i cap) (d.take i) := by
  obtain ⟨rfl, h1, h2, h3, h4, cur, h5, h6, h7⟩ := h.block
  have e : (d.take i).length = i := by simp; omega
  have := WdsOwn.mk (w := w.setRow g C) (d := d.take i) (cap := cap) (cur := C) h1 (by omega) h4 (by simp [World.setRow, Array.getElem?_modify, h5]) hC (by
    rw [e, hT cur h5, ← flat_take32, ← h7, List.take_take, Nat.min_eq_left (by omega)])
  rw [e] at this
  exact this

theorem WdsOwn.cell {base : Nat} {w : World} {g n cap : Nat} {d : List Int} (h : WdsOwn base w (.slice (some ⟨g, 0, none⟩) n cap) d) (i : Nat) (hi : i < d.length) : w.cell? ⟨g, i, none⟩ = some (.int .u32 d[i]) := by
  obtain ⟨rfl, h1, h2, h3, h4, cur, h5, h6, h7⟩ := h.block
  have f := flat_get (k := 1) (d.map u32E) (u32E_len d) i (by simpa using hi) 0 (.int .u32 d[i]) (by simp only [List.getElem_map, u32E]; rfl)
  rw [Nat.mul_one, Nat.add_zero, ← h7, List.getElem?_take, if_pos hi] at f
  exact blk_cell h5 (by simpa using f)
theorem WdsOwn.free {base : Nat} {w : World} {g n cap : Nat} {d : List Int} (h : WdsOwn base w (.slice (some ⟨g, 0, none⟩) n cap) d) (i : Nat) : w.frozen? ⟨g, i, none⟩ = false := by
  obtain ⟨rfl, h1, h2, h3, h4, cur, h5, h6, h7⟩ := h.block
  exact blk_free h5 i

theorem grown_cell {w wr : World} {g n cap : Nat} (h : w.grownBy wr (Value.slice (some ⟨g, 0, none⟩) n cap).ownBlock) (i : Nat) (u : Value) : w.grownBy (wr.setCell ⟨g, i, none⟩ u) (Value.slice (some ⟨g, 0, none⟩) n cap).ownBlock :=
  ⟨h.os, h.tape, h.output, by simpa [World.setCell] using h.size, fun k hk hne => (blk_other _ _ _ _ (fun e => hne (by rw [e]; rfl))).trans (h.block k hk hne)⟩
theorem grown_row {w wr : World} {g n cap : Nat} (h : w.grownBy wr (Value.slice (some ⟨g, 0, none⟩) n cap).ownBlock) (C : Array Value) : w.grownBy (wr.setRow g C) (Value.slice (some ⟨g, 0, none⟩) n cap).ownBlock :=
  ⟨h.os, h.tape, h.output, by simpa [World.setRow] using h.size, fun k hk hne => by
    have e : (wr.setRow g C).heap[k]? = wr.heap[k]? := by
      simp only [World.setRow, Array.getElem?_modify]
      rw [if_neg (fun e => hne (by rw [← e]; rfl))]
    exact e.trans (h.block k hk hne)⟩

def CptPost (base : Nat) (w : World) (v : Value) (l : List Int) (e : Ending) (w' : World) : Prop := ∃ v', e = .returned v' ∧ WdsOwn base w' v' (Ls.compact l) ∧ Below base w w' ∧ w.grownBy w' v.ownBlock

/-- at the head of the first loop -/
structure CptA (base : Nat) (w : World) (v : Value) (l : List Int) (k : Nat) (wr : World) : Prop where
  own : WdsOwn base wr v l
  bel : Below base w wr
  gr : w.grownBy wr v.ownBlock
  k1 : 1 ≤ k
  k2 : k ≤ l.length
  pre : Ls.compact (l.take k) = l.take k

/-- at the head of the second loop -/
structure CptB (base : Nat) (w : World) (v : Value) (l : List Int) (k0 j kk : Nat) (d : List Int) (wr : World) : Prop where
  own : WdsOwn base wr v d
  bel : Below base w wr
  gr : w.grownBy wr v.ownBlock
  len : d.length = l.length
  j1 : 1 ≤ j
  j2 : k0 + j ≤ l.length
  kk1 : kk + 1 ≤ k0 + j
  pre : Ls.compact (l.take (k0 + j)) = d.take kk
  rest : ∀ i (h : i < d.length) (h' : i < l.length), k0 + j ≤ i + 1 → d[i] = l[i]

theorem CptA.drewN {base : Nat} {w : World} {v : Value} {l : List Int} {k : Nat} {wr : World} (R : CptA base w v l k wr) (hk : k < l.length) (hne : ¬ l[k] = l[k - 1]) (q : Nat) : CptA base w v l (k + 1) (wr.drewN q) := by
  refine ⟨R.own, ⟨R.bel.os, R.bel.tape, R.bel.output, R.bel.size, R.bel.block⟩, ⟨R.gr.os, R.gr.tape, R.gr.output, R.gr.size, R.gr.block⟩, by omega, hk, ?_⟩
  rw [Ls.compact_take R.k1 hk, if_neg hne, R.pre, List.take_succ_eq_append_getElem hk]

theorem CptA.toB {base : Nat} {w : World} {v : Value} {l : List Int} {k : Nat} {wr : World} (R : CptA base w v l k wr) (hk : k < l.length) (he : l[k] = l[k - 1]) (q : Nat) : CptB base w v l k 1 k l (wr.drewN q) := by
  refine ⟨R.own, ⟨R.bel.os, R.bel.tape, R.bel.output, R.bel.size, R.bel.block⟩, ⟨R.gr.os, R.gr.tape, R.gr.output, R.gr.size, R.gr.block⟩, rfl, by omega, hk, by omega, ?_, fun _ _ _ _ => rfl⟩
  rw [Ls.compact_take R.k1 hk, if_pos he, R.pre]

theorem CptB.skip {base : Nat} {w : World} {v : Value} {l d : List Int} {k0 j kk : Nat} {wr : World} (R : CptB base w v l k0 j kk d wr) (hk : k0 + j < l.length) (he : l[k0 + j] = l[k0 + j - 1]) (q : Nat) : CptB base w v l k0 (j + 1) kk d (wr.drewN q) := by
  have j1 := R.j1
  refine ⟨R.own, ⟨R.bel.os, R.bel.tape, R.bel.output, R.bel.size, R.bel.block⟩, ⟨R.gr.os, R.gr.tape, R.gr.output, R.gr.size, R.gr.block⟩, R.len, by omega, by omega, by have := R.kk1; omega, ?_, fun i h h' hi => R.rest i h h' (by omega)⟩
  rw [← Nat.add_assoc, Ls.compact_take (by omega) hk, if_pos he, R.pre]

theorem CptB.put {base : Nat} {w : World} {g n cap : Nat} {l d : List Int} {k0 j kk : Nat} {wr : World} (R : CptB base w (.slice (some ⟨g, 0, none⟩) n cap) l k0 j kk d wr) (hk : k0 + j < l.length) (he : ¬ l[k0 + j] = l[k0 + j - 1]) (q : Nat) (x : Int) (hx : x = l[k0 + j]) :
    CptB base w (.slice (some ⟨g, 0, none⟩) n cap) l k0 (j + 1) (kk + 1) (d.set kk x) ((wr.drewN q).setCell ⟨g, kk, none⟩ (.int .u32 x)) := by
  have j1 := R.j1
  have k1 := R.kk1
  have hl := R.len
  have hb : base ≤ g := R.own.block.2.1
  have hB : Below base w (wr.drewN q) := ⟨R.bel.os, R.bel.tape, R.bel.output, R.bel.size, R.bel.block⟩
  have hO : WdsOwn base (wr.drewN q) (.slice (some ⟨g, 0, none⟩) n cap) d := R.own
  refine ⟨hO.set kk x (by omega), hB.setCell hb _, grown_cell (wr := wr.drewN q) ⟨R.gr.os, R.gr.tape, R.gr.output, R.gr.size, R.gr.block⟩ _ _, by simpa using hl, by omega, by omega, by omega, ?_, fun i h h' hi => ?_⟩
  · rw [← Nat.add_assoc, Ls.compact_take (by omega) hk, if_neg he, R.pre, ← hx]
    rw [List.take_succ_eq_append_getElem (by rw [List.length_set]; omega), List.take_set_of_le (Nat.le_refl _)]
    simp
  · rw [List.getElem_set, if_neg (by omega)]
    exact R.rest i (by simpa using h) h' (by omega)

theorem Tryz.zeroU32 (w : World) : (zeroValue 22).run Tryz.prog w = .ok (.int .u32 0) w := by kernel_rfl

theorem zeros_one32 (n : Nat) : ∀ v ∈ (Builtin.zeroCells (Value.int .u32 0).cells n).toList, v.oneCell' = true := by
  intro v hv
  simp [Builtin.zeroCells, Value.cells] at hv
  obtain ⟨a, _, rfl⟩ := hv
  simp [Nat.mod_one]
  rfl

def Cleared (g : Nat) (i : Nat) (w : World) (C : Array Value) : Prop := ∀ cur, w.heap[g]? = some (.cells cur 22 (0, 0)) → C.size = cur.size ∧ C.toList.take i = cur.toList.take i

theorem clear_tail {base : Nat} {w : World} {g n cap : Nat} {d : List Int} (h : WdsOwn base w (.slice (some ⟨g, 0, none⟩) n cap) d) (i : Nat) (hi : i < d.length) :
    ∃ C, (∀ ty, (Builtin.clear_ #[54] ty #[.slice (some ⟨g, i, none⟩) (n - i) (cap - i)]).run Tryz.prog w = .ok (.tuple #[]) (w.setRow g C)) ∧ Cleared g i w C := by
  obtain ⟨rfl, h1, h2, h3, h4, cur, h5, h6, h7⟩ := h.block
  have hs := run_storeCells_at Tryz.prog g i 22 (Builtin.zeroCells (Value.int .u32 0).cells (d.length - i)).toList 0 cur w h5 (by rw [Array.length_toList, size_zeroCells, h6]; simp [Value.cells]; omega) (zeros_one32 _)
  simp only [Nat.add_zero] at hs
  refine ⟨(cur.toList.take i ++ (Builtin.zeroCells (Value.int .u32 0).cells (d.length - i)).toList ++ cur.toList.drop (i + (Builtin.zeroCells (Value.int .u32 0).cells (d.length - i)).toList.length)).toArray, fun ty => ?_, fun cur' h' => ?_⟩
  · obtain ⟨m, hm⟩ : ∃ m, d.length - i = m + 1 := ⟨d.length - i - 1, by omega⟩
    rw [hm] at hs ⊢
    simp only [Builtin.clear_, run_underlying Tryz.underlying54, Tryz.zeroU32, Sem.run_bind, Sem.run_pure, Result.andThen_ok, hs, List.getElem?_toArray, List.getElem?_cons_zero]
  · rw [h5] at h'
    cases h'
    have e := size_zeroCells (Value.int .u32 0).cells (d.length - i)
    have e3 : (Value.int .u32 0).cells.size = 1 := rfl
    rw [e3] at e
    have e4 : (Builtin.zeroCells (Value.int .u32 0).cells (d.length - i)).toList.length = d.length - i := by rw [Array.length_toList, e, Nat.mul_one]
    constructor
    · simp only [List.size_toArray, List.length_append, List.length_take, List.length_drop, e4, Array.length_toList, h6]; omega
    · simp only [List.append_assoc]
      rw [List.take_append_of_le_length (by simp [h6]; omega), List.take_take, Nat.min_self]

theorem CptB.post {base : Nat} {w : World} {g n cap : Nat} {l d : List Int} {k0 j kk : Nat} {wr : World} {C : Array Value} (R : CptB base w (.slice (some ⟨g, 0, none⟩) n cap) l k0 j kk d wr) (he : k0 + j = l.length) (hC : Cleared g kk wr C) :
    CptPost base w (.slice (some ⟨g, 0, none⟩) n cap) l (.returned (.slice (some ⟨g, 0, none⟩) kk cap)) (wr.setRow g C) := by
  obtain ⟨e1, h1, h2, h3, h4, cur, h5, h6, h7⟩ := R.own.block
  have := R.kk1; have := R.len
  refine ⟨_, rfl, ?_, ?_, ?_⟩
  · have p := R.pre
    rw [he, List.take_of_length_le (Nat.le_refl _)] at p
    rw [p]
    exact R.own.cut kk (by omega) C (by rw [(hC cur h5).1, h6]) fun cur' h' => (hC cur' h').2
  · exact R.bel.trans ⟨rfl, rfl, rfl, by simp [World.setRow], fun i hi => by simp only [World.setRow, Array.getElem?_modify]; rw [if_neg (by omega)]⟩
  · exact grown_row R.gr C

set_option maxHeartbeats 2000000 in
set_option maxRecDepth 100000 in
theorem compact_big (base : Nat) (w : World) (g cap : Nat) (l : List Int) (hl : 2 ≤ l.length) (h : WdsOwn base w (.slice (some ⟨g, 0, none⟩) l.length cap) l) :
    Calls Tryz.prog 17 #[.slice (some ⟨g, 0, none⟩) l.length cap] w (CptPost base w (.slice (some ⟨g, 0, none⟩) l.length cap) l) := by
  have R0 : CptA base w (.slice (some ⟨g, 0, none⟩) l.length cap) l 1 w := ⟨h, Below.refl _ _, ⟨rfl, rfl, rfl, Nat.le_refl _, fun _ _ _ => rfl⟩, Nat.le_refl _, by omega, by
    obtain ⟨x, r, rfl⟩ : ∃ x r, l = x :: r := by cases l with | nil => simp at hl | cons x r => exact ⟨x, r, rfl⟩
    simp [Ls.compact]⟩
  obtain ⟨-, -, -, hcap, hcm, -⟩ := h.block
  have hcap' : (l.length : Int) ≤ (cap : Int) := by omega
  have hcm' : cap ≤ 9223372036854775807 := by unfold maxLen at hcm; omega
  clear h hcm
  go_enter Tryz.func17, Tryz.ntmps17
  go_wp2_with fail
  go_loopw [3] (fun i wr => ∃ k : Nat, i = .int .i64 k ∧ CptA base w (.slice (some ⟨g, 0, none⟩) l.length cap) l k wr) (fun i _ => l.length - (intOf i).toNat)
  case atStart => exact ⟨1, rfl, R0⟩
  case round =>
    clear R0
    obtain ⟨k, rfl, R⟩ := hrel
    have k1 := R.k1
    have k2 := R.k2
    by_cases c : k < l.length
    · have x1 := R.own.cell k c
      have y1 := R.own.cell (k - 1) (by omega)
      have RR := Lib.hid R
      clear R
      by_cases e : l[k] = l[k - 1]
      · have NX := Lib.hid (RR.out.toB c e)
        have D := Lib.hid e
        generalize l[k] = hx at *
        generalize l[k - 1] = hy at *
        clear e
        have dd : (hx == hy) = true := by simpa using D.out
        have dn : (hx != hy) = false := by simpa using D.out
        have c' : (k : Int) < (l.length : Int) := by omega
        go_wp2_with fail
        go_quiet (fail)
        have B0 := Lib.hid (NX.out nq)
        generalize wr.drewN nq = wq at B0 ⊢
        clear NX RR D dd dn x1 y1
        go_wp2_with fail
        go_loopw [3, 5] (fun i jj wr => ∃ (kk j : Nat) (d : List Int), i = .int .i64 kk ∧ jj = .int .i64 j ∧ CptB base w (.slice (some ⟨g, 0, none⟩) l.length cap) l k j kk d wr) (fun _ jj _ => l.length - (intOf jj).toNat)
        case atStart => exact ⟨k, 1, l, rfl, rfl, B0.out⟩
        case round =>
          clear B0
          obtain ⟨kk, j, d, rfl, rfl, R⟩ := hrel
          have j1 := R.j1
          have j2 := R.j2
          have kk1 := R.kk1
          have hd := R.len
          by_cases cj : k + j < l.length
          · have x1 := R.own.cell (k + j) (by omega)
            have y1 := R.own.cell (k + j - 1) (by omega)
            rw [R.rest (k + j) (by omega) cj (by omega)] at x1
            rw [R.rest (k + j - 1) (by omega) (by omega) (by omega)] at y1
            have RR := Lib.hid R
            have y1 : wr.cell? ⟨g, k + (j - 1), none⟩ = some (.int .u32 (l[k + j - 1]'(by omega))) := by rw [show k + (j - 1) = k + j - 1 from by omega]; exact y1
            have sj : IntKind.i64.wrap ((j : Int) - 1) = ((j - 1 : Nat) : Int) := by rw [IntWalk.i64_in _ (by omega)]; omega
            have cj' : (j : Int) < ((l.length - k : Nat) : Int) := by omega
            by_cases e : l[k + j] = l[k + j - 1]
            · have NX := Lib.hid (RR.out.skip cj e)
              have D := Lib.hid e
              clear R
              generalize l[k + j] = hx at *
              generalize l[k + j - 1] = hy at *
              clear e hd
              have dd : (hx == hy) = true := by simpa using D.out
              have dn : (hx != hy) = false := by simpa using D.out
              go_wp2_with fail
              go_quiet (fail)
              go_wp2_with fail
              go_roundw
              case rel => exact ⟨kk, j + 1, d, rfl, by go_num, NX.out nq⟩
              case measure => simp [intOf]; omega
            · have NX := Lib.hid (RR.out.put cj e)
              have D := Lib.hid e
              have f0 := R.own.free kk
              have z1 := R.own.cell kk (by omega)
              clear R
              generalize l[k + j] = hx at *
              generalize l[k + j - 1] = hy at *
              generalize d[kk] = hz at *
              clear e
              have dd : (hx == hy) = false := by simpa using D.out
              have dn : (hx != hy) = true := by simpa using D.out
              go_wp2_with fail
              go_quiet (fail)
              have N := Lib.hid (NX.out nq hx rfl)
              clear NX
              go_wp2_with fail
              go_roundw
              case rel => exact ⟨kk + 1, j + 1, d.set kk hx, by go_num, by go_num, N.out⟩
              case measure => simp [intOf]; omega
          · obtain ⟨C, hrun, hC⟩ := clear_tail R.own kk (by omega)
            have PO := Lib.hid (R.post (by omega) hC)
            clear R
            go_wp2_with fail
            go_ret
            exact PO.out
      · have NX := Lib.hid (RR.out.drewN c e)
        have D := Lib.hid e
        generalize l[k] = hx at *
        generalize l[k - 1] = hy at *
        clear e
        have dd : (hx == hy) = false := by simpa using D.out
        have dn : (hx != hy) = true := by simpa using D.out
        have c' : (k : Int) < (l.length : Int) := by omega
        go_wp2_with fail
        go_quiet (fail)
        go_wp2_with fail
        go_roundw
        case rel => exact ⟨k + 1, by go_num, NX.out nq⟩
        case measure => simp [intOf]; omega
    · obtain ⟨a1, a2, a6, a3, a4, a5⟩ := R
      have E : Hid (Ls.compact l = l) := Lib.hid (by rw [List.take_of_length_le (by omega)] at a5; exact a5)
      clear a5
      go_wp2_with fail
      go_ret
      exact ⟨_, rfl, by rw [E.out]; exact a1, a2, a6⟩

set_option maxHeartbeats 400000 in
theorem compact_small (w : World) (a : Option Addr) (n cap : Nat) (hl : n < 2) :
    Calls Tryz.prog 17 #[.slice a n cap] w fun e w' => e = .returned (.slice a n cap) ∧ w = w' := by
  have hl' : (n : Int) < 2 := by omega
  go_enter Tryz.func17, Tryz.ntmps17
  go_wp2_with fail
  go_ret
  exact ⟨rfl, rfl⟩

theorem compact_short {α : Type} [DecidableEq α] (l : List α) (h : l.length < 2) : Ls.compact l = l := by
  match l, h with
  | [], _ => rfl
  | [x], _ => rfl
  | x :: y :: r, h => simp at h; omega

theorem compact_any (base : Nat) (w : World) (v : Value) (l : List Int) (h : WdsOwn base w v l) :
    Calls Tryz.prog 17 #[v] w (CptPost base w v l) := by
  rcases own_cases h with ⟨rfl, h0⟩ | ⟨g, cap, cur, rfl, _⟩
  · refine (compact_small w none 0 0 (by omega)).mono ?_
    rintro e w' ⟨rfl, rfl⟩
    exact ⟨_, rfl, by rw [compact_short l (by omega)]; exact h, Below.refl _ _, ⟨rfl, rfl, rfl, Nat.le_refl _, fun _ _ _ => rfl⟩⟩
  · by_cases c : 2 ≤ l.length
    · exact compact_big base w g cap l c h
    · refine (compact_small w _ _ _ (by omega)).mono ?_
      rintro e w' ⟨rfl, rfl⟩
      exact ⟨_, rfl, by rw [compact_short l (by omega)]; exact h, Below.refl _ _, ⟨rfl, rfl, rfl, Nat.le_refl _, fun _ _ _ => rfl⟩⟩

end Go.Proofs.YtombnejipaoinaaGreat
