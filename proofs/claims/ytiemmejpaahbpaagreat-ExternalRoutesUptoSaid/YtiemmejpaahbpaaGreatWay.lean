/-
  external.way: the way to a boundary router.
-/
import Derived.Test.YtiemmejpaahbpaaGreatMrg
import Derived.Test.YtiemmejpaahbpaaGreatCmr
namespace Go.Proofs.YtiemmejpaahbpaaGreat
open Go.RowKit

/-- a way as it lies in memory, and its hops -/
structure Rch where
  router : Int
  area : Int
  inter : Bool
  border : Bool
  boundary : Bool
  cost : Int
  ha : Option Addr
  hn : Nat
  hc : Nat
  hops : List Ls.Hop

def rchE (r : Rch) : List Value := [.int .u32 r.router, .int .u32 r.area, .bool r.inter, .bool r.border, .bool r.boundary, .int .i64 r.cost, .slice r.ha r.hn r.hc]

structure ReachAt (w : World) (v : Value) (l : List Rch) : Prop where
  sl : SlV 7 w v (l.map rchE)
  hops : ∀ x ∈ l, HopsAt w (.slice x.ha x.hn x.hc) x.hops

theorem ReachAt.below {w w' : World} {v : Value} {l : List Rch} (h : ReachAt w v l) (hb : Below w.heap.size w w') : ReachAt w' v l :=
  ⟨h.sl.below hb, fun x hx => (h.hops x hx).below hb⟩

theorem ReachAt.get {w : World} {v : Value} {l : List Rch} (h : ReachAt w v l) : ∃ a cap, v = .slice a l.length cap ∧ l.length ≤ 9223372036854775807 ∧ (0 < l.length → ∃ b off, a = some ⟨b, off, none⟩ ∧ b < w.heap.size ∧ ∀ i (h : i < l.length),
    w.cell? ⟨b, off + i * 7, none⟩ = some (.int .u32 l[i].router) ∧ w.cell? ⟨b, off + i * 7 + 1, none⟩ = some (.int .u32 l[i].area) ∧ w.cell? ⟨b, off + i * 7 + 2, none⟩ = some (.bool l[i].inter) ∧ w.cell? ⟨b, off + i * 7 + 3, none⟩ = some (.bool l[i].border) ∧ w.cell? ⟨b, off + i * 7 + 4, none⟩ = some (.bool l[i].boundary) ∧ w.cell? ⟨b, off + i * 7 + 5, none⟩ = some (.int .i64 l[i].cost) ∧ w.cell? ⟨b, off + i * 7 + 6, none⟩ = some (.slice l[i].ha l[i].hn l[i].hc)) := by
  have hl := h.sl.len
  obtain ⟨a, cap, h0, h1, h2, hn, h3⟩ := h.sl
  simp only [List.length_map] at h0 h1 h3 hl
  refine ⟨a, cap, h0, hl, fun hp => ?_⟩
  obtain ⟨b, off, e, h4, h5⟩ := h3 hp
  refine ⟨b, off, e, h4, fun i hi => ?_⟩
  have := h5 i (by simpa using hi)
  simp only [List.getElem_map, rchE] at this
  exact ⟨this 0 _ rfl, this 1 _ rfl, this 2 _ rfl, this 3 _ rfl, this 4 _ rfl, this 5 _ rfl, this 6 _ rfl⟩

/-- the best way so far -/
structure WaySt where
  found : Bool
  inter : Bool
  cost : Int
  hops : List Ls.Hop

def wayTake (s : WaySt) (x : Rch) : Bool := !s.found || (s.inter && !x.inter) || (s.inter == x.inter && decide (x.cost < s.cost))
def wayTie (s : WaySt) (x : Rch) : Bool := s.inter == x.inter && decide (s.cost = x.cost)
def wayStep (router : Int) (s : WaySt) (x : Rch) : WaySt :=
  if x.router = router ∧ x.boundary = true then
    (if wayTake s x then ⟨true, x.inter, x.cost, Ls.merge Ls.hopLt x.hops []⟩ else if wayTie s x then { s with hops := Ls.merge Ls.hopLt s.hops x.hops } else s)
  else s
def wayP (router : Int) (l : List Rch) : WaySt := l.foldl (wayStep router) ⟨false, false, 0, []⟩

def hopSum (l : List Rch) : Nat := (l.map fun x => x.hops.length).sum

theorem wayStep_len (router : Int) (s : WaySt) (x : Rch) : (wayStep router s x).hops.length ≤ s.hops.length + x.hops.length := by
  unfold wayStep
  split
  · split
    · have := Ls.merge_length_le (lt := Ls.hopLt) x.hops []; simp at this ⊢; omega
    · split
      · exact Ls.merge_length_le _ _
      · omega
  · omega

theorem take_fold {α β : Type} (f : β → α → β) (b : β) (l : List α) (k : Nat) (h : k < l.length) : (l.take (k + 1)).foldl f b = f ((l.take k).foldl f b) l[k] := by
  rw [List.take_succ_eq_append_getElem h, List.foldl_append]; rfl

theorem hopSum_take (l : List Rch) (k : Nat) (h : k < l.length) : hopSum (l.take (k + 1)) = hopSum (l.take k) + l[k].hops.length := by
  unfold hopSum
  rw [List.take_succ_eq_append_getElem h, List.map_append, List.sum_append]
  simp only [List.map_cons, List.map_nil, List.sum_cons, List.sum_nil, Nat.add_zero]
theorem hopSum_le (l : List Rch) (k : Nat) : hopSum (l.take k) ≤ hopSum l := by
  have e : hopSum l = hopSum (l.take k) + hopSum (l.drop k) := by
    unfold hopSum; rw [← List.sum_append, ← List.map_append, List.take_append_drop]
  omega

theorem wayP_len (router : Int) (l : List Rch) : ∀ k, k ≤ l.length → ((l.take k).foldl (wayStep router) ⟨false, false, 0, []⟩).hops.length ≤ hopSum (l.take k)
  | 0, _ => by simp [hopSum]
  | k + 1, h => by
    have ih := wayP_len router l k (by omega)
    rw [take_fold _ _ _ _ (by omega), hopSum_take _ _ (by omega)]
    have := wayStep_len router ((l.take k).foldl (wayStep router) ⟨false, false, 0, []⟩) l[k]
    omega

/-- the best way lies in block bb -/
structure WayAt (w : World) (bb : Nat) (s : WaySt) (wr : World) : Prop where
  blk : ∃ r a b d hv, wr.heap[bb]? = some (.cells #[.int .u32 r, .int .u32 a, .bool s.inter, .bool b, .bool d, .int .i64 s.cost, hv] 61 (0, 0)) ∧ HopsAt wr hv s.hops
  bel : Below w.heap.size w wr
  lo : w.heap.size ≤ bb

theorem WayAt.grow {w : World} {bb : Nat} {s : WaySt} {wr wr' : World} (h : WayAt w bb s wr) (hb : Below wr.heap.size wr wr') : WayAt w bb s wr' := by
  obtain ⟨⟨r, a, b, d, hv, h1, h2⟩, h3, h4⟩ := h
  exact ⟨⟨r, a, b, d, hv, (hb.block bb (blk_lt h1)).trans h1, h2.below hb⟩, h3.trans (hb.mono h3.size), h4⟩

theorem HopsOwn.other {base : Nat} {w : World} {v : Value} {l : List Ls.Hop} (h : HopsOwn base w v l) (a : Addr) (u : Value) (ha : a.block < base) : HopsOwn base (w.setCell a u) v l := by
  refine ⟨h.1, ?_⟩
  rcases h.2 with h | ⟨g, cap, cur, h1, h2, h3, h4⟩
  · exact .inl h
  · exact .inr ⟨g, cap, cur, h1, h2, by rw [blk_other _ _ _ _ (by omega)]; exact h3, h4⟩

theorem HopsOwn.slice {base : Nat} {w : World} {v : Value} {l : List Ls.Hop} (h : HopsOwn base w v l) : ∃ a n c, v = .slice a n c := by
  rcases own_cases h with ⟨rfl, _⟩ | ⟨g, cap, cur, rfl, _⟩
  · exact ⟨_, _, _, rfl⟩
  · exact ⟨_, _, _, rfl⟩

/-- the store of a whole way -/
def setWay (W : World) (bb : Nat) (x : Rch) : World :=
  (((((((W.setCell ⟨bb, 0, none⟩ (.int .u32 x.router)).setCell ⟨bb, 1, none⟩ (.int .u32 x.area)).setCell ⟨bb, 2, none⟩ (.bool x.inter)).setCell ⟨bb, 3, none⟩ (.bool x.border)).setCell ⟨bb, 4, none⟩ (.bool x.boundary)).setCell ⟨bb, 5, none⟩ (.int .i64 x.cost)).setCell ⟨bb, 6, none⟩ (.slice x.ha x.hn x.hc))

theorem setWay_blk {W : World} {bb : Nat} {c0 c1 c2 c3 c4 c5 c6 : Value} (h : W.heap[bb]? = some (.cells #[c0, c1, c2, c3, c4, c5, c6] 61 (0, 0))) (x : Rch) :
    (setWay W bb x).heap[bb]? = some (.cells #[.int .u32 x.router, .int .u32 x.area, .bool x.inter, .bool x.border, .bool x.boundary, .int .i64 x.cost, .slice x.ha x.hn x.hc] 61 (0, 0)) := by
  have h1 := blk_set (blk_set (blk_set (blk_set (blk_set (blk_set (blk_set h 0 (.int .u32 x.router)) 1 (.int .u32 x.area)) 2 (.bool x.inter)) 3 (.bool x.border)) 4 (.bool x.boundary)) 5 (.int .i64 x.cost)) 6 (.slice x.ha x.hn x.hc)
  simp only [List.setIfInBounds_toArray, List.set_cons_zero, List.set_cons_succ] at h1
  exact h1
theorem setWay_below {w W : World} {bb : Nat} (h : Below w.heap.size w W) (hb : w.heap.size ≤ bb) (x : Rch) : Below w.heap.size w (setWay W bb x) :=
  ((((((h.setCell hb _).setCell hb _).setCell hb _).setCell hb _).setCell hb _).setCell hb _).setCell hb _
theorem setWay_size (W : World) (bb : Nat) (x : Rch) : (setWay W bb x).heap.size = W.heap.size := by simp [setWay, World.setCell]

/-- behind Merge, the hops are stored -/
theorem WayAt.stored {w W W3 : World} {bb : Nat} {c0 c1 c3 c4 c6 : Value} {inter : Bool} {cost : Int} {v : Value} {l : List Ls.Hop} (h : W.heap[bb]? = some (.cells #[c0, c1, .bool inter, c3, c4, .int .i64 cost, c6] 61 (0, 0)))
    (hc : ∃ r a b d, c0 = .int .u32 r ∧ c1 = .int .u32 a ∧ c3 = .bool b ∧ c4 = .bool d) (hB : Below w.heap.size w W) (hb : w.heap.size ≤ bb) (O : HopsOwn W.heap.size W3 v l) (B : Below W.heap.size W W3) :
    WayAt w bb ⟨true, inter, cost, l⟩ (W3.setCell ⟨bb, 6, none⟩ v) := by
  obtain ⟨r, a, b, d, rfl, rfl, rfl, rfl⟩ := hc
  have hlt := blk_lt h
  have h1 := blk_set ((B.block bb hlt).trans h) 6 v
  simp only [List.setIfInBounds_toArray, List.set_cons_zero, List.set_cons_succ] at h1
  refine ⟨⟨r, a, b, d, v, h1, (O.other _ _ hlt).at⟩, (hB.trans (B.mono hB.size)).setCell hb _, hb⟩

/-- what the loop of way carries -/
structure WayRel (w : World) (bb : Nat) (router : Int) (l : List Rch) (k : Nat) (f : Bool) (wr : World) : Prop where
  hk : k ≤ l.length
  at' : WayAt w bb ((l.take k).foldl (wayStep router) ⟨false, false, 0, []⟩) wr
  f : f = ((l.take k).foldl (wayStep router) ⟨false, false, 0, []⟩).found

theorem WayRel.skip {w : World} {bb : Nat} {router : Int} {l : List Rch} {k : Nat} {f : Bool} {wr : World} (R : WayRel w bb router l k f wr) (hk : k < l.length) (o : Obj)
    (h : wayStep router ((l.take k).foldl (wayStep router) ⟨false, false, 0, []⟩) l[k] = (l.take k).foldl (wayStep router) ⟨false, false, 0, []⟩) : WayRel w bb router l (k + 1) f (wr.alloc o) := by
  refine ⟨hk, ?_, ?_⟩
  · rw [take_fold _ _ _ _ hk, h]; exact R.at'.grow ((Below.refl _ _).alloc (Nat.le_refl _) _)
  · rw [take_fold _ _ _ _ hk, h]; exact R.f

theorem WayRel.next {w : World} {bb : Nat} {router : Int} {l : List Rch} {k : Nat} {wr : World} (hk : k < l.length) {s' : WaySt} (hs : wayStep router ((l.take k).foldl (wayStep router) ⟨false, false, 0, []⟩) l[k] = s') (hf : s'.found = true) (h : WayAt w bb s' wr) : WayRel w bb router l (k + 1) true wr := by
  refine ⟨hk, ?_, ?_⟩
  · rw [take_fold _ _ _ _ hk, hs]; exact h
  · rw [take_fold _ _ _ _ hk, hs, hf]

/-- the loop's variable, then the best way, then its hops -/
theorem way_take {w wr : World} {bb : Nat} {c0 c1 c2 c3 c4 c5 c6 : Value} {x : Rch} (h1 : wr.heap[bb]? = some (.cells #[c0, c1, c2, c3, c4, c5, c6] 61 (0, 0))) (h3 : Below w.heap.size w wr) (h4 : w.heap.size ≤ bb) (v : Value) (W3 : World) (o : Obj)
    (O : HopsOwn ((setWay wr bb x).alloc o).heap.size W3 v (Ls.merge Ls.hopLt x.hops [])) (B : Below ((setWay wr bb x).alloc o).heap.size ((setWay wr bb x).alloc o) W3) :
    WayAt w bb ⟨true, x.inter, x.cost, Ls.merge Ls.hopLt x.hops []⟩ (W3.setCell ⟨bb, 6, none⟩ v) :=
  WayAt.stored ((alloc_get _ _ _ (by rw [setWay_size]; exact blk_lt h1)).trans (setWay_blk h1 x)) ⟨_, _, _, _, rfl, rfl, rfl, rfl⟩ ((setWay_below h3 h4 x).alloc (setWay_below h3 h4 x).size o) h4 O B

theorem hopsNil (w : World) : HopsAt w (.slice none 0 0) [] := ⟨none, 0, rfl, by simp, by simp, fun _ => rfl, fun h => by simp at h⟩

theorem way_blk6 {wr : World} {bb : Nat} {c0 c1 c2 c3 c4 c5 c6 : Value} {x : Rch} {o : Obj} {W3 : World} (h1 : wr.heap[bb]? = some (.cells #[c0, c1, c2, c3, c4, c5, c6] 61 (0, 0))) (B : Below ((setWay wr bb x).alloc o).heap.size ((setWay wr bb x).alloc o) W3) :
    W3.heap[bb]? = some (.cells #[.int .u32 x.router, .int .u32 x.area, .bool x.inter, .bool x.border, .bool x.boundary, .int .i64 x.cost, .slice x.ha x.hn x.hc] 61 (0, 0)) :=
  (B.block bb (by have := blk_lt h1; simp [setWay_size]; omega)).trans ((alloc_get _ _ _ (by rw [setWay_size]; exact blk_lt h1)).trans (setWay_blk h1 x))
theorem way_cell6 {wr : World} {bb : Nat} {c0 c1 c2 c3 c4 c5 c6 : Value} {x : Rch} {o : Obj} {W3 : World} (h1 : wr.heap[bb]? = some (.cells #[c0, c1, c2, c3, c4, c5, c6] 61 (0, 0))) (B : Below ((setWay wr bb x).alloc o).heap.size ((setWay wr bb x).alloc o) W3) : ∃ u, W3.cell? ⟨bb, 6, none⟩ = some u := ⟨_, blk_cell (way_blk6 h1 B) rfl⟩
theorem way_free6 {wr : World} {bb : Nat} {c0 c1 c2 c3 c4 c5 c6 : Value} {x : Rch} {o : Obj} {W3 : World} (h1 : wr.heap[bb]? = some (.cells #[c0, c1, c2, c3, c4, c5, c6] 61 (0, 0))) (B : Below ((setWay wr bb x).alloc o).heap.size ((setWay wr bb x).alloc o) W3) : W3.frozen? ⟨bb, 6, none⟩ = false := blk_free (way_blk6 h1 B) 6

def WayPost (w : World) (s : WaySt) (e : Ending) (w' : World) : Prop :=
  ∃ hv, e = .returned (.tuple #[.int .i64 s.cost, hv, .bool s.found]) ∧ HopsAt w' hv s.hops ∧ Below w.heap.size w w'

set_option maxHeartbeats 4000000 in
set_option maxRecDepth 100000 in
theorem way_calls (router : Int) (v : Value) (l : List Rch) (w : World) (h : ReachAt w v l) (hN : hopSum l * 16 ≤ 140737488355328) :
    Calls Tryz.prog 52 #[.int .u32 router, v] w (WayPost w (wayP router l)) := by
  have H := Lib.hid h
  obtain ⟨a, cap, rfl, hl, hc⟩ := h.get
  have HC := Lib.hid hc
  have HN := Lib.hid hN
  clear h hc hN
  have R0 : WayRel w w.heap.size router l 0 false (w.alloc (.cells #[.int .u32 0, .int .u32 0, .bool false, .bool false, .bool false, .int .i64 0, .slice none 0 0] 61)) :=
    ⟨Nat.zero_le _, ⟨⟨0, 0, false, false, .slice none 0 0, alloc_new w _, ⟨none, 0, rfl, by simp, by simp, fun _ => rfl, fun h => by simp at h⟩⟩, (Below.refl _ _).alloc (Nat.le_refl _) _, Nat.le_refl _⟩, rfl⟩
  go_enter Tryz.func52, Tryz.ntmps52
  go_wp2_with fail
  go_loopw [8, 13] (fun f i wr => ∃ (k : Nat) (fb : Bool), f = .bool fb ∧ i = .int .i64 k ∧ WayRel w w.heap.size router l k fb wr) (fun _ i _ => l.length - (intOf i).toNat)
  case atStart => exact ⟨0, false, rfl, rfl, R0⟩
  case round =>
    clear R0
    obtain ⟨k, fb, rfl, rfl, R⟩ := hrel
    have hk := R.hk
    by_cases c : k < l.length
    · obtain ⟨b, off, rfl, hb0, hcc⟩ := HC.out (by omega)
      obtain ⟨d0, d1, d2, d3, d4, d5, d6⟩ := hcc k c
      have B := R.at'.bel
      have d0 := bcell B d0
      have d1 := bcell B d1
      have d2 := bcell B d2
      have d3 := bcell B d3
      have d4 := bcell B d4
      have d5 := bcell B d5
      have d6 := bcell B d6
      clear hcc
      by_cases r1 : l[k].router = router ∧ l[k].boundary = true
      · have hlen := wayP_len router l k hk
        have hsum := hopSum_take l k c
        have hle := hopSum_le l (k + 1)
        have HX0 := Lib.hid (H.out.hops l[k] (List.getElem_mem c))
        have RR := Lib.hid R
        obtain ⟨⟨q0, q1, q3, q4, hv, h1, h2⟩, h3, h4⟩ := R.at'
        have hf := R.f
        have ST := Lib.hid (fun s' wr' => WayRel.next (w := w) (bb := w.heap.size) (router := router) (s' := s') (wr := wr') c)
        have SK := Lib.hid (fun o => R.skip c o)
        have hstep : ∀ s, wayStep router s l[k] = if wayTake s l[k] then ⟨true, l[k].inter, l[k].cost, Ls.merge Ls.hopLt l[k].hops []⟩ else if wayTie s l[k] then { s with hops := Ls.merge Ls.hopLt s.hops l[k].hops } else s := fun s => by unfold wayStep; rw [if_pos r1]
        have STEP := Lib.hid hstep
        clear R RR hstep B
        rw [r1.1] at d0
        rw [r1.2] at d4
        have HB : Hid ((((l.take k).foldl (wayStep router) ⟨false, false, 0, []⟩).hops.length + l[k].hops.length) * 16 ≤ 140737488355328) := Lib.hid (by have := HN.out; omega)
        have HB2 : Hid ((l[k].hops.length + ([] : List Ls.Hop).length) * 16 ≤ 140737488355328) := Lib.hid (by have := HN.out; simp; omega)
        clear hlen hsum hle
        generalize (l.take k).foldl (wayStep router) ⟨false, false, 0, []⟩ = s at *
        obtain ⟨sf, si, sc, sh⟩ := s
        simp only at hf h1 h2
        subst hf
        have e2 := blk_cell (i := 2) h1 rfl
        have e5 := blk_cell (i := 5) h1 rfl
        have e6 := blk_cell (i := 6) h1 rfl
        have xr := r1.1
        have xb := r1.2
        clear r1
        generalize l[k] = x at *
        obtain ⟨x0, x1, x2, x3, x4, x5, xa, xn, xc, xh⟩ := x
        simp only at *
        subst xr xb
        have f0 := blk_free h1 0
        have f1 := blk_free h1 1
        have f2 := blk_free h1 2
        have f3 := blk_free h1 3
        have f4 := blk_free h1 4
        have f5 := blk_free h1 5
        have f6 := blk_free h1 6
        have e0 := blk_cell (i := 0) h1 rfl
        have e1 := blk_cell (i := 1) h1 rfl
        have e3 := blk_cell (i := 3) h1 rfl
        have e4 := blk_cell (i := 4) h1 rfl
        have H1 := Lib.hid h1
        have hlt : w.heap.size < wr.heap.size := blk_lt h1
        have hne : ¬ w.heap.size = wr.heap.size := by omega
        clear h1
        cases ht : wayTake ⟨fb, si, sc, sh⟩ ⟨x0, x1, x2, x3, true, x5, xa, xn, xc, xh⟩ with
        | true =>
          obtain ⟨W2, hW2⟩ : ∃ W2, (setWay wr w.heap.size ⟨x0, x1, x2, x3, true, x5, xa, xn, xc, xh⟩).alloc (.cells #[.int .u32 x0, .int .u32 x1, .bool x2, .bool x3, .bool true, .int .i64 x5, .slice xa xn xc] 61) = W2 := ⟨_, rfl⟩
          have TK : Hid (∀ v W3, HopsOwn W2.heap.size W3 v (Ls.merge Ls.hopLt xh []) → Below W2.heap.size W2 W3 → WayRel w w.heap.size x0 l (k + 1) true (W3.setCell ⟨w.heap.size, 6, none⟩ v) ∧ (∃ u, W3.cell? ⟨w.heap.size, 6, none⟩ = some u) ∧ W3.frozen? ⟨w.heap.size, 6, none⟩ = false) := Lib.hid (by
            intro v W3 O B
            rw [← hW2] at O B
            exact ⟨ST.out _ _ (by rw [STEP.out, ht]; rfl) rfl (way_take (x := ⟨x0, x1, x2, x3, true, x5, xa, xn, xc, xh⟩) H1.out h3 h4 v W3 _ O B), way_cell6 H1.out B, way_free6 H1.out B⟩)
          have HXW : Hid (HopsAt W2 (.slice xa xn xc) xh) := Lib.hid (by
            rw [← hW2]
            exact HX0.out.below ((setWay_below h3 h4 _).alloc (setWay_below h3 h4 _).size _))
          unfold setWay at hW2
          simp only at hW2
          have HW2 := Lib.hid hW2
          clear hW2 ST SK STEP H1 HX0 HB
          cases fb with
          | false =>
            clear ht
            go_wp2_with fail
            rw [HW2.out]
            refine (merge_calls W2 _ _ xh [] HXW.out (hopsNil _) HB2.out).mono ?_
            rintro e W3 ⟨v, rfl, O, B⟩
            obtain ⟨va, vn, vc, rfl⟩ := O.slice
            obtain ⟨NX0, ⟨u6, g6⟩, gf⟩ := TK.out _ W3 O B
            have NX := Lib.hid NX0
            clear O B TK NX0 HW2 HXW e0 e1 e2 e3 e4 e5 e6 f0 f1 f2 f3 f4 f5 f6
            go_wp2_with fail
            go_roundw
            case rel => exact ⟨k + 1, true, rfl, by go_num, NX.out⟩
            case measure => simp [intOf]; omega
          | true =>
            simp only [wayTake, Bool.not_true, Bool.false_or, Bool.or_eq_true, Bool.and_eq_true, beq_iff_eq, Bool.not_eq_true', decide_eq_true_eq] at ht
            rcases ht with ⟨t1, t2⟩ | ⟨t1, t2⟩
            · subst t1 t2
              go_wp2_with fail
              rw [HW2.out]
              refine (merge_calls W2 _ _ xh [] HXW.out (hopsNil _) HB2.out).mono ?_
              rintro e W3 ⟨v, rfl, O, B⟩
              obtain ⟨va, vn, vc, rfl⟩ := O.slice
              obtain ⟨NX0, ⟨u6, g6⟩, gf⟩ := TK.out _ W3 O B
              have NX := Lib.hid NX0
              clear O B TK NX0 HW2 HXW e0 e1 e2 e3 e4 e5 e6 f0 f1 f2 f3 f4 f5 f6
              go_wp2_with fail
              go_roundw
              case rel => exact ⟨k + 1, true, rfl, by go_num, NX.out⟩
              case measure => simp [intOf]; omega
            · subst t1
              have t3 : decide (x5 < sc) = true := by simpa using t2
              cases si with
              | true =>
                go_wp2_with fail
                rw [HW2.out]
                refine (merge_calls W2 _ _ xh [] HXW.out (hopsNil _) HB2.out).mono ?_
                rintro e W3 ⟨v, rfl, O, B⟩
                obtain ⟨va, vn, vc, rfl⟩ := O.slice
                obtain ⟨NX0, ⟨u6, g6⟩, gf⟩ := TK.out _ W3 O B
                have NX := Lib.hid NX0
                clear O B TK NX0 HW2 HXW e0 e1 e2 e3 e4 e5 e6 f0 f1 f2 f3 f4 f5 f6
                go_wp2_with fail
                go_roundw
                case rel => exact ⟨k + 1, true, rfl, by go_num, NX.out⟩
                case measure => simp [intOf]; omega
              | false =>
                go_wp2_with fail
                rw [HW2.out]
                refine (merge_calls W2 _ _ xh [] HXW.out (hopsNil _) HB2.out).mono ?_
                rintro e W3 ⟨v, rfl, O, B⟩
                obtain ⟨va, vn, vc, rfl⟩ := O.slice
                obtain ⟨NX0, ⟨u6, g6⟩, gf⟩ := TK.out _ W3 O B
                have NX := Lib.hid NX0
                clear O B TK NX0 HW2 HXW e0 e1 e2 e3 e4 e5 e6 f0 f1 f2 f3 f4 f5 f6
                go_wp2_with fail
                go_roundw
                case rel => exact ⟨k + 1, true, rfl, by go_num, NX.out⟩
                case measure => simp [intOf]; omega
        | false =>
          have hft : fb = true := by
            cases fb with
            | true => rfl
            | false => simp [wayTake] at ht
          subst hft
          cases hq : wayTie ⟨true, si, sc, sh⟩ ⟨x0, x1, x2, x3, true, x5, xa, xn, xc, xh⟩ with
          | true =>
            obtain ⟨W1, hW1⟩ : ∃ W1, wr.alloc (.cells #[.int .u32 x0, .int .u32 x1, .bool x2, .bool x3, .bool true, .int .i64 x5, .slice xa xn xc] 61) = W1 := ⟨_, rfl⟩
            have bw1 : Below wr.heap.size wr W1 := by rw [← hW1]; exact (Below.refl _ _).alloc (Nat.le_refl _) _
            have TT : Hid (∀ v W3, HopsOwn W1.heap.size W3 v (Ls.merge Ls.hopLt sh xh) → Below W1.heap.size W1 W3 → WayRel w w.heap.size x0 l (k + 1) true (W3.setCell ⟨w.heap.size, 6, none⟩ v) ∧ (∃ u, W3.cell? ⟨w.heap.size, 6, none⟩ = some u) ∧ W3.frozen? ⟨w.heap.size, 6, none⟩ = false) := Lib.hid (by
              intro v W3 O B
              have hb1 := (bw1.block w.heap.size hlt).trans H1.out
              have hb3 := (B.block w.heap.size (Nat.lt_of_lt_of_le hlt bw1.size)).trans hb1
              exact ⟨ST.out _ _ (by rw [STEP.out, ht, hq]; rfl) rfl (WayAt.stored hb1 ⟨_, _, _, _, rfl, rfl, rfl, rfl⟩ (h3.trans (bw1.mono h3.size)) h4 O B), ⟨_, blk_cell hb3 rfl⟩, blk_free hb3 6⟩)
            have HXW : Hid (HopsAt W1 (.slice xa xn xc) xh) := Lib.hid (HX0.out.below (h3.trans (bw1.mono h3.size)))
            have HV1 := Lib.hid (h2.below bw1)
            obtain ⟨pa, pc, ehv, -⟩ := h2.get
            subst ehv
            have HW1 := Lib.hid hW1
            clear hW1 ST SK STEP H1 HX0 HB2 bw1 h2
            simp only [wayTie, Bool.and_eq_true, beq_iff_eq, decide_eq_true_eq] at hq
            obtain ⟨q1', q2'⟩ := hq
            subst q1' q2'
            clear ht
            cases si with
            | true =>
              go_wp2_with fail
              rw [HW1.out]
              refine (merge_calls W1 _ _ sh xh HV1.out HXW.out HB.out).mono ?_
              rintro e W3 ⟨v, rfl, O, B⟩
              obtain ⟨va, vn, vc, rfl⟩ := O.slice
              obtain ⟨NX0, ⟨u6, g6⟩, gf⟩ := TT.out _ W3 O B
              have NX := Lib.hid NX0
              clear O B TT NX0 HW1 HXW HV1 e0 e1 e2 e3 e4 e5 e6 f0 f1 f2 f3 f4 f5 f6
              go_wp2_with fail
              go_roundw
              case rel => exact ⟨k + 1, true, rfl, by go_num, NX.out⟩
              case measure => simp [intOf]; omega
            | false =>
              go_wp2_with fail
              rw [HW1.out]
              refine (merge_calls W1 _ _ sh xh HV1.out HXW.out HB.out).mono ?_
              rintro e W3 ⟨v, rfl, O, B⟩
              obtain ⟨va, vn, vc, rfl⟩ := O.slice
              obtain ⟨NX0, ⟨u6, g6⟩, gf⟩ := TT.out _ W3 O B
              have NX := Lib.hid NX0
              clear O B TT NX0 HW1 HXW HV1 e0 e1 e2 e3 e4 e5 e6 f0 f1 f2 f3 f4 f5 f6
              go_wp2_with fail
              go_roundw
              case rel => exact ⟨k + 1, true, rfl, by go_num, NX.out⟩
              case measure => simp [intOf]; omega
          | false =>
            have NX := Lib.hid (fun o => SK.out o (by rw [STEP.out, ht, hq]; rfl))
            clear ST SK STEP H1 HX0 HB2 HB h2
            cases si with
            | true =>
              cases x2 with
              | true =>
                have g1 : decide (x5 < sc) = false := by simpa [wayTake] using ht
                have g2 : decide (sc = x5) = false := by simpa [wayTie] using hq
                have g3 : (sc == x5) = false := by simpa using g2
                clear ht hq
                go_wp2_with fail
                go_roundw
                case rel => exact ⟨k + 1, true, rfl, by go_num, NX.out _⟩
                case measure => simp [intOf]; omega
              | false => simp [wayTake] at ht
            | false =>
              cases x2 with
              | true =>
                clear ht hq
                go_wp2_with fail
                go_roundw
                case rel => exact ⟨k + 1, true, rfl, by go_num, NX.out _⟩
                case measure => simp [intOf]; omega
              | false =>
                have g1 : decide (x5 < sc) = false := by simpa [wayTake] using ht
                have g2 : decide (sc = x5) = false := by simpa [wayTie] using hq
                have g3 : (sc == x5) = false := by simpa using g2
                clear ht hq
                go_wp2_with fail
                go_roundw
                case rel => exact ⟨k + 1, true, rfl, by go_num, NX.out _⟩
                case measure => simp [intOf]; omega
      · have NX := Lib.hid (fun o => R.skip c o (by unfold wayStep; rw [if_neg r1]))
        by_cases r2 : l[k].router = router
        · have r3 : l[k].boundary = false := by cases hh : l[k].boundary with | false => rfl | true => exact absurd ⟨r2, hh⟩ r1
          rw [r2] at d0
          rw [r3] at d4
          clear r1 r2 r3 R
          generalize l[k] = x at *
          go_wp2_with fail
          go_roundw
          case rel => exact ⟨k + 1, fb, rfl, by go_num, NX.out _⟩
          case measure => simp [intOf]; omega
        · have r3 : (l[k].router == router) = false := by simpa using r2
          have r4 : (l[k].router != router) = true := by simpa using r2
          clear r1 r2 R
          generalize l[k] = x at *
          go_wp2_with fail
          go_roundw
          case rel => exact ⟨k + 1, fb, rfl, by go_num, NX.out _⟩
          case measure => simp [intOf]; omega
    · obtain ⟨⟨r, a', b', d', hv, h1, h2⟩, h3, h4⟩ := R.at'
      have E : Hid (wayP router l = (l.take k).foldl (wayStep router) ⟨false, false, 0, []⟩) := Lib.hid (by unfold wayP; rw [List.take_of_length_le (by omega)])
      have hf := R.f
      generalize (l.take k).foldl (wayStep router) ⟨false, false, 0, []⟩ = s at *
      have e2 := blk_cell (i := 5) h1 rfl
      have e3 := blk_cell (i := 6) h1 rfl
      subst hf
      clear R h1
      go_wp2_with fail
      go_quiet (fail)
      go_wp2_with fail
      go_ret3
      exact ⟨hv, by rw [E.out]; rfl, by rw [E.out]; exact h2, by exact ⟨h3.os, h3.tape, h3.output, h3.size, h3.block⟩⟩

end Go.Proofs.YtiemmejpaahbpaaGreat
