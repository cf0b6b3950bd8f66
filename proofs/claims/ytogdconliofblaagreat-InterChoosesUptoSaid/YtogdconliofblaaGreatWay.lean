/-
  inter.way: the first way to a border router of an area.
-/
/-
  inter.way walked.
-/
import Derived.Test.YtogdconliofblaaGreatTks
import Derived.Test.YtogdconliofblaaGreatHed
namespace Go.Proofs.YtogdconliofblaaGreat
open Go.RowKit

def rchZ : Rch := ⟨0, 0, false, false, false, 0, none, 0, 0, []⟩
def rcAt (l : List Rch) (k : Nat) : Rch := l.getD k rchZ
theorem rcAt_eq {l : List Rch} {k : Nat} (c : k < l.length) : rcAt l k = l[k] := by
  rw [rcAt, List.getD_eq_getElem?_getD, List.getElem?_eq_getElem c]; rfl
/-- is it a way to a border router of the area? -/
def wayM (area router : Int) (x : Rch) : Bool := ((decide (x.router = router) && decide (x.area = area)) && x.border) && !x.inter

set_option maxHeartbeats 4000000 in
theorem way1_calls (x : Rch) (area router : Int) (w : World) (rb ab : Nat) (hr : w.heap[rb]? = some (.cells #[.int .u32 router] 22 (0, 0))) (ha : w.heap[ab]? = some (.cells #[.int .u32 area] 22 (0, 0))) :
    Calls Tryz.prog 125 #[.agg (rchE x).toArray, .pointer (some ⟨rb, 0, none⟩), .pointer (some ⟨ab, 0, none⟩)] w fun e w' => e = .returned (.bool (wayM area router x)) ∧ Gr w w' := by
  unfold wayM
  obtain ⟨xr, xa, xinter, xborder, xbound, xc, xha, xhn, xhc, xh⟩ := x
  simp only [rchE]
  obtain ⟨W0, hW0⟩ : ∃ W0, w.alloc (.cells #[.int .u32 xr, .int .u32 xa, .bool xinter, .bool xborder, .bool xbound, .int .i64 xc, .slice xha xhn xhc] 50) = W0 := ⟨_, rfl⟩
  have G0 : Gr w W0 := by rw [← hW0]; exact (Gr.refl _).alloc _
  have b0 : W0.heap[w.heap.size]? = some (.cells #[.int .u32 xr, .int .u32 xa, .bool xinter, .bool xborder, .bool xbound, .int .i64 xc, .slice xha xhn xhc] 50 (0, 0)) := by rw [← hW0]; exact alloc_new w _
  have r0 : W0.cell? ⟨rb, 0, none⟩ = some (.int .u32 router) := blk_cell ((G0.b.block rb (blk_lt hr)).trans hr) rfl
  have a0 : W0.cell? ⟨ab, 0, none⟩ = some (.int .u32 area) := blk_cell ((G0.b.block ab (blk_lt ha)).trans ha) rfl
  have z0 := blk_cell (i := 0) b0 rfl
  have z1 := blk_cell (i := 1) b0 rfl
  have z2 := blk_cell (i := 2) b0 rfl
  have z3 := blk_cell (i := 3) b0 rfl
  have HW0 := Lib.hid hW0
  have HG0 := Lib.hid G0
  clear hW0 b0 G0 hr ha
  by_cases h1 : xr = router
  · by_cases h2 : xa = area
    · have e1 : (xr == router) = true := by simpa using h1
      have e2 : (xa == area) = true := by simpa using h2
      rw [decide_eq_true h1, decide_eq_true h2]
      simp only [Bool.and_self, Bool.true_and]
      clear h1 h2
      cases xborder with
      | true =>
        go_enter Tryz.func125, Tryz.ntmps125
        go_upto_region 1 with fail
        rw [HW0.out]
        go_wp2_with fail
        go_ret
        exact ⟨by simp, HG0.out⟩
      | false =>
        go_enter Tryz.func125, Tryz.ntmps125
        go_upto_region 1 with fail
        rw [HW0.out]
        go_wp2_with fail
        go_ret
        exact ⟨by simp, HG0.out⟩
    · have e1 : (xr == router) = true := by simpa using h1
      have e2 : (xa == area) = false := by simpa using h2
      rw [decide_eq_true h1, decide_eq_false h2]
      simp only [Bool.and_false, Bool.false_and]
      clear h1 h2
      go_enter Tryz.func125, Tryz.ntmps125
      go_upto_region 1 with fail
      rw [HW0.out]
      go_wp2_with fail
      go_ret
      exact ⟨by simp, HG0.out⟩
  · have e1 : (xr == router) = false := by simpa using h1
    rw [decide_eq_false h1]
    simp only [Bool.false_and]
    clear h1
    go_enter Tryz.func125, Tryz.ntmps125
    go_upto_region 1 with fail
    rw [HW0.out]
    go_wp2_with fail
    go_ret
    exact ⟨by simp, HG0.out⟩

/-- i is the first place of a way, or -1 -/
def WayIx (area router : Int) (l : List Rch) (i : Int) : Prop := (∃ k : Nat, i = k ∧ k < l.length ∧ (l.take k).any (wayM area router) = false ∧ wayM area router (rcAt l k) = true) ∨ (i = -1 ∧ l.any (wayM area router) = false)

set_option maxHeartbeats 4000000 in
theorem windex_calls (w : World) (v : Value) (l : List Rch) (h : ReachAt w v l) (area router : Int) (rb ab : Nat) (hr : w.heap[rb]? = some (.cells #[.int .u32 router] 22 (0, 0))) (ha : w.heap[ab]? = some (.cells #[.int .u32 area] 22 (0, 0))) :
    Calls Tryz.prog 124 #[v, .func (.func 125) #[] #[.pointer (some ⟨rb, 0, none⟩), .pointer (some ⟨ab, 0, none⟩)]] w fun e w' => (∃ i : Int, e = .returned (.int .i64 i) ∧ WayIx area router l i) ∧ Gr w w' := by
  obtain ⟨a, cap, rfl, hl, hc⟩ := h.get
  have HC := Lib.hid hc
  have T1 := Lib.hid (fun x W (G : Gr w W) => way1_calls x area router W rb ab ((G.b.block rb (blk_lt hr)).trans hr) ((G.b.block ab (blk_lt ha)).trans ha))
  clear h hc hr ha
  go_enter Tryz.func124, Tryz.ntmps124
  go_wp2_with fail
  go_loopw [8] (fun ix wr => ∃ k : Nat, ix = .int .i64 k ∧ k ≤ l.length ∧ Hid ((l.take k).any (wayM area router) = false ∧ Gr w wr)) (fun ix _ => l.length - (intOf ix).toNat)
  case atStart => exact ⟨0, rfl, Nat.zero_le _, Lib.hid ⟨rfl, Gr.refl _⟩⟩
  case round =>
    obtain ⟨k, rfl, hk, R⟩ := hrel
    by_cases c : k < l.length
    · obtain ⟨b, off, rfl, hb, hcc⟩ := HC.out (by omega)
      obtain ⟨d0, d1, d2, d3, d4, d5, d6⟩ := hcc k c
      have up : ∀ {o : Nat} {u : Value}, w.cell? ⟨b, o, none⟩ = some u → wr.cell? ⟨b, o, none⟩ = some u := fun {o u} hh => (World.cell?_of_block (w := w) (w' := wr) (a := ⟨b, o, none⟩) (R.out.2.b.block b hb)).trans hh
      replace d0 := up d0
      replace d1 := up d1
      replace d2 := up d2
      replace d3 := up d3
      replace d4 := up d4
      replace d5 := up d5
      replace d6 := up d6
      have TC := Lib.hid (T1.out l[k] wr R.out.2)
      have AN := Lib.hid (any_take (wayM area router) l c R.out.1)
      have YES : Hid (wayM area router l[k] = true → WayIx area router l k) := Lib.hid (fun h => .inl ⟨k, rfl, c, R.out.1, by rw [rcAt_eq c]; exact h⟩)
      have KC := Lib.hid c
      have i0 : (0 : Int) ≤ (k : Int) := by omega
      have i1 : (k : Int) < (l.length : Int) := by omega
      have s3 : ((k : Int)).toNat = k := by omega
      clear hcc up
      generalize l[k] = x at *
      clear c
      generalize wayM area router x = lb at *
      obtain ⟨xr, xa, xinter, xborder, xbound, xc, xha, xhn, xhc, xh⟩ := x
      simp only at d0 d1 d2 d3 d4 d5 d6
      simp only [rchE] at TC
      go_wp2_with fail
      refine TC.out.mono ?_
      rintro e w1 ⟨rfl, G1⟩
      have HG := Lib.hid (R.out.2.trans G1)
      clear G1 TC d0 d1 d2 d3 d4 d5 d6
      cases lb with
      | true =>
        go_wp2_with fail
        go_ret
        exact ⟨⟨k, rfl, YES.out (by simp)⟩, HG.out⟩
      | false =>
        go_wp2_with fail
        go_roundw
        case rel => exact ⟨k + 1, by go_num, KC.out, Lib.hid ⟨AN.out, HG.out⟩⟩
        case measure => simp [intOf]; have := KC.out; omega
    · have e : l.any (wayM area router) = false := by have := R.out.1; rwa [List.take_of_length_le (by omega)] at this
      have HE := Lib.hid e
      clear e
      go_wp2_with fail
      go_ret
      exact ⟨⟨-1, rfl, .inr ⟨rfl, HE.out⟩⟩, R.out.2⟩

/-- the first way -/
def wayF (area router : Int) (l : List Rch) : Option Rch := l.find? (wayM area router)
theorem find_at {α : Type} (f : α → Bool) : ∀ (l : List α) (k : Nat) (c : k < l.length), (l.take k).any f = false → f l[k] = true → l.find? f = some l[k]
  | x :: l, 0, _, _, h => by simp at h; simp [h]
  | x :: l, k + 1, c, h1, h2 => by
    simp only [List.take_succ_cons, List.any_cons, Bool.or_eq_false_iff] at h1
    rw [List.find?_cons_of_neg (by simp [h1.1])]
    simp only [List.getElem_cons_succ] at h2 ⊢
    exact find_at f l k (by simpa using c) h1.2 h2
theorem WayIx.some' {area router : Int} {l : List Rch} {k : Nat} (c : k < l.length) (h1 : (l.take k).any (wayM area router) = false) (h2 : wayM area router (rcAt l k) = true) : wayF area router l = some (rcAt l k) := by
  rw [rcAt_eq c] at h2 ⊢
  exact find_at _ l k c h1 h2
theorem wayF_none {area router : Int} {l : List Rch} (h : l.any (wayM area router) = false) : wayF area router l = none := by
  unfold wayF
  rw [List.find?_eq_none]
  intro x hx
  rw [List.any_eq_false] at h
  exact h x hx

def wayR (area router : Int) (l : List Rch) : Value := match wayF area router l with
  | none => .tuple #[.agg (rchE rchZ).toArray, .bool false]
  | some x => .tuple #[.agg (rchE x).toArray, .bool true]

end Go.Proofs.YtogdconliofblaaGreat

namespace Go.Proofs.YtogdconliofblaaGreat
open Go.RowKit

/-- a way is stored in block b -/
def setRch (w : World) (b : Nat) (x : Rch) : World := (((((((w.setCell ⟨b, 0, none⟩ (.int .u32 x.router)).setCell ⟨b, 1, none⟩ (.int .u32 x.area)).setCell ⟨b, 2, none⟩ (.bool x.inter)).setCell ⟨b, 3, none⟩ (.bool x.border)).setCell ⟨b, 4, none⟩ (.bool x.boundary)).setCell ⟨b, 5, none⟩ (.int .i64 x.cost)).setCell ⟨b, 6, none⟩ (.slice x.ha x.hn x.hc))
theorem setRch_blk {w : World} {b : Nat} {c0 c1 c2 c3 c4 c5 c6 : Value} {t : TypeId} (h : w.heap[b]? = some (.cells #[c0, c1, c2, c3, c4, c5, c6] t (0, 0))) (x : Rch) : (setRch w b x).heap[b]? = some (.cells (rchE x).toArray t (0, 0)) := by
  have h1 := blk_set (blk_set (blk_set (blk_set (blk_set (blk_set (blk_set h 0 (.int .u32 x.router)) 1 (.int .u32 x.area)) 2 (.bool x.inter)) 3 (.bool x.border)) 4 (.bool x.boundary)) 5 (.int .i64 x.cost)) 6 (.slice x.ha x.hn x.hc)
  simp only [List.setIfInBounds_toArray, List.set_cons_zero, List.set_cons_succ] at h1
  exact h1
theorem setRch_gr {w w0 : World} {b : Nat} (h : Gr w0 w) (hb : w0.heap.size ≤ b) (x : Rch) : Gr w0 (setRch w b x) := by
  unfold setRch
  exact (((((((h.setCell (p := ⟨b, 0, none⟩) hb _).setCell (p := ⟨b, 1, none⟩) hb _).setCell (p := ⟨b, 2, none⟩) hb _).setCell (p := ⟨b, 3, none⟩) hb _).setCell (p := ⟨b, 4, none⟩) hb _).setCell (p := ⟨b, 5, none⟩) hb _).setCell (p := ⟨b, 6, none⟩) hb _)

set_option maxHeartbeats 8000000 in
set_option maxRecDepth 100000 in
theorem way_calls (w : World) (v : Value) (l : List Rch) (h : ReachAt w v l) (area router : Int) :
    Calls Tryz.prog 84 #[.int .u32 area, .int .u32 router, v] w fun e w' => e = .returned (wayR area router l) ∧ Gr w w' := by
  obtain ⟨a, cap, rfl, hl, hc⟩ := h.get
  have HC := Lib.hid hc
  obtain ⟨W0, hW0⟩ : ∃ W0, ((w.alloc (.cells #[.int .u32 area] 22)).alloc (.cells #[.int .u32 router] 22)).alloc (.cells #[.int .u32 0, .int .u32 0, .bool false, .bool false, .bool false, .int .i64 0, .slice none 0 0] 50) = W0 := ⟨_, rfl⟩
  have hsz : W0.heap.size = w.heap.size + 3 := by rw [← hW0]; simp
  have G0 : Gr w W0 := by rw [← hW0]; exact (((Gr.refl _).alloc _).alloc _).alloc _
  have b0 : W0.heap[w.heap.size]? = some (.cells #[.int .u32 area] 22 (0, 0)) := by rw [← hW0]; exact (alloc_get _ _ _ (by simp; omega)).trans ((alloc_get _ _ _ (by simp)).trans (alloc_new w _))
  have b1 : W0.heap[w.heap.size + 1]? = some (.cells #[.int .u32 router] 22 (0, 0)) := by
    rw [← hW0]; refine (alloc_get _ _ _ (by simp)).trans ?_
    have := alloc_new (w.alloc (.cells #[.int .u32 area] 22)) (.cells #[.int .u32 router] 22); simpa using this
  have b2 : W0.heap[w.heap.size + 2]? = some (.cells #[.int .u32 0, .int .u32 0, .bool false, .bool false, .bool false, .int .i64 0, .slice none 0 0] 50 (0, 0)) := by
    rw [← hW0]
    have := alloc_new ((w.alloc (.cells #[.int .u32 area] 22)).alloc (.cells #[.int .u32 router] 22)) (.cells #[.int .u32 0, .int .u32 0, .bool false, .bool false, .bool false, .int .i64 0, .slice none 0 0] 50); simpa using this
  have IC := Lib.hid (windex_calls W0 _ l (h.below G0.b) area router (w.heap.size + 1) w.heap.size b1 b0)
  have HB2 := Lib.hid b2
  have HW0 := Lib.hid hW0
  have HG0 := Lib.hid G0
  clear hW0 b0 b1 b2 h hc G0
  go_enter Tryz.func84, Tryz.ntmps84
  go_upto_region 1 with fail
  rw [HW0.out]
  go_wp2_with fail
  refine IC.out.mono ?_
  rintro e w1 ⟨⟨i, rfl, WI⟩, G1⟩
  have b2 := (G1.b.block (w.heap.size + 2) (by omega)).trans HB2.out
  have f0 := blk_free b2 0
  have f1 := blk_free b2 1
  have f2 := blk_free b2 2
  have f3 := blk_free b2 3
  have f4 := blk_free b2 4
  have f5 := blk_free b2 5
  have f6 := blk_free b2 6
  have z0 := blk_cell (i := 0) b2 rfl
  have z1 := blk_cell (i := 1) b2 rfl
  have z2 := blk_cell (i := 2) b2 rfl
  have z3 := blk_cell (i := 3) b2 rfl
  have z4 := blk_cell (i := 4) b2 rfl
  have z5 := blk_cell (i := 5) b2 rfl
  have z6 := blk_cell (i := 6) b2 rfl
  have hs : w.heap.size + 2 < w1.heap.size := blk_lt b2
  have G2 := HG0.out.trans G1
  rcases WI with ⟨k, rfl, c, h1, h2⟩ | ⟨rfl, hn⟩
  · obtain ⟨b, off, rfl, hb, hcc⟩ := HC.out (by omega)
    obtain ⟨d0, d1, d2, d3, d4, d5, d6⟩ := hcc k c
    have hne : ¬ b = w.heap.size + 2 := by omega
    have hne' : ¬ w.heap.size + 2 = b := by omega
    have up : ∀ {o : Nat} {u : Value}, w.cell? ⟨b, o, none⟩ = some u → w1.cell? ⟨b, o, none⟩ = some u := fun {o u} hh => (World.cell?_of_block (w := w) (w' := w1) (a := ⟨b, o, none⟩) (G2.b.block b hb)).trans hh
    replace d0 := up d0
    replace d1 := up d1
    replace d2 := up d2
    replace d3 := up d3
    replace d4 := up d4
    replace d5 := up d5
    replace d6 := up d6
    have EW : Hid (wayR area router l = .tuple #[.agg (rchE l[k]).toArray, .bool true]) := Lib.hid (by unfold wayR; rw [WayIx.some' c h1 h2, rcAt_eq c])
    have i0 : (0 : Int) ≤ (k : Int) := by omega
    have i1 : (k : Int) < (l.length : Int) := by omega
    have s3 : ((k : Int)).toNat = k := by omega
    have n0 : decide ((k : Int) < 0) = false := by simp
    clear hcc up h1 h2
    generalize l[k] = x at *
    clear c
    obtain ⟨xr, xa, xinter, xborder, xbound, xc, xha, xhn, xhc, xh⟩ := x
    simp only [rchE] at d0 d1 d2 d3 d4 d5 d6 EW
    obtain ⟨W', hW'⟩ : ∃ W', setRch w1 (w.heap.size + 2) ⟨xr, xa, xinter, xborder, xbound, xc, xha, xhn, xhc, xh⟩ = W' := ⟨_, rfl⟩
    have bk' : W'.heap[w.heap.size + 2]? = some (.cells #[.int .u32 xr, .int .u32 xa, .bool xinter, .bool xborder, .bool xbound, .int .i64 xc, .slice xha xhn xhc] 50 (0, 0)) := by rw [← hW']; exact setRch_blk b2 _
    have HG2 : Hid (Gr w W') := Lib.hid (by rw [← hW']; exact setRch_gr G2 (by omega) _)
    unfold setRch at hW'
    simp only at hW'
    have HW' := Lib.hid hW'
    clear hW' G1 G2 b2 IC
    go_wp2_with fail
    rw [HW'.out, EW.out]
    have g0 : W'.cell? ⟨w.heap.size + 2, 0, none⟩ = some (.int .u32 xr) := blk_cell bk' rfl
    have g1 : W'.cell? ⟨w.heap.size + 2, 1, none⟩ = some (.int .u32 xa) := blk_cell bk' rfl
    have g2 : W'.cell? ⟨w.heap.size + 2, 2, none⟩ = some (.bool xinter) := blk_cell bk' rfl
    have g3 : W'.cell? ⟨w.heap.size + 2, 3, none⟩ = some (.bool xborder) := blk_cell bk' rfl
    have g4 : W'.cell? ⟨w.heap.size + 2, 4, none⟩ = some (.bool xbound) := blk_cell bk' rfl
    have g5 : W'.cell? ⟨w.heap.size + 2, 5, none⟩ = some (.int .i64 xc) := blk_cell bk' rfl
    have g6 : W'.cell? ⟨w.heap.size + 2, 6, none⟩ = some (.slice xha xhn xhc) := blk_cell bk' rfl
    exact bodyPost_ret (v := .tuple #[.agg #[.int .u32 xr, .int .u32 xa, .bool xinter, .bool xborder, .bool xbound, .int .i64 xc, .slice xha xhn xhc], .bool true]) (by simp [results, Tryz.results84, go_sem, g0, g1, g2, g3, g4, g5, g6]) rfl ⟨rfl, HG2.out⟩
  · have EW : Hid (wayR area router l = .tuple #[.agg (rchE rchZ).toArray, .bool false]) := Lib.hid (by unfold wayR; rw [wayF_none hn])
    simp only [rchE, rchZ] at EW
    clear hn
    obtain ⟨W', hW'⟩ : ∃ W', setRch w1 (w.heap.size + 2) rchZ = W' := ⟨_, rfl⟩
    have bk' : W'.heap[w.heap.size + 2]? = some (.cells #[.int .u32 0, .int .u32 0, .bool false, .bool false, .bool false, .int .i64 0, .slice none 0 0] 50 (0, 0)) := by rw [← hW']; exact setRch_blk b2 _
    have HG2 : Hid (Gr w W') := Lib.hid (by rw [← hW']; exact setRch_gr G2 (by omega) _)
    unfold setRch at hW'
    simp only [rchZ] at hW'
    have HW' := Lib.hid hW'
    clear hW' G1 G2 b2 IC
    go_wp2_with fail
    rw [HW'.out, EW.out]
    have g0 : W'.cell? ⟨w.heap.size + 2, 0, none⟩ = some (.int .u32 0) := blk_cell bk' rfl
    have g1 : W'.cell? ⟨w.heap.size + 2, 1, none⟩ = some (.int .u32 0) := blk_cell bk' rfl
    have g2 : W'.cell? ⟨w.heap.size + 2, 2, none⟩ = some (.bool false) := blk_cell bk' rfl
    have g3 : W'.cell? ⟨w.heap.size + 2, 3, none⟩ = some (.bool false) := blk_cell bk' rfl
    have g4 : W'.cell? ⟨w.heap.size + 2, 4, none⟩ = some (.bool false) := blk_cell bk' rfl
    have g5 : W'.cell? ⟨w.heap.size + 2, 5, none⟩ = some (.int .i64 0) := blk_cell bk' rfl
    have g6 : W'.cell? ⟨w.heap.size + 2, 6, none⟩ = some (.slice none 0 0) := blk_cell bk' rfl
    exact bodyPost_ret (v := .tuple #[.agg #[.int .u32 0, .int .u32 0, .bool false, .bool false, .bool false, .int .i64 0, .slice none 0 0], .bool false]) (by simp [results, Tryz.results84, go_sem, g0, g1, g2, g3, g4, g5, g6]) rfl ⟨rfl, HG2.out⟩

end Go.Proofs.YtogdconliofblaaGreat
