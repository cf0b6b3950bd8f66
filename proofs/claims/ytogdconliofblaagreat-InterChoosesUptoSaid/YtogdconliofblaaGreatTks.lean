/-
  Ranges of areas: prefix.Covers, inter.covers.
-/
/-
  inter.takes, slices.ContainsFunc over ranges, inter.fine.
-/
import Derived.Test.YtogdconliofblaaGreatRtd
import Derived.Deep.DeepCutAuto
import Derived.IntWalk
namespace Go.Proofs.YtogdconliofblaaGreat
open Go.RowKit

/-- a range of an area -/
structure Arg where
  area : Int
  pfx : Ls.Pfx
  adv : Bool
deriving Inhabited
def agE (g : Arg) : List Value := [.int .u32 g.area, .int .u32 g.pfx.addr, .int .i64 g.pfx.len, .bool g.adv]

def pcovB (p q : Ls.Pfx) : Bool := (validP q && decide (p.len ≤ q.len)) && containsP p q.addr

set_option maxHeartbeats 4000000 in
theorem pcovers_calls (p q : Ls.Pfx) (okp : OkP p) (okq : OkP q) (w : World) : Calls Tryz.prog 144 #[.agg #[.int .u32 p.addr, .int .i64 p.len], .agg #[.int .u32 q.addr, .int .i64 q.len]] w fun e w' => e = .returned (.bool (pcovB p q)) ∧ Gr w w' := by
  have V := Lib.hid (fun W => valid_calls q okq W)
  have C := Lib.hid (fun W => contains_calls p okp q.addr okq.a0 okq.a1 W)
  unfold pcovB
  generalize containsP p q.addr = cb at *
  generalize validP q = vb at *
  clear okp okq
  obtain ⟨pa, pl⟩ := p
  obtain ⟨qa, ql⟩ := q
  simp only at *
  obtain ⟨W0, hW0⟩ : ∃ W0, (w.alloc (.cells #[.int .u32 pa, .int .i64 pl] 55)).alloc (.cells #[.int .u32 qa, .int .i64 ql] 55) = W0 := ⟨_, rfl⟩
  have b0 : W0.heap[w.heap.size]? = some (.cells #[.int .u32 pa, .int .i64 pl] 55 (0, 0)) := by rw [← hW0]; exact (alloc_get _ _ _ (by simp)).trans (alloc_new w _)
  have b1 : W0.heap[w.heap.size + 1]? = some (.cells #[.int .u32 qa, .int .i64 ql] 55 (0, 0)) := by rw [← hW0]; have := alloc_new (w.alloc (.cells #[.int .u32 pa, .int .i64 pl] 55)) (.cells #[.int .u32 qa, .int .i64 ql] 55); simpa using this
  have G0 : Hid (Gr w W0) := Lib.hid (by rw [← hW0]; exact ((Gr.refl _).alloc _).alloc _)
  have p0 := blk_cell (i := 0) b0 rfl
  have p1 := blk_cell (i := 1) b0 rfl
  have q0 := blk_cell (i := 0) b1 rfl
  have q1 := blk_cell (i := 1) b1 rfl
  have HW0 := Lib.hid hW0
  clear hW0 b0 b1
  cases vb with
  | false =>
    go_enter Tryz.func144, Tryz.ntmps144
    go_upto_region 1 with fail
    rw [HW0.out]
    go_wp2_with fail
    refine (V.out _).mono ?_
    rintro e w1 ⟨rfl, G1⟩
    have FIN := Lib.hid (G0.out.trans G1)
    clear G1 p0 p1 q0 q1
    go_wp2_with fail
    go_ret
    exact ⟨rfl, FIN.out⟩
  | true =>
    by_cases hl : pl ≤ ql
    · rw [show decide (pl ≤ ql) = true from by simpa using hl]
      simp only [Bool.and_self, Bool.true_and]
      have hl1 : decide (pl ≤ ql) = true := by simpa using hl
      go_enter Tryz.func144, Tryz.ntmps144
      go_upto_region 1 with fail
      rw [HW0.out]
      go_wp2_with fail
      refine (V.out _).mono ?_
      rintro e w1 ⟨rfl, G1⟩
      have HG := Lib.hid (G0.out.trans G1)
      have p0 := bcell G1.b p0
      have p1 := bcell G1.b p1
      have q0 := bcell G1.b q0
      have q1 := bcell G1.b q1
      clear G1
      go_wp2_with fail
      refine (C.out _).mono ?_
      rintro e w2 ⟨rfl, G2⟩
      have FIN := Lib.hid (HG.out.trans G2)
      clear G2 p0 p1 q0 q1
      go_wp2_with fail
      go_ret
      exact ⟨rfl, FIN.out⟩
    · rw [show decide (pl ≤ ql) = false from by simpa using hl]
      have hl1 : decide (pl ≤ ql) = false := by simpa using hl
      simp only [Bool.and_false, Bool.false_and]
      clear hl
      go_enter Tryz.func144, Tryz.ntmps144
      go_upto_region 1 with fail
      rw [HW0.out]
      go_wp2_with fail
      refine (V.out _).mono ?_
      rintro e w1 ⟨rfl, G1⟩
      have FIN := Lib.hid (G0.out.trans G1)
      have p0 := bcell G1.b p0
      have p1 := bcell G1.b p1
      have q0 := bcell G1.b q0
      have q1 := bcell G1.b q1
      clear G1
      go_wp2_with fail
      go_ret
      exact ⟨rfl, FIN.out⟩

/-- does the prefix of a route lie in a range of its area? -/
def covB (g : Arg) (r : Rt) : Bool := (decide (r.proto = 3) && decide (r.area = g.area)) && pcovB g.pfx r.pfx

set_option maxHeartbeats 4000000 in
theorem covers_calls (g : Arg) (r : Rt) (okg : OkP g.pfx) (okr : OkP r.pfx) (w : World) : Calls Tryz.prog 103 #[.agg (agE g).toArray, .agg (rtE r).toArray] w fun e w' => e = .returned (.bool (covB g r)) ∧ Gr w w' := by
  have PC := Lib.hid (fun W => pcovers_calls g.pfx r.pfx okg okr W)
  unfold covB
  generalize pcovB g.pfx r.pfx = cb at *
  clear okg okr
  obtain ⟨ga, ⟨gp, gl⟩, gadv⟩ := g
  obtain ⟨⟨pa, pl⟩, proto, area, cost, second, cost2, tag, ha, hn, hc⟩ := r
  simp only [agE, rtE] at *
  obtain ⟨W0, hW0⟩ : ∃ W0, (w.alloc (.cells #[.int .u32 ga, .int .u32 gp, .int .i64 gl, .bool gadv] 77)).alloc (.cells #[.int .u32 pa, .int .i64 pl, .int .i64 proto, .int .u32 area, .int .i64 cost, .bool second, .int .i64 cost2, .int .i64 tag, .slice ha hn hc] 57) = W0 := ⟨_, rfl⟩
  have b0 : W0.heap[w.heap.size]? = some (.cells #[.int .u32 ga, .int .u32 gp, .int .i64 gl, .bool gadv] 77 (0, 0)) := by rw [← hW0]; exact (alloc_get _ _ _ (by simp)).trans (alloc_new w _)
  have b1 : W0.heap[w.heap.size + 1]? = some (.cells #[.int .u32 pa, .int .i64 pl, .int .i64 proto, .int .u32 area, .int .i64 cost, .bool second, .int .i64 cost2, .int .i64 tag, .slice ha hn hc] 57 (0, 0)) := by rw [← hW0]; have := alloc_new (w.alloc (.cells #[.int .u32 ga, .int .u32 gp, .int .i64 gl, .bool gadv] 77)) (.cells #[.int .u32 pa, .int .i64 pl, .int .i64 proto, .int .u32 area, .int .i64 cost, .bool second, .int .i64 cost2, .int .i64 tag, .slice ha hn hc] 57); simpa using this
  have G0 : Hid (Gr w W0) := Lib.hid (by rw [← hW0]; exact ((Gr.refl _).alloc _).alloc _)
  have g0 := blk_cell (i := 0) b0 rfl
  have g1 := blk_cell (i := 1) b0 rfl
  have g2 := blk_cell (i := 2) b0 rfl
  have r0 := blk_cell (i := 0) b1 rfl
  have r1 := blk_cell (i := 1) b1 rfl
  have r2 := blk_cell (i := 2) b1 rfl
  have r3 := blk_cell (i := 3) b1 rfl
  have HW0 := Lib.hid hW0
  clear hW0 b0 b1
  by_cases h1 : proto = 3
  · by_cases h2 : area = ga
    · have e1 : (proto == 3) = true := by simpa using h1
      have e2 : (area == ga) = true := by simpa using h2
      rw [decide_eq_true h1, decide_eq_true h2]
      simp only [Bool.and_self, Bool.true_and]
      clear h1 h2
      go_enter Tryz.func103, Tryz.ntmps103
      go_upto_region 1 with fail
      rw [HW0.out]
      go_wp2_with fail
      refine (PC.out _).mono ?_
      rintro e w1 ⟨rfl, G1⟩
      have FIN := Lib.hid (G0.out.trans G1)
      clear G1
      go_wp2_with fail
      go_ret
      exact ⟨rfl, FIN.out⟩
    · have e1 : (proto == 3) = true := by simpa using h1
      have e2 : (area == ga) = false := by simpa using h2
      rw [decide_eq_true h1, decide_eq_false h2]
      simp only [Bool.and_false, Bool.false_and]
      clear h1 h2
      go_enter Tryz.func103, Tryz.ntmps103
      go_upto_region 1 with fail
      rw [HW0.out]
      go_wp2_with fail
      go_ret
      exact ⟨rfl, G0.out⟩
  · have e1 : (proto == 3) = false := by simpa using h1
    rw [decide_eq_false h1]
    simp only [Bool.false_and]
    clear h1
    go_enter Tryz.func103, Tryz.ntmps103
    go_upto_region 1 with fail
    rw [HW0.out]
    go_wp2_with fail
    go_ret
    exact ⟨rfl, G0.out⟩

end Go.Proofs.YtogdconliofblaaGreat

namespace Go.Proofs.YtogdconliofblaaGreat
open Go.RowKit

def RngsAt (w : World) (v : Value) (l : List Arg) : Prop := SlV 4 w v (l.map agE)
theorem RngsAt.below {w w' : World} {v : Value} {l : List Arg} (h : RngsAt w v l) (hb : Below w.heap.size w w') : RngsAt w' v l := SlV.below h hb
def AgCells (w : World) (b o : Nat) (g : Arg) : Prop :=
  w.cell? ⟨b, o, none⟩ = some (.int .u32 g.area) ∧ w.cell? ⟨b, o + 1, none⟩ = some (.int .u32 g.pfx.addr) ∧ w.cell? ⟨b, o + 2, none⟩ = some (.int .i64 g.pfx.len) ∧ w.cell? ⟨b, o + 3, none⟩ = some (.bool g.adv)
theorem AgCells.below {w w' : World} {b o : Nat} {g : Arg} (h : AgCells w b o g) {B : Nat} (hb : Below B w w') (hlt : b < B) : AgCells w' b o g := by
  have e := fun k => World.cell?_of_block (w := w) (w' := w') (a := ⟨b, k, none⟩) (hb.block b hlt)
  obtain ⟨h0, h1, h2, h3⟩ := h
  exact ⟨(e _).trans h0, (e _).trans h1, (e _).trans h2, (e _).trans h3⟩
theorem RngsAt.get {w : World} {v : Value} {l : List Arg} (h : RngsAt w v l) : ∃ a cap, v = .slice a l.length cap ∧ l.length ≤ 9223372036854775807 ∧ (0 < l.length → ∃ b off, a = some ⟨b, off, none⟩ ∧ b < w.heap.size ∧ ∀ i (h : i < l.length), AgCells w b (off + i * 4) l[i]) := by
  have hl := SlV.len h
  obtain ⟨a, cap, h0, h1, h2, hn, h3⟩ := h
  simp only [List.length_map] at h0 h1 h3 hl
  refine ⟨a, cap, h0, hl, fun hp => ?_⟩
  obtain ⟨b, off, e, h4, h5⟩ := h3 hp
  refine ⟨b, off, e, h4, fun i hi => ?_⟩
  have := h5 i (by simpa using hi)
  simp only [List.getElem_map, agE] at this
  exact ⟨this 0 _ rfl, this 1 _ rfl, this 2 _ rfl, this 3 _ rfl⟩

/-- is o a longer range that covers the route? -/
def lonB (r : Rt) (g o : Arg) : Bool := covB o r && decide (g.pfx.len < o.pfx.len)

set_option maxHeartbeats 4000000 in
theorem takes1_calls (o g : Arg) (r : Rt) (oko : OkP o.pfx) (okr : OkP r.pfx) (w : World) (rb gb : Nat) (hr : w.heap[rb]? = some (.cells (rtE r).toArray 57 (0, 0))) (hg : w.heap[gb]? = some (.cells (agE g).toArray 77 (0, 0))) :
    Calls Tryz.prog 105 #[.agg (agE o).toArray, .pointer (some ⟨rb, 0, none⟩), .pointer (some ⟨gb, 0, none⟩)] w fun e w' => e = .returned (.bool (lonB r g o)) ∧ Gr w w' := by
  have CV := Lib.hid (fun W => covers_calls o r oko okr W)
  unfold lonB
  generalize covB o r = cb at *
  clear oko okr
  obtain ⟨oa, ⟨op, ol⟩, oadv⟩ := o
  obtain ⟨ga, ⟨gp, gl⟩, gadv⟩ := g
  obtain ⟨⟨pa, pl⟩, proto, area, cost, second, cost2, tag, ha, hn, hc⟩ := r
  simp only [agE, rtE] at *
  obtain ⟨W0, hW0⟩ : ∃ W0, w.alloc (.cells #[.int .u32 oa, .int .u32 op, .int .i64 ol, .bool oadv] 77) = W0 := ⟨_, rfl⟩
  have G0 : Gr w W0 := by rw [← hW0]; exact (Gr.refl _).alloc _
  have b0 : W0.heap[w.heap.size]? = some (.cells #[.int .u32 oa, .int .u32 op, .int .i64 ol, .bool oadv] 77 (0, 0)) := by rw [← hW0]; exact alloc_new w _
  have br := (G0.b.block rb (blk_lt hr)).trans hr
  have bg := (G0.b.block gb (blk_lt hg)).trans hg
  have o0 := blk_cell (i := 0) b0 rfl
  have o1 := blk_cell (i := 1) b0 rfl
  have o2 := blk_cell (i := 2) b0 rfl
  have o3 := blk_cell (i := 3) b0 rfl
  obtain ⟨⟨r0, r1, r2, r3, r4, r5, r6, r7, r8⟩, -⟩ : (W0.cell? ⟨rb, 0, none⟩ = some (.int .u32 pa) ∧ W0.cell? ⟨rb, 1, none⟩ = some (.int .i64 pl) ∧ W0.cell? ⟨rb, 2, none⟩ = some (.int .i64 proto) ∧ W0.cell? ⟨rb, 3, none⟩ = some (.int .u32 area) ∧ W0.cell? ⟨rb, 4, none⟩ = some (.int .i64 cost) ∧ W0.cell? ⟨rb, 5, none⟩ = some (.bool second) ∧ W0.cell? ⟨rb, 6, none⟩ = some (.int .i64 cost2) ∧ W0.cell? ⟨rb, 7, none⟩ = some (.int .i64 tag) ∧ W0.cell? ⟨rb, 8, none⟩ = some (.slice ha hn hc)) ∧ True :=
    ⟨⟨blk_cell br rfl, blk_cell br rfl, blk_cell br rfl, blk_cell br rfl, blk_cell br rfl, blk_cell br rfl, blk_cell br rfl, blk_cell br rfl, blk_cell br rfl⟩, trivial⟩
  have g2 : W0.cell? ⟨gb, 2, none⟩ = some (.int .i64 gl) := blk_cell bg rfl
  have HW0 := Lib.hid hW0
  have HG0 := Lib.hid G0
  clear hW0 b0 br bg hr hg G0
  cases cb with
  | false =>
    go_enter Tryz.func105, Tryz.ntmps105
    go_upto_region 1 with fail
    rw [HW0.out]
    go_wp2_with fail
    refine (CV.out _).mono ?_
    rintro e w1 ⟨rfl, G1⟩
    have FIN := Lib.hid (HG0.out.trans G1)
    clear G1 r0 r1 r2 r3 r4 r5 r6 r7 r8 o0 o1 o2 o3 g2
    go_wp2_with fail
    go_ret
    exact ⟨rfl, FIN.out⟩
  | true =>
    go_enter Tryz.func105, Tryz.ntmps105
    go_upto_region 1 with fail
    rw [HW0.out]
    go_wp2_with fail
    refine (CV.out _).mono ?_
    rintro e w1 ⟨rfl, G1⟩
    have FIN := Lib.hid (HG0.out.trans G1)
    have g2 := bcell G1.b g2
    have o2 := bcell G1.b o2
    clear G1 r0 r1 r2 r3 r4 r5 r6 r7 r8 o0 o1 o3
    go_wp2_with fail
    go_ret
    exact ⟨by simp, FIN.out⟩

def clo (rb gb : Nat) : Value := .func (.func 105) #[] #[.pointer (some ⟨rb, 0, none⟩), .pointer (some ⟨gb, 0, none⟩)]

theorem any_take {α : Type} (f : α → Bool) (l : List α) {k : Nat} (c : k < l.length) (h : (l.take k).any f = false) : (l.take (k + 1)).any f = f l[k] := by
  rw [List.take_succ_eq_append_getElem c, List.any_append, h]; simp

set_option maxHeartbeats 4000000 in
theorem index_calls (w : World) (v : Value) (l : List Arg) (h : RngsAt w v l) (ok : ∀ o ∈ l, OkP o.pfx) (g : Arg) (r : Rt) (okr : OkP r.pfx) (rb gb : Nat) (hr : w.heap[rb]? = some (.cells (rtE r).toArray 57 (0, 0))) (hg : w.heap[gb]? = some (.cells (agE g).toArray 77 (0, 0))) :
    Calls Tryz.prog 145 #[v, clo rb gb] w fun e w' => (∃ i : Int, e = .returned (.int .i64 i) ∧ decide (0 ≤ i) = l.any (lonB r g)) ∧ Gr w w' := by
  obtain ⟨a, cap, rfl, hl, hc⟩ := h.get
  have HC := Lib.hid hc
  have T1 := Lib.hid (fun k (c : k < l.length) W (G : Gr w W) => takes1_calls l[k] g r (ok _ (List.getElem_mem c)) okr W rb gb ((G.b.block rb (blk_lt hr)).trans hr) ((G.b.block gb (blk_lt hg)).trans hg))
  clear h hc ok okr hr hg
  unfold clo
  go_enter Tryz.func145, Tryz.ntmps145
  go_wp2_with fail
  go_loopw [8] (fun ix wr => ∃ k : Nat, ix = .int .i64 k ∧ k ≤ l.length ∧ Hid ((l.take k).any (lonB r g) = false ∧ Gr w wr)) (fun ix _ => l.length - (intOf ix).toNat)
  case atStart => exact ⟨0, rfl, Nat.zero_le _, Lib.hid ⟨rfl, Gr.refl _⟩⟩
  case round =>
    obtain ⟨k, rfl, hk, R⟩ := hrel
    by_cases c : k < l.length
    · obtain ⟨b, off, rfl, hb, hcc⟩ := HC.out (by omega)
      obtain ⟨d0, d1, d2, d3⟩ := (hcc k c).below R.out.2.b hb
      have TC := Lib.hid (T1.out k c wr R.out.2)
      have AN := Lib.hid (any_take (lonB r g) l c R.out.1)
      have ANY : Hid (lonB r g l[k] = true → l.any (lonB r g) = true) := Lib.hid (fun h => List.any_eq_true.2 ⟨_, List.getElem_mem c, h⟩)
      have KC := Lib.hid c
      have i0 : (0 : Int) ≤ (k : Int) := by omega
      have i1 : (k : Int) < (l.length : Int) := by omega
      have s3 : ((k : Int)).toNat = k := by omega
      clear hcc
      generalize l[k] = o at *
      clear c
      generalize lonB r g o = lb at *
      obtain ⟨oa, ⟨op, ol⟩, oadv⟩ := o
      simp only at d0 d1 d2 d3
      simp only [agE] at TC
      go_wp2_with fail
      refine TC.out.mono ?_
      rintro e w1 ⟨rfl, G1⟩
      have HG := Lib.hid (R.out.2.trans G1)
      clear G1 TC d0 d1 d2 d3
      cases lb with
      | true =>
        go_wp2_with fail
        go_ret
        exact ⟨⟨k, rfl, by rw [ANY.out (by simp)]; simp⟩, HG.out⟩
      | false =>
        go_wp2_with fail
        go_roundw
        case rel => exact ⟨k + 1, by go_num, KC.out, Lib.hid ⟨AN.out, HG.out⟩⟩
        case measure => simp [intOf]; have := KC.out; omega
    · have e : l.any (lonB r g) = false := by have := R.out.1; rwa [List.take_of_length_le (by omega)] at this
      have HE := Lib.hid e
      clear e
      go_wp2_with fail
      go_ret
      exact ⟨⟨-1, rfl, by rw [HE.out]; rfl⟩, R.out.2⟩

set_option maxHeartbeats 4000000 in
theorem contains_rng (w : World) (v : Value) (l : List Arg) (h : RngsAt w v l) (ok : ∀ o ∈ l, OkP o.pfx) (g : Arg) (r : Rt) (okr : OkP r.pfx) (rb gb : Nat) (hr : w.heap[rb]? = some (.cells (rtE r).toArray 57 (0, 0))) (hg : w.heap[gb]? = some (.cells (agE g).toArray 77 (0, 0))) :
    Calls Tryz.prog 104 #[v, clo rb gb] w fun e w' => e = .returned (.bool (l.any (lonB r g))) ∧ Gr w w' := by
  have IC := Lib.hid (index_calls w v l h ok g r okr rb gb hr hg)
  obtain ⟨a, cap, rfl, hl, -⟩ := h.get
  clear h ok okr hr hg
  unfold clo at *
  go_enter Tryz.func104, Tryz.ntmps104
  go_wp2_with fail
  refine IC.out.mono ?_
  rintro e w1 ⟨⟨i, rfl, hi⟩, G1⟩
  have HI := Lib.hid hi
  have HG := Lib.hid G1
  clear hi G1 IC
  go_wp2_with fail
  go_ret
  exact ⟨by rw [← HI.out]; rfl, HG.out⟩

/-- does a range take a route? -/
def takB (l : List Arg) (g : Arg) (r : Rt) : Bool := covB g r && !l.any (lonB r g)

set_option maxHeartbeats 4000000 in
theorem takes_calls (w : World) (v : Value) (l : List Arg) (h : RngsAt w v l) (ok : ∀ o ∈ l, OkP o.pfx) (g : Arg) (okg : OkP g.pfx) (r : Rt) (okr : OkP r.pfx) :
    Calls Tryz.prog 74 #[v, .agg (agE g).toArray, .agg (rtE r).toArray] w fun e w' => e = .returned (.bool (takB l g r)) ∧ Gr w w' := by
  have CV := Lib.hid (fun W => covers_calls g r okg okr W)
  have CF := Lib.hid (fun W (G : Gr w W) gb rb hr hg => contains_rng W v l (h.below G.b) ok g r okr rb gb hr hg)
  obtain ⟨a, cap, rfl, hl, -⟩ := h.get
  unfold takB
  generalize covB g r = cb at *
  generalize l.any (lonB r g) = ab at *
  clear h ok okg okr
  obtain ⟨ga, ⟨gp, gl⟩, gadv⟩ := g
  obtain ⟨⟨pa, pl⟩, proto, area, cost, second, cost2, tag, ha, hn, hc⟩ := r
  simp only [agE, rtE] at *
  obtain ⟨W0, hW0⟩ : ∃ W0, (w.alloc (.cells #[.int .u32 ga, .int .u32 gp, .int .i64 gl, .bool gadv] 77)).alloc (.cells #[.int .u32 pa, .int .i64 pl, .int .i64 proto, .int .u32 area, .int .i64 cost, .bool second, .int .i64 cost2, .int .i64 tag, .slice ha hn hc] 57) = W0 := ⟨_, rfl⟩
  have b0 : W0.heap[w.heap.size]? = some (.cells #[.int .u32 ga, .int .u32 gp, .int .i64 gl, .bool gadv] 77 (0, 0)) := by rw [← hW0]; exact (alloc_get _ _ _ (by simp)).trans (alloc_new w _)
  have b1 : W0.heap[w.heap.size + 1]? = some (.cells #[.int .u32 pa, .int .i64 pl, .int .i64 proto, .int .u32 area, .int .i64 cost, .bool second, .int .i64 cost2, .int .i64 tag, .slice ha hn hc] 57 (0, 0)) := by rw [← hW0]; have := alloc_new (w.alloc (.cells #[.int .u32 ga, .int .u32 gp, .int .i64 gl, .bool gadv] 77)) (.cells #[.int .u32 pa, .int .i64 pl, .int .i64 proto, .int .u32 area, .int .i64 cost, .bool second, .int .i64 cost2, .int .i64 tag, .slice ha hn hc] 57); simpa using this
  have G0 : Gr w W0 := by rw [← hW0]; exact ((Gr.refl _).alloc _).alloc _
  have g0 := blk_cell (i := 0) b0 rfl
  have g1 := blk_cell (i := 1) b0 rfl
  have g2 := blk_cell (i := 2) b0 rfl
  have g3 := blk_cell (i := 3) b0 rfl
  have r0 := blk_cell (i := 0) b1 rfl
  have r1 := blk_cell (i := 1) b1 rfl
  have r2 := blk_cell (i := 2) b1 rfl
  have r3 := blk_cell (i := 3) b1 rfl
  have r4 := blk_cell (i := 4) b1 rfl
  have r5 := blk_cell (i := 5) b1 rfl
  have r6 := blk_cell (i := 6) b1 rfl
  have r7 := blk_cell (i := 7) b1 rfl
  have r8 := blk_cell (i := 8) b1 rfl
  have HW0 := Lib.hid hW0
  have HG0 := Lib.hid G0
  have CF2 := Lib.hid (fun W (G : Gr W0 W) => CF.out W (G0.trans G) w.heap.size (w.heap.size + 1) ((G.b.block _ (blk_lt b1)).trans b1) ((G.b.block _ (blk_lt b0)).trans b0))
  unfold clo at CF2
  clear hW0 b0 b1 G0 CF
  cases cb with
  | false =>
    go_enter Tryz.func74, Tryz.ntmps74
    go_upto_region 1 with fail
    rw [HW0.out]
    go_wp2_with fail
    refine (CV.out _).mono ?_
    rintro e w1 ⟨rfl, G1⟩
    have FIN := Lib.hid (HG0.out.trans G1)
    clear G1 g0 g1 g2 g3 r0 r1 r2 r3 r4 r5 r6 r7 r8
    go_wp2_with fail
    go_ret
    exact ⟨rfl, FIN.out⟩
  | true =>
    go_enter Tryz.func74, Tryz.ntmps74
    go_upto_region 1 with fail
    rw [HW0.out]
    go_wp2_with fail
    refine (CV.out _).mono ?_
    rintro e w1 ⟨rfl, G1⟩
    have FI := Lib.hid (HG0.out.trans G1)
    have CF3 := Lib.hid (CF2.out w1 G1)
    clear G1 g0 g1 g2 g3 r0 r1 r2 r3 r4 r5 r6 r7 r8
    go_wp2_with fail
    refine CF3.out.mono ?_
    rintro e w2 ⟨rfl, G2⟩
    have FIN := Lib.hid (FI.out.trans G2)
    clear G2
    go_wp2_with fail
    go_ret
    exact ⟨rfl, FIN.out⟩

/-- is a cost one of a route? -/
def goodB (n : Int) : Bool := decide (0 ≤ n) && decide (n ≤ 16777216)

theorem ifine_calls (n : Int) (w : World) : Calls Tryz.prog 35 #[.int .i64 n] w fun e w' => e = .returned (.bool (goodB n)) ∧ w = w' := by
  unfold goodB
  by_cases h1 : 0 ≤ n
  · by_cases h2 : n ≤ 16777216
    · rw [decide_eq_true h1, decide_eq_true h2]
      go_enter Tryz.func35, Tryz.ntmps35
      go_wp2_with fail
      go_ret
      exact ⟨rfl, rfl⟩
    · rw [decide_eq_true h1, decide_eq_false h2]
      have h3 : decide (n ≤ 16777216) = false := by simpa using h2
      clear h2
      go_enter Tryz.func35, Tryz.ntmps35
      go_wp2_with fail
      go_ret
      exact ⟨rfl, rfl⟩
  · rw [decide_eq_false h1, Bool.false_and]
    have h3 : decide (0 ≤ n) = false := by simpa using h1
    clear h1
    go_enter Tryz.func35, Tryz.ntmps35
    go_wp2_with fail
    go_ret
    exact ⟨rfl, rfl⟩

end Go.Proofs.YtogdconliofblaaGreat
