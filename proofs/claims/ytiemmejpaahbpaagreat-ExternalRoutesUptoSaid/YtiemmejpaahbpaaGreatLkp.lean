/-
  external.lookup: the route to an address.
-/
import Derived.Test.YtiemmejpaahbpaaGreatWay
namespace Go.Proofs.YtiemmejpaahbpaaGreat
open Go.RowKit

/-- a route in memory, with its hops -/
structure RtH where
  rt : Rt
  hops : List Ls.Hop
deriving Inhabited

structure RoutesAt (w : World) (v : Value) (l : List RtH) : Prop where
  sl : SlV 9 w v (l.map fun x => rtE x.rt)
  hops : ∀ x ∈ l, HopsAt w x.rt.hv x.hops

theorem RoutesAt.below {w w' : World} {v : Value} {l : List RtH} (h : RoutesAt w v l) (hb : Below w.heap.size w w') : RoutesAt w' v l :=
  ⟨h.sl.below hb, fun x hx => (h.hops x hx).below hb⟩

/-- the nine cells of a route -/
def RtCells (w : World) (b o : Nat) (r : Rt) : Prop :=
  w.cell? ⟨b, o, none⟩ = some (.int .u32 r.pfx.addr) ∧ w.cell? ⟨b, o + 1, none⟩ = some (.int .i64 r.pfx.len) ∧ w.cell? ⟨b, o + 2, none⟩ = some (.int .i64 r.proto) ∧ w.cell? ⟨b, o + 3, none⟩ = some (.int .u32 r.area) ∧ w.cell? ⟨b, o + 4, none⟩ = some (.int .i64 r.cost) ∧
    w.cell? ⟨b, o + 5, none⟩ = some (.bool r.second) ∧ w.cell? ⟨b, o + 6, none⟩ = some (.int .i64 r.cost2) ∧ w.cell? ⟨b, o + 7, none⟩ = some (.int .i64 r.tag) ∧ w.cell? ⟨b, o + 8, none⟩ = some (.slice r.ha r.hn r.hc)

theorem RtCells.below {w w' : World} {b o : Nat} {r : Rt} (h : RtCells w b o r) {B : Nat} (hb : Below B w w') (hlt : b < B) : RtCells w' b o r := by
  have e := fun k => World.cell?_of_block (w := w) (w' := w') (a := ⟨b, k, none⟩) (hb.block b hlt)
  obtain ⟨h0, h1, h2, h3, h4, h5, h6, h7, h8⟩ := h
  exact ⟨(e _).trans h0, (e _).trans h1, (e _).trans h2, (e _).trans h3, (e _).trans h4, (e _).trans h5, (e _).trans h6, (e _).trans h7, (e _).trans h8⟩

theorem RoutesAt.get {w : World} {v : Value} {l : List RtH} (h : RoutesAt w v l) : ∃ a cap, v = .slice a l.length cap ∧ l.length ≤ 9223372036854775807 ∧ (0 < l.length → ∃ b off, a = some ⟨b, off, none⟩ ∧ b < w.heap.size ∧ ∀ i (h : i < l.length), RtCells w b (off + i * 9) l[i].rt) := by
  have hl := h.sl.len
  obtain ⟨a, cap, h0, h1, h2, hn, h3⟩ := h.sl
  simp only [List.length_map] at h0 h1 h3 hl
  refine ⟨a, cap, h0, hl, fun hp => ?_⟩
  obtain ⟨b, off, e, h4, h5⟩ := h3 hp
  refine ⟨b, off, e, h4, fun i hi => ?_⟩
  have := h5 i (by simpa using hi)
  simp only [List.getElem_map, rtE] at this
  exact ⟨this 0 _ rfl, this 1 _ rfl, this 2 _ rfl, this 3 _ rfl, this 4 _ rfl, this 5 _ rfl, this 6 _ rfl, this 7 _ rfl, this 8 _ rfl⟩

/-- is route k better than the best so far? -/
def lookT (l : List RtH) (b : Option Nat) (n : Int) : Bool := match b with | none => true | some j => decide ((l.getD j default).rt.pfx.len < n)
def lookB (a : Int) (l : List RtH) (b : Option Nat) (k : Nat) : Bool :=
  containsP (l.getD k default).rt.pfx a && lookT l b (l.getD k default).rt.pfx.len
theorem lookB_at (a : Int) (l : List RtH) (b : Option Nat) (k : Nat) (h : k < l.length) : lookB a l b k = (containsP l[k].rt.pfx a && lookT l b l[k].rt.pfx.len) := by
  unfold lookB; rw [List.getD_eq_getElem?_getD, List.getElem?_eq_getElem h]; rfl
/-- the place of the best route among the first k -/
def lookO (a : Int) (l : List RtH) : Nat → Option Nat
  | 0 => none
  | k + 1 => if lookB a l (lookO a l k) k then some k else lookO a l k

theorem lookO_lt (a : Int) (l : List RtH) : ∀ k j, lookO a l k = some j → j < k
  | 0, j, h => by cases h
  | k + 1, j, h => by
    unfold lookO at h
    split at h
    · cases h; omega
    · have := lookO_lt a l k j h; omega

def lookV : Option Nat → Int | none => -1 | some j => j
def zeroRt : Rt := ⟨⟨0, 0⟩, 0, 0, 0, false, 0, 0, none, 0, 0⟩
def zeroRtH : RtH := ⟨zeroRt, []⟩
def lookR (a : Int) (l : List RtH) : RtH := match lookO a l l.length with | none => zeroRtH | some j => l.getD j default

/-- what the loop carries -/
structure LkRel (w : World) (wr : World) : Prop where
  blk : wr.heap[w.heap.size]? = some (.cells (rtE zeroRt).toArray 36 (0, 0))
  bel : Below w.heap.size w wr

theorem LkRel.grow {w wr wr' : World} (h : LkRel w wr) (hb : Below wr.heap.size wr wr') : LkRel w wr' :=
  ⟨(hb.block _ (blk_lt h.blk)).trans h.blk, h.bel.trans (hb.mono h.bel.size)⟩

/-- the store of a whole route -/
def setRt (W : World) (bb : Nat) (r : Rt) : World :=
  (((((((((W.setCell ⟨bb, 0, none⟩ (.int .u32 r.pfx.addr)).setCell ⟨bb, 1, none⟩ (.int .i64 r.pfx.len)).setCell ⟨bb, 2, none⟩ (.int .i64 r.proto)).setCell ⟨bb, 3, none⟩ (.int .u32 r.area)).setCell ⟨bb, 4, none⟩ (.int .i64 r.cost)).setCell ⟨bb, 5, none⟩ (.bool r.second)).setCell ⟨bb, 6, none⟩ (.int .i64 r.cost2)).setCell ⟨bb, 7, none⟩ (.int .i64 r.tag)).setCell ⟨bb, 8, none⟩ (.slice r.ha r.hn r.hc))
theorem setRt_blk {W : World} {bb : Nat} {c0 c1 c2 c3 c4 c5 c6 c7 c8 : Value} (h : W.heap[bb]? = some (.cells #[c0, c1, c2, c3, c4, c5, c6, c7, c8] 36 (0, 0))) (r : Rt) :
    (setRt W bb r).heap[bb]? = some (.cells (rtE r).toArray 36 (0, 0)) := by
  have h1 := blk_set (blk_set (blk_set (blk_set (blk_set (blk_set (blk_set (blk_set (blk_set h 0 (.int .u32 r.pfx.addr)) 1 (.int .i64 r.pfx.len)) 2 (.int .i64 r.proto)) 3 (.int .u32 r.area)) 4 (.int .i64 r.cost)) 5 (.bool r.second)) 6 (.int .i64 r.cost2)) 7 (.int .i64 r.tag)) 8 (.slice r.ha r.hn r.hc)
  simp only [List.setIfInBounds_toArray, List.set_cons_zero, List.set_cons_succ] at h1
  exact h1
theorem setRt_below {B : Nat} {w W : World} {bb : Nat} (h : Below B w W) (hb : B ≤ bb) (r : Rt) : Below B w (setRt W bb r) :=
  ((((((((h.setCell hb _).setCell hb _).setCell hb _).setCell hb _).setCell hb _).setCell hb _).setCell hb _).setCell hb _).setCell hb _

def LkPost (w : World) (r : Rt) (f : Bool) (e : Ending) (w' : World) : Prop := e = .returned (.tuple #[.agg (rtE r).toArray, .bool f]) ∧ Below w.heap.size w w'

set_option maxHeartbeats 4000000 in
set_option maxRecDepth 100000 in
theorem lookup_calls (a : Int) (a0 : 0 ≤ a) (a1 : a < 4294967296) (v : Value) (l : List RtH) (w : World) (h : RoutesAt w v l) (ok : ∀ x ∈ l, OkP x.rt.pfx) :
    Calls Tryz.prog 78 #[.int .u32 a, v] w (LkPost w (lookR a l).rt (lookO a l l.length).isSome) := by
  obtain ⟨ad, cap, rfl, hl, hc⟩ := h.get
  have HC := Lib.hid hc
  have OK := Lib.hid ok
  clear h hc ok
  have mixed : Tryz.prog.follows .mixedOrders = true := by kernel_rfl
  have R0 : LkRel w (w.alloc (.cells (rtE zeroRt).toArray 36)) := ⟨alloc_new w _, (Below.refl _ _).alloc (Nat.le_refl _) _⟩
  go_enter Tryz.func78, Tryz.ntmps78
  go_wp2_with fail
  go_loopw [6, 11] (fun b i wr => ∃ (k : Nat) (o : Option Nat), b = .int .i64 (lookV o) ∧ i = .int .i64 k ∧ k ≤ l.length ∧ Hid (lookO a l k = o) ∧ LkRel w wr) (fun _ i _ => l.length - (intOf i).toNat)
  case atStart => exact ⟨0, none, rfl, rfl, Nat.zero_le _, Lib.hid rfl, R0⟩
  case round =>
    clear R0
    obtain ⟨k, o, rfl, rfl, hk, LO, R⟩ := hrel
    by_cases c : k < l.length
    · obtain ⟨b, off, rfl, hb0, hcc⟩ := HC.out (by omega)
      have dk := (hcc k c).below R.bel hb0
      have okk := OK.out l[k] (List.getElem_mem c)
      have NXT : Hid (lookO a l (k + 1) = if lookB a l o k then some k else o) := Lib.hid (by rw [← LO.out]; rfl)
      have CC := Lib.hid (fun W => contains_calls l[k].rt.pfx okk a a0 a1 W)
      have LB := Lib.hid (lookB_at a l o k c)
      have GW := Lib.hid (fun (W : World) (hW : Gr (wr.alloc (.cells (rtE l[k].rt).toArray 36)) W) => R.grow (((Below.refl _ _).alloc (Nat.le_refl _) _).trans (hW.b.mono (by simp))))
      obtain ⟨d0, d1, d2, d3, d4, d5, d6, d7, d8⟩ := dk
      have SO : Hid (∀ j, o = some j → ∃ z, wr.cell? ⟨b, off + j * 9 + 1, none⟩ = some (.int .i64 z) ∧ z = (l.getD j default).rt.pfx.len ∧ j < l.length) := Lib.hid (by
        intro j hj
        have hj' := lookO_lt a l k j (by rw [LO.out]; exact hj)
        refine ⟨_, ((hcc j (by omega)).below R.bel hb0).2.1, ?_, by omega⟩
        rw [List.getD_eq_getElem?_getD, List.getElem?_eq_getElem (by omega)]; rfl)
      clear hcc R okk
      generalize l[k].rt = x at *
      obtain ⟨⟨pa, pl⟩, x2, x3, x4, x5, x6, x7, xa, xn, xc⟩ := x
      simp only [rtE] at GW
      simp only at CC LB d0 d1 d2 d3 d4 d5 d6 d7 d8
      cases hcn : containsP ⟨pa, pl⟩ a with
      | false =>
        rw [hcn] at CC LB
        clear hcn SO
        go_wp2_with fail
        obtain ⟨W0, hW0⟩ : ∃ W0, wr.alloc (.cells #[.int .u32 pa, .int .i64 pl, .int .i64 x2, .int .u32 x3, .int .i64 x4, .bool x5, .int .i64 x6, .int .i64 x7, .slice xa xn xc] 36) = W0 := ⟨_, rfl⟩
        have bx : W0.heap[wr.heap.size]? = some (.cells #[.int .u32 pa, .int .i64 pl, .int .i64 x2, .int .u32 x3, .int .i64 x4, .bool x5, .int .i64 x6, .int .i64 x7, .slice xa xn xc] 36 (0, 0)) := by rw [← hW0]; exact alloc_new _ _
        have y0 : ∀ n os, (Go.Sort.grow (W0.drewN n) os).cell? ⟨wr.heap.size, 0, none⟩ = some (.int .u32 pa) := cell_grown (blk_lt bx) (blk_cell bx rfl)
        have y1 : ∀ n os, (Go.Sort.grow (W0.drewN n) os).cell? ⟨wr.heap.size, 1, none⟩ = some (.int .i64 pl) := cell_grown (blk_lt bx) (blk_cell bx rfl)
        rw [hW0] at GW ⊢
        clear hW0 bx d0 d1 d2 d3 d4 d5 d6 d7 d8
        refine wp_region_quiet_grown (by assumption) (by kernel_rfl) ?_
        repeat (go_big_quiet_step ((go_at_call 106; exact Calls.grown_of ((CC.out _).mono fun _ _ ⟨he, hg⟩ => ⟨he, hg.grow⟩))))
        refine wpQuiet_nil ?_
        intro _ hw'
        obtain ⟨⟨nq, osq⟩, hw''⟩ := hw'
        subst hw''
        have RN := Lib.hid (GW.out _ (Gr.of_grow nq osq))
        clear y0 y1
        go_wp2_with fail
        go_roundw
        case rel => exact ⟨k + 1, o, rfl, by go_num, c, Lib.hid (by rw [NXT.out, LB.out]; rfl), RN.out⟩
        case measure => simp [intOf]; omega
      | true =>
        rw [hcn] at CC LB
        clear hcn
        cases o with
        | none =>
          clear SO
          rw [show lookV none = -1 from rfl]
          go_wp2_with fail
          obtain ⟨W0, hW0⟩ : ∃ W0, wr.alloc (.cells #[.int .u32 pa, .int .i64 pl, .int .i64 x2, .int .u32 x3, .int .i64 x4, .bool x5, .int .i64 x6, .int .i64 x7, .slice xa xn xc] 36) = W0 := ⟨_, rfl⟩
          have bx : W0.heap[wr.heap.size]? = some (.cells #[.int .u32 pa, .int .i64 pl, .int .i64 x2, .int .u32 x3, .int .i64 x4, .bool x5, .int .i64 x6, .int .i64 x7, .slice xa xn xc] 36 (0, 0)) := by rw [← hW0]; exact alloc_new _ _
          have y0 : ∀ n os, (Go.Sort.grow (W0.drewN n) os).cell? ⟨wr.heap.size, 0, none⟩ = some (.int .u32 pa) := cell_grown (blk_lt bx) (blk_cell bx rfl)
          have y1 : ∀ n os, (Go.Sort.grow (W0.drewN n) os).cell? ⟨wr.heap.size, 1, none⟩ = some (.int .i64 pl) := cell_grown (blk_lt bx) (blk_cell bx rfl)
          rw [hW0] at GW ⊢
          clear hW0 bx d0 d1 d2 d3 d4 d5 d6 d7 d8
          refine wp_region_quiet_grown (by assumption) (by kernel_rfl) ?_
          repeat (go_big_quiet_step ((go_at_call 106; exact Calls.grown_of ((CC.out _).mono fun _ _ ⟨he, hg⟩ => ⟨he, hg.grow⟩))))
          refine wpQuiet_nil ?_
          intro _ hw'
          obtain ⟨⟨nq, osq⟩, hw''⟩ := hw'
          subst hw''
          have RN := Lib.hid (GW.out _ (Gr.of_grow nq osq))
          clear y0 y1
          go_wp2_with fail
          go_roundw
          case rel => exact ⟨k + 1, some k, rfl, by go_num, c, Lib.hid (by rw [NXT.out, LB.out]; rfl), RN.out⟩
          case measure => simp [intOf]; omega
        | some j =>
          obtain ⟨z, z1, z2, z3⟩ := SO.out j rfl
          rw [show lookV (some j) = (j : Int) from rfl]
          have LT : Hid (lookT l (some j) pl = decide (z < pl)) := Lib.hid (by rw [z2]; rfl)
          have z3' : (j : Int) < (l.length : Int) := by omega
          have j0 : decide ((j : Int) < 0) = false := by simp
          have j1 : (0 : Int) ≤ (j : Int) := by omega
          have j2 : ((j : Int)).toNat = j := by omega
          clear SO z2
          by_cases hz : z < pl
          · have hz' : decide (z < pl) = true := by simpa using hz
            have HZ := Lib.hid hz'
            go_wp2_with fail
            obtain ⟨W0, hW0⟩ : ∃ W0, wr.alloc (.cells #[.int .u32 pa, .int .i64 pl, .int .i64 x2, .int .u32 x3, .int .i64 x4, .bool x5, .int .i64 x6, .int .i64 x7, .slice xa xn xc] 36) = W0 := ⟨_, rfl⟩
            have bx : W0.heap[wr.heap.size]? = some (.cells #[.int .u32 pa, .int .i64 pl, .int .i64 x2, .int .u32 x3, .int .i64 x4, .bool x5, .int .i64 x6, .int .i64 x7, .slice xa xn xc] 36 (0, 0)) := by rw [← hW0]; exact alloc_new _ _
            have y0 : ∀ n os, (Go.Sort.grow (W0.drewN n) os).cell? ⟨wr.heap.size, 0, none⟩ = some (.int .u32 pa) := cell_grown (blk_lt bx) (blk_cell bx rfl)
            have y1 : ∀ n os, (Go.Sort.grow (W0.drewN n) os).cell? ⟨wr.heap.size, 1, none⟩ = some (.int .i64 pl) := cell_grown (blk_lt bx) (blk_cell bx rfl)
            have z4 : W0.cell? ⟨b, off + j * 9 + 1, none⟩ = some (.int .i64 z) := by rw [← hW0]; exact bcell ((Below.refl _ _).alloc (Nat.le_refl _) _) z1
            have y2 : ∀ n os, (Go.Sort.grow (W0.drewN n) os).cell? ⟨b, off + j * 9 + 1, none⟩ = some (.int .i64 z) := cell_grown (World.block_lt_of_cell? _ _ z4) z4
            clear z4 z1
            rw [hW0] at GW ⊢
            clear hW0 bx d0 d1 d2 d3 d4 d5 d6 d7 d8
            refine wp_region_quiet_grown (by assumption) (by kernel_rfl) ?_
            repeat (go_big_quiet_step ((go_at_call 106; exact Calls.grown_of ((CC.out _).mono fun _ _ ⟨he, hg⟩ => ⟨he, hg.grow⟩))))
            refine wpQuiet_nil ?_
            intro _ hw'
            obtain ⟨⟨nq, osq⟩, hw''⟩ := hw'
            subst hw''
            have RN := Lib.hid (GW.out _ (Gr.of_grow nq osq))
            clear y0 y1
            go_wp2_with fail
            go_roundw
            case rel => exact ⟨k + 1, some k, rfl, by go_num, c, Lib.hid (by rw [NXT.out, LB.out]; rw [LT.out, HZ.out]; rfl), RN.out⟩
            case measure => simp [intOf]; omega
          · have hz' : decide (z < pl) = false := by simpa using hz
            have HZ := Lib.hid hz'
            go_wp2_with fail
            obtain ⟨W0, hW0⟩ : ∃ W0, wr.alloc (.cells #[.int .u32 pa, .int .i64 pl, .int .i64 x2, .int .u32 x3, .int .i64 x4, .bool x5, .int .i64 x6, .int .i64 x7, .slice xa xn xc] 36) = W0 := ⟨_, rfl⟩
            have bx : W0.heap[wr.heap.size]? = some (.cells #[.int .u32 pa, .int .i64 pl, .int .i64 x2, .int .u32 x3, .int .i64 x4, .bool x5, .int .i64 x6, .int .i64 x7, .slice xa xn xc] 36 (0, 0)) := by rw [← hW0]; exact alloc_new _ _
            have y0 : ∀ n os, (Go.Sort.grow (W0.drewN n) os).cell? ⟨wr.heap.size, 0, none⟩ = some (.int .u32 pa) := cell_grown (blk_lt bx) (blk_cell bx rfl)
            have y1 : ∀ n os, (Go.Sort.grow (W0.drewN n) os).cell? ⟨wr.heap.size, 1, none⟩ = some (.int .i64 pl) := cell_grown (blk_lt bx) (blk_cell bx rfl)
            have z4 : W0.cell? ⟨b, off + j * 9 + 1, none⟩ = some (.int .i64 z) := by rw [← hW0]; exact bcell ((Below.refl _ _).alloc (Nat.le_refl _) _) z1
            have y2 : ∀ n os, (Go.Sort.grow (W0.drewN n) os).cell? ⟨b, off + j * 9 + 1, none⟩ = some (.int .i64 z) := cell_grown (World.block_lt_of_cell? _ _ z4) z4
            clear z4 z1
            rw [hW0] at GW ⊢
            clear hW0 bx d0 d1 d2 d3 d4 d5 d6 d7 d8
            refine wp_region_quiet_grown (by assumption) (by kernel_rfl) ?_
            repeat (go_big_quiet_step ((go_at_call 106; exact Calls.grown_of ((CC.out _).mono fun _ _ ⟨he, hg⟩ => ⟨he, hg.grow⟩))))
            refine wpQuiet_nil ?_
            intro _ hw'
            obtain ⟨⟨nq, osq⟩, hw''⟩ := hw'
            subst hw''
            have RN := Lib.hid (GW.out _ (Gr.of_grow nq osq))
            clear y0 y1
            go_wp2_with fail
            go_roundw
            case rel => exact ⟨k + 1, some j, rfl, by go_num, c, Lib.hid (by rw [NXT.out, LB.out]; rw [LT.out, HZ.out]; rfl), RN.out⟩
            case measure => simp [intOf]; omega
    · have LE : Hid (lookO a l l.length = o) := Lib.hid (by rw [show l.length = k from by omega]; exact LO.out)
      obtain ⟨bk, bl⟩ := R
      cases o with
      | none =>
        have E1 : Hid ((lookR a l).rt = zeroRt ∧ (lookO a l l.length).isSome = false) := Lib.hid (by unfold lookR; rw [LE.out]; exact ⟨rfl, rfl⟩)
        rw [show lookV none = -1 from rfl]
        simp only [zeroRt, rtE] at bk ⊢
        have e0 : wr.cell? ⟨w.heap.size, 0, none⟩ = some (.int .u32 0) := blk_cell bk rfl
        have e1 : wr.cell? ⟨w.heap.size, 1, none⟩ = some (.int .i64 0) := blk_cell bk rfl
        have e2 : wr.cell? ⟨w.heap.size, 2, none⟩ = some (.int .i64 0) := blk_cell bk rfl
        have e3 : wr.cell? ⟨w.heap.size, 3, none⟩ = some (.int .u32 0) := blk_cell bk rfl
        have e4 : wr.cell? ⟨w.heap.size, 4, none⟩ = some (.int .i64 0) := blk_cell bk rfl
        have e5 : wr.cell? ⟨w.heap.size, 5, none⟩ = some (.bool false) := blk_cell bk rfl
        have e6 : wr.cell? ⟨w.heap.size, 6, none⟩ = some (.int .i64 0) := blk_cell bk rfl
        have e7 : wr.cell? ⟨w.heap.size, 7, none⟩ = some (.int .i64 0) := blk_cell bk rfl
        have e8 : wr.cell? ⟨w.heap.size, 8, none⟩ = some (.slice none 0 0) := blk_cell bk rfl
        have f0 := blk_free bk 0
        have f1 := blk_free bk 1
        have f2 := blk_free bk 2
        have f3 := blk_free bk 3
        have f4 := blk_free bk 4
        have f5 := blk_free bk 5
        have f6 := blk_free bk 6
        have f7 := blk_free bk 7
        have f8 := blk_free bk 8
        obtain ⟨W', hW'⟩ : ∃ W', setRt wr w.heap.size ⟨⟨0, 0⟩, 0, 0, 0, false, 0, 0, none, 0, 0⟩ = W' := ⟨_, rfl⟩
        have bk' : W'.heap[w.heap.size]? = some (.cells #[.int .u32 0, .int .i64 0, .int .i64 0, .int .u32 0, .int .i64 0, .bool false, .int .i64 0, .int .i64 0, .slice none 0 0] 36 (0, 0)) := by rw [← hW']; exact setRt_blk bk _
        have bl' : Below w.heap.size w W' := by rw [← hW']; exact setRt_below bl (Nat.le_refl _) _
        unfold setRt at hW'
        simp only at hW'
        have HW' := Lib.hid hW'
        clear hW' bk
        go_wp2_with fail
        rw [HW'.out]
        have g0 : W'.cell? ⟨w.heap.size, 0, none⟩ = some (.int .u32 0) := blk_cell bk' rfl
        have g1 : W'.cell? ⟨w.heap.size, 1, none⟩ = some (.int .i64 0) := blk_cell bk' rfl
        have g2 : W'.cell? ⟨w.heap.size, 2, none⟩ = some (.int .i64 0) := blk_cell bk' rfl
        have g3 : W'.cell? ⟨w.heap.size, 3, none⟩ = some (.int .u32 0) := blk_cell bk' rfl
        have g4 : W'.cell? ⟨w.heap.size, 4, none⟩ = some (.int .i64 0) := blk_cell bk' rfl
        have g5 : W'.cell? ⟨w.heap.size, 5, none⟩ = some (.bool false) := blk_cell bk' rfl
        have g6 : W'.cell? ⟨w.heap.size, 6, none⟩ = some (.int .i64 0) := blk_cell bk' rfl
        have g7 : W'.cell? ⟨w.heap.size, 7, none⟩ = some (.int .i64 0) := blk_cell bk' rfl
        have g8 : W'.cell? ⟨w.heap.size, 8, none⟩ = some (.slice none 0 0) := blk_cell bk' rfl
        exact bodyPost_ret (v := .tuple #[.agg #[.int .u32 0, .int .i64 0, .int .i64 0, .int .u32 0, .int .i64 0, .bool false, .int .i64 0, .int .i64 0, .slice none 0 0], .bool false]) (by simp [results, Tryz.results78, go_sem, g0, g1, g2, g3, g4, g5, g6, g7, g8]) rfl ⟨by rw [E1.out.1, E1.out.2]; rfl, bl'⟩
      | some j =>
        have hj := lookO_lt a l k j LO.out
        obtain ⟨b, off, rfl, hb0, hcc⟩ := HC.out (by omega)
        obtain ⟨d0, d1, d2, d3, d4, d5, d6, d7, d8⟩ := (hcc j (by omega)).below bl hb0
        have E1 : Hid ((lookR a l).rt = l[j].rt ∧ (lookO a l l.length).isSome = true) := Lib.hid (by
          unfold lookR; rw [LE.out]
          refine ⟨?_, rfl⟩
          show (l.getD j default).rt = _
          rw [List.getD_eq_getElem?_getD, List.getElem?_eq_getElem (by omega)]; rfl)
        rw [show lookV (some j) = (j : Int) from rfl]
        have z3' : (j : Int) < (l.length : Int) := by omega
        have j1 : (0 : Int) ≤ (j : Int) := by omega
        clear hcc LE LO HC
        generalize l[j].rt = x at *
        obtain ⟨⟨pa, pl⟩, x2, x3, x4, x5, x6, x7, xa, xn, xc⟩ := x
        simp only at d0 d1 d2 d3 d4 d5 d6 d7 d8
        simp only [zeroRt, rtE] at bk ⊢
        have e0 : wr.cell? ⟨w.heap.size, 0, none⟩ = some (.int .u32 0) := blk_cell bk rfl
        have e1 : wr.cell? ⟨w.heap.size, 1, none⟩ = some (.int .i64 0) := blk_cell bk rfl
        have e2 : wr.cell? ⟨w.heap.size, 2, none⟩ = some (.int .i64 0) := blk_cell bk rfl
        have e3 : wr.cell? ⟨w.heap.size, 3, none⟩ = some (.int .u32 0) := blk_cell bk rfl
        have e4 : wr.cell? ⟨w.heap.size, 4, none⟩ = some (.int .i64 0) := blk_cell bk rfl
        have e5 : wr.cell? ⟨w.heap.size, 5, none⟩ = some (.bool false) := blk_cell bk rfl
        have e6 : wr.cell? ⟨w.heap.size, 6, none⟩ = some (.int .i64 0) := blk_cell bk rfl
        have e7 : wr.cell? ⟨w.heap.size, 7, none⟩ = some (.int .i64 0) := blk_cell bk rfl
        have e8 : wr.cell? ⟨w.heap.size, 8, none⟩ = some (.slice none 0 0) := blk_cell bk rfl
        have f0 := blk_free bk 0
        have f1 := blk_free bk 1
        have f2 := blk_free bk 2
        have f3 := blk_free bk 3
        have f4 := blk_free bk 4
        have f5 := blk_free bk 5
        have f6 := blk_free bk 6
        have f7 := blk_free bk 7
        have f8 := blk_free bk 8
        obtain ⟨W', hW'⟩ : ∃ W', setRt wr w.heap.size ⟨⟨pa, pl⟩, x2, x3, x4, x5, x6, x7, xa, xn, xc⟩ = W' := ⟨_, rfl⟩
        have bk' : W'.heap[w.heap.size]? = some (.cells #[.int .u32 pa, .int .i64 pl, .int .i64 x2, .int .u32 x3, .int .i64 x4, .bool x5, .int .i64 x6, .int .i64 x7, .slice xa xn xc] 36 (0, 0)) := by rw [← hW']; exact setRt_blk bk _
        have bl' : Below w.heap.size w W' := by rw [← hW']; exact setRt_below bl (Nat.le_refl _) _
        unfold setRt at hW'
        simp only at hW'
        have HW' := Lib.hid hW'
        clear hW' bk
        go_wp2_with fail
        rw [HW'.out]
        have g0 : W'.cell? ⟨w.heap.size, 0, none⟩ = some (.int .u32 pa) := blk_cell bk' rfl
        have g1 : W'.cell? ⟨w.heap.size, 1, none⟩ = some (.int .i64 pl) := blk_cell bk' rfl
        have g2 : W'.cell? ⟨w.heap.size, 2, none⟩ = some (.int .i64 x2) := blk_cell bk' rfl
        have g3 : W'.cell? ⟨w.heap.size, 3, none⟩ = some (.int .u32 x3) := blk_cell bk' rfl
        have g4 : W'.cell? ⟨w.heap.size, 4, none⟩ = some (.int .i64 x4) := blk_cell bk' rfl
        have g5 : W'.cell? ⟨w.heap.size, 5, none⟩ = some (.bool x5) := blk_cell bk' rfl
        have g6 : W'.cell? ⟨w.heap.size, 6, none⟩ = some (.int .i64 x6) := blk_cell bk' rfl
        have g7 : W'.cell? ⟨w.heap.size, 7, none⟩ = some (.int .i64 x7) := blk_cell bk' rfl
        have g8 : W'.cell? ⟨w.heap.size, 8, none⟩ = some (.slice xa xn xc) := blk_cell bk' rfl
        exact bodyPost_ret (v := .tuple #[.agg #[.int .u32 pa, .int .i64 pl, .int .i64 x2, .int .u32 x3, .int .i64 x4, .bool x5, .int .i64 x6, .int .i64 x7, .slice xa xn xc], .bool true]) (by simp [results, Tryz.results78, go_sem, g0, g1, g2, g3, g4, g5, g6, g7, g8]) rfl ⟨by rw [E1.out.1, E1.out.2]; rfl, bl'⟩

end Go.Proofs.YtiemmejpaahbpaaGreat
