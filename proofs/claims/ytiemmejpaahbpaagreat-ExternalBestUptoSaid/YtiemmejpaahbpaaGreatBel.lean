/-
  ExternalBest: the law walked.
-/
import Derived.Test.YtiemmejpaahbpaaGreatBpl
import Derived.Test.YtiemmejpaahbpaaGreatRof
import Derived.Test.YtiemmejpaahbpaaGreatLiv
import Derived.IntWalk
namespace Go.Proofs.YtiemmejpaahbpaaGreat
open Go.RowKit

theorem RoutesAt.hn {w : World} {v : Value} {l : List RtH} (h : RoutesAt w v l) {y : RtH} (hy : y ∈ l) : y.rt.hn = y.hops.length := by
  obtain ⟨a, cap, e, _⟩ := h.hops y hy
  unfold Rt.hv at e
  have := (Value.slice.inj e).2.1
  simpa using this

theorem le_sum_mem {l : List Nat} {n : Nat} (h : n ∈ l) : n ≤ l.sum := by
  induction l with
  | nil => cases h
  | cons x l ih =>
    rw [List.sum_cons]
    rcases List.mem_cons.1 h with rfl | h
    · omega
    · have := ih h; omega

/-- is prefix p among the first k routes? -/
def fAny (p : Ls.Pfx) (l : List RtH) (k : Nat) : Bool := (List.range k).any fun i => decide ((rthAt l i).rt.pfx = p)
theorem fAny_succ (p : Ls.Pfx) (l : List RtH) (k : Nat) : fAny p l (k + 1) = (fAny p l k || decide ((rthAt l k).rt.pfx = p)) := by simp [fAny, List.range_succ]

structure BeIn (w2 : World) (p : Ls.Pfx) (l : List RtH) (m : Nat) (ff : Bool) (wr : World) : Prop where
  hm : m ≤ l.length
  eq : ff = fAny p l m
  bel : Below w2.heap.size w2 wr

/-- what is known of an advertisement that offers -/
def BestOf (l : List RtH) (o : Rp) : Prop := fAny o.pfx l l.length = true ∧ ∀ m, m < l.length → (rthAt l m).rt.pfx = o.pfx → 0 ≤ rpCmp o (rthAt l m).pure

theorem best_of {db : List LsaD} {router : Int} {reach : List Rch} {inner : List RtH} (F : FineArgs db reach inner) {l : List RtH} (MEM : ∀ r, r ∈ l.map RtH.pure ↔ tabOf router reach inner (db.map LsaD.x) r.pfx = some r)
    {k : Nat} (c : k < db.length) (h : rfAll router (dAt db k).x reach inner = true) : BestOf l (rfR (dAt db k).x reach inner) := by
  have hd : dAt db k ∈ db := by rw [dAt_eq c]; exact List.getElem_mem c
  obtain ⟨h1, h2⟩ := Bool.and_eq_true_iff.1 h
  have t5 : (dAt db k).x.typ = 5 := by
    unfold offK at h1
    simp only [Bool.and_eq_true, decide_eq_true_eq] at h1
    exact h1.1.1
  obtain ⟨e1, e2⟩ := rf_ok reach inner (F.db.mem hd) t5 F.rv
  rw [e1] at h2
  rw [e2 h2]
  obtain ⟨r, hr, hc⟩ := tabOf_best router reach inner (db.map LsaD.x) (List.mem_map.2 ⟨_, hd, rfl⟩) (Bool.and_eq_true_iff.2 ⟨h1, h2⟩)
  have hp := tabOf_pfx router reach inner (db.map LsaD.x) _ _ hr
  rw [← hp] at hr
  obtain ⟨y, hy, rfl⟩ := List.mem_map.1 ((MEM r).2 hr)
  refine ⟨?_, fun m hm hmp => ?_⟩
  · obtain ⟨i, hi, rfl⟩ := List.getElem_of_mem hy
    unfold fAny
    rw [List.any_eq_true]
    refine ⟨i, List.mem_range.2 hi, ?_⟩
    rw [rthAt_eq hi]
    exact decide_eq_true hp
  · have hm2 : (rthAt l m).pure ∈ l.map RtH.pure := List.mem_map.2 ⟨_, by rw [rthAt_eq hm]; exact List.getElem_mem hm, rfl⟩
    have h3 := (MEM _).1 hm2
    have h4 : (rthAt l m).pure.pfx = y.pure.pfx := hmp.trans hp.symm
    rw [h4, hr] at h3
    rw [← Option.some.inj h3]
    exact hc

set_option maxHeartbeats 16000000 in
set_option maxRecDepth 100000 in
theorem best_law (w : World) (vd : Value) (db : List LsaD) (router : Int) (vr : Value) (reach : List Rch) (vi : Value) (inner : List RtH) (hd : DbAt w vd db) (hr : ReachAt w vr reach) (hi : RoutesAt w vi inner) (ok : ∀ y ∈ inner, OkP y.rt.pfx)
    (hb : hopSum reach + (inner.map fun y => y.hops.length).sum ≤ 1048576) : Calls Tryz.prog 4 #[vd, .int .u32 router, vr, vi] w (LivPost w) := by
  have CF := Lib.hid (fine_calls w vd db vr reach vi inner hd hr hi ok)
  have CR := Lib.hid (fun (F : FineArgs db reach inner) W (hb' : Below w.heap.size w W) => routes_calls W (db.map LsaD.x) vd router reach vr inner vi 1048576 (hd.below hb').1 (hr.below hb') (hi.below hb') (RBd.of_fine F hd.2 ok hb))
  have LV := Lib.hid (fun W => lives_calls W)
  obtain ⟨a1, c1, e1, hl1, hcd⟩ := hd.1.get
  simp only [List.length_map] at e1 hl1 hcd
  obtain ⟨a2, c2, e2, hl2, -⟩ := hr.get
  obtain ⟨a3, c3, e3, hl3, -⟩ := hi.get
  subst e1 e2 e3
  have HCD := Lib.hid hcd
  have HD2 := Lib.hid hd.2
  have mixed : Tryz.prog.follows .mixedOrders = true := by kernel_rfl
  have HRR := Lib.hid hr
  have HII := Lib.hid hi
  have HIN : Hid (∀ (y : RtH), y ∈ inner → y.hops.length ≤ 1048576) := Lib.hid (fun y hy => by
    have h1 : y.hops.length ≤ (inner.map fun y => y.hops.length).sum := le_sum_mem (List.mem_map.2 ⟨y, hy, rfl⟩)
    omega)
  have HRN : Hid (hopSum reach ≤ 1048576) := Lib.hid (by omega)
  clear hd hr hi hcd ok hb
  go_enter Tryz.func4, Tryz.ntmps4
  go_wp2_with fail
  refine CF.out.mono ?_
  rintro e w1 ⟨b1, rfl, B1, K1⟩
  have HB1 := Lib.hid B1
  cases b1 with
  | false =>
    clear CF CR B1 K1
    go_wp2_with fail
    refine (LV.out _).mono ?_
    rintro e w9 ⟨rfl, B9⟩
    have FIN := Lib.hid (HB1.out.trans (B9.mono HB1.out.size))
    clear B9
    go_wp2_with fail
    go_ret
    exact ⟨rfl, FIN.out⟩
  | true =>
    have FA := Lib.hid (K1 rfl)
    have CR2 := Lib.hid (CR.out FA.out w1 B1)
    clear CF CR B1 K1
    go_wp2_with fail
    refine CR2.out.mono ?_
    rintro e w2 ⟨v, l, rfl, RA, B2, PW, MEM⟩
    have HB2 := Lib.hid (HB1.out.trans (B2.mono HB1.out.size))
    obtain ⟨ar, cr, er, hlr, hcr⟩ := RA.get
    subst er
    have HCR := Lib.hid hcr
    have BST := Lib.hid (fun k (c : k < db.length) h => best_of (router := router) FA.out MEM c h)
    have OFR : Hid (∀ k, k < db.length → ∀ W, Below w.heap.size w W → Calls Tryz.prog 11 #[.agg (lsaE (dAt db k).x).toArray, .int .u32 router, .slice a2 reach.length c2, .slice a3 inner.length c3] W (RofPost W router (dAt db k).x reach inner)) := Lib.hid (fun k c W hb => by
      have hd : dAt db k ∈ db := by rw [dAt_eq c]; exact List.getElem_mem c
      refine roffer_calls _ (HD2.out _ hd).ok router _ reach _ inner W (HRR.out.below hb) ?_ (HII.out.below hb) FA.out.rv ?_ ?_
      · have := HRN.out; omega
      · intro y hy; have := HIN.out y hy; omega
      · intro _
        have h1 := rfWay_cost (dAt db k).x reach inner FA.out.rv FA.out.rc FA.out.ic
        have h2 := (FA.out.db.mem hd).c0
        have h3 := (FA.out.db.mem hd).c1
        exact ⟨h1.1, h1.2, h2, by omega⟩)
    clear CR2 RA B2 PW MEM hcr HRR HII HIN HRN FA
    go_wp2_with fail
    go_loopw [28] (fun i wr => ∃ k : Nat, i = .int .i64 k ∧ k ≤ db.length ∧ Hid (Below w2.heap.size w2 wr)) (fun i _ => db.length - (intOf i).toNat)
    case atStart => exact ⟨0, rfl, Nat.zero_le _, Lib.hid (Below.refl _ _)⟩
    case round =>
      obtain ⟨k, rfl, hk, R⟩ := hrel
      by_cases c : k < db.length
      · obtain ⟨dbb, doff, rfl, hdb, hdc⟩ := HCD.out (by omega)
        have hdc := hdc k c
        simp only [List.getElem_map] at hdc
        rw [← dAt_eq c] at hdc
        have HBr : Hid (Below w.heap.size w wr) := Lib.hid (HB2.out.trans (R.out.mono HB2.out.size))
        obtain ⟨⟨h0, h1, h2, h3, h4⟩, ⟨h5, h6, h7, h8, h9⟩, ⟨h10, h11, h12, h13, h14⟩⟩ := hdc.below HBr.out hdb
        have BS := Lib.hid (BST.out k c)
        have OC := Lib.hid (OFR.out k c wr HBr.out)
        have i0 : (0 : Int) ≤ (k : Int) := by omega
        have i1 : (k : Int) < (db.length : Int) := by omega
        have s3 : ((k : Int)).toNat = k := by omega
        clear hdc
        generalize (dAt db k).x = x at *
        unfold RofPost at OC
        generalize rfAll router x reach inner = RAL at *
        generalize rfR x reach inner = o at *
        obtain ⟨typ, id, len, dr, seq, age, sum, border, boundary, la, ln, lc, aa, an, ac, dcost, dsecond, fwd, dtag⟩ := x
        simp only [lsaE] at *
        go_wp2_with fail
        refine OC.out.mono ?_
        clear h0 h1 h2 h3 h4 h5 h6 h7 h8 h9 h10 h11 h12 h13 h14 OC HBr
        rintro e w3 (⟨hall, va, vn, vc, rfl, HA, B3⟩ | ⟨hall, rr, rfl, B3⟩)
        · have BO := Lib.hid (BS.out hall)
          have HB3 : Hid (Below w2.heap.size w2 w3) := Lib.hid (R.out.trans (B3.mono R.out.size))
          clear BS HA B3 hall
          obtain ⟨⟨pa, pl⟩, proto, area, cost, second, cost2, tag, hops⟩ := o
          simp only [Rp.rt, rtE] at *
          go_upto_region 9 with fail
          generalize hW4 : w3.alloc _ = W4
          have B4 : Below w3.heap.size w3 W4 := by rw [← hW4]; exact (Below.refl _ _).alloc (Nat.le_refl _) _
          have bx : W4.heap[w3.heap.size]? = some (.cells #[.int .u32 pa, .int .i64 pl, .int .i64 proto, .int .u32 area, .int .i64 cost, .bool second, .int .i64 cost2, .int .i64 tag, .slice va vn vc] 36 (0, 0)) := by rw [← hW4]; exact alloc_new _ _
          have HB4 : Hid (Below w2.heap.size w2 W4) := Lib.hid (HB3.out.trans (B4.mono HB3.out.size))
          have BXX := Lib.hid bx
          clear hW4 B4 bx
          go_wp2_with fail
          go_loopw [13, 46] (fun f i wi => ∃ (m : Nat) (ff : Bool), f = .bool ff ∧ i = .int .i64 m ∧ BeIn W4 ⟨pa, pl⟩ l m ff wi) (fun _ i _ => l.length - (intOf i).toNat)
          case atStart => exact ⟨0, false, rfl, rfl, ⟨Nat.zero_le _, rfl, Below.refl _ _⟩⟩
          case round =>
            obtain ⟨m, ff, rfl, rfl, RI⟩ := hrel
            have hm := RI.hm
            by_cases c2 : m < l.length
            · obtain ⟨rb, roff, rfl, hrb, hcc⟩ := HCR.out (by omega)
              have hcc := hcc m c2
              rw [← rthAt_eq c2] at hcc
              obtain ⟨d0, d1, d2, d3, d4, d5, d6, d7, d8⟩ := hcc.below (HB4.out.trans (RI.bel.mono HB4.out.size)) hrb
              have be := (RI.bel.block w3.heap.size (blk_lt BXX.out)).trans BXX.out
              obtain ⟨⟨x0, x1, x2, x3, x4, x5, x6, x7, x8⟩, -⟩ := blk9 be
              have NX := Lib.hid (fun (ff' : Bool) (e : ff' = (ff || decide ((rthAt l m).rt.pfx = ⟨pa, pl⟩))) (W' : World) (g : Below wr.heap.size wr W') => (⟨c2, by rw [fAny_succ, ← RI.eq]; exact e, RI.bel.trans (g.mono RI.bel.size)⟩ : BeIn W4 ⟨pa, pl⟩ l (m + 1) ff' W'))
              have BM := Lib.hid (BO.out.2 m c2)
              have m0 : (0 : Int) ≤ (m : Int) := by omega
              have m1 : (m : Int) < (l.length : Int) := by omega
              have s4 : ((m : Int)).toNat = m := by omega
              clear RI hcc be
              generalize rthAt l m = y at *
              obtain ⟨⟨⟨ya, yl⟩, yproto, yarea, ycost, ysecond, ycost2, ytag, yha, yhn, yhc⟩, yhops⟩ := y
              simp only at d0 d1 d2 d3 d4 d5 d6 d7 d8 NX BM
              by_cases hp : (⟨ya, yl⟩ : Ls.Pfx) = ⟨pa, pl⟩
              · have E : ∀ W, (binOp .eql 33 (.agg #[.int .u32 ya, .int .i64 yl]) (.agg #[.int .u32 pa, .int .i64 pl])).run Tryz.prog W = .ok (.bool true) W := fun W => by
                  have := eqPfx ⟨ya, yl⟩ ⟨pa, pl⟩ W
                  rwa [decide_eq_true hp] at this
                have NXv := Lib.hid (NX.out true (by rw [decide_eq_true hp, Bool.or_true]))
                have BV := BM.out hp
                have LC := Lib.hid (fun W => (rcompare_calls (⟨⟨pa, pl⟩, proto, area, cost, second, cost2, tag, va, vn, vc⟩ : Rt) ⟨⟨ya, yl⟩, yproto, yarea, ycost, ysecond, ycost2, ytag, yha, yhn, yhc⟩ W).mono fun _ _ h => (⟨h.1, h.2.grow⟩ : _ ∧ ∃ q os, _ = Go.Sort.grow (World.drewN W q) os))
                have cd : decide (rtCmp (⟨⟨pa, pl⟩, proto, area, cost, second, cost2, tag, va, vn, vc⟩ : Rt) ⟨⟨ya, yl⟩, yproto, yarea, ycost, ysecond, ycost2, ytag, yha, yhn, yhc⟩ < 0) = false := by
                  have : 0 ≤ rtCmp (⟨⟨pa, pl⟩, proto, area, cost, second, cost2, tag, va, vn, vc⟩ : Rt) ⟨⟨ya, yl⟩, yproto, yarea, ycost, ysecond, ycost2, ytag, yha, yhn, yhc⟩ := BV
                  simp only [decide_eq_false_iff_not]; omega
                generalize rtCmp (⟨⟨pa, pl⟩, proto, area, cost, second, cost2, tag, va, vn, vc⟩ : Rt) ⟨⟨ya, yl⟩, yproto, yarea, ycost, ysecond, ycost2, ytag, yha, yhn, yhc⟩ = cv at *
                simp only [rtE] at LC
                clear hp NX BM BV
                go_wp2_with fail
                go_quiet (fail)
                generalize hW1 : wr.drewN _ = wo
                have G1 : Gr wr wo := by rw [← hW1]; exact (Gr.refl wr).drewN _
                have NXw := Lib.hid (fun (W' : World) (g : Below wo.heap.size wo W') => NXv.out W' (G1.b.trans (g.mono G1.b.size)))
                have d0 := bcell G1.b d0
                have d1 := bcell G1.b d1
                have d2 := bcell G1.b d2
                have d3 := bcell G1.b d3
                have d4 := bcell G1.b d4
                have d5 := bcell G1.b d5
                have d6 := bcell G1.b d6
                have d7 := bcell G1.b d7
                have d8 := bcell G1.b d8
                have x0 := bcell G1.b x0
                have x1 := bcell G1.b x1
                have x2 := bcell G1.b x2
                have x3 := bcell G1.b x3
                have x4 := bcell G1.b x4
                have x5 := bcell G1.b x5
                have x6 := bcell G1.b x6
                have x7 := bcell G1.b x7
                have x8 := bcell G1.b x8
                clear hW1 NXv G1 E
                have y0 : ∀ n os, (Go.Sort.grow (wo.drewN n) os).cell? ⟨rb, roff + m * 9, none⟩ = some (.int .u32 ya) := cell_grown (World.block_lt_of_cell? _ _ d0) d0
                have y1 : ∀ n os, (Go.Sort.grow (wo.drewN n) os).cell? ⟨rb, roff + m * 9 + 1, none⟩ = some (.int .i64 yl) := cell_grown (World.block_lt_of_cell? _ _ d1) d1
                have y2 : ∀ n os, (Go.Sort.grow (wo.drewN n) os).cell? ⟨rb, roff + m * 9 + 2, none⟩ = some (.int .i64 yproto) := cell_grown (World.block_lt_of_cell? _ _ d2) d2
                have y3 : ∀ n os, (Go.Sort.grow (wo.drewN n) os).cell? ⟨rb, roff + m * 9 + 3, none⟩ = some (.int .u32 yarea) := cell_grown (World.block_lt_of_cell? _ _ d3) d3
                have y4 : ∀ n os, (Go.Sort.grow (wo.drewN n) os).cell? ⟨rb, roff + m * 9 + 4, none⟩ = some (.int .i64 ycost) := cell_grown (World.block_lt_of_cell? _ _ d4) d4
                have y5 : ∀ n os, (Go.Sort.grow (wo.drewN n) os).cell? ⟨rb, roff + m * 9 + 5, none⟩ = some (.bool ysecond) := cell_grown (World.block_lt_of_cell? _ _ d5) d5
                have y6 : ∀ n os, (Go.Sort.grow (wo.drewN n) os).cell? ⟨rb, roff + m * 9 + 6, none⟩ = some (.int .i64 ycost2) := cell_grown (World.block_lt_of_cell? _ _ d6) d6
                have y7 : ∀ n os, (Go.Sort.grow (wo.drewN n) os).cell? ⟨rb, roff + m * 9 + 7, none⟩ = some (.int .i64 ytag) := cell_grown (World.block_lt_of_cell? _ _ d7) d7
                have y8 : ∀ n os, (Go.Sort.grow (wo.drewN n) os).cell? ⟨rb, roff + m * 9 + 8, none⟩ = some (.slice yha yhn yhc) := cell_grown (World.block_lt_of_cell? _ _ d8) d8
                have z0 : ∀ n os, (Go.Sort.grow (wo.drewN n) os).cell? ⟨w3.heap.size, 0, none⟩ = some (.int .u32 pa) := cell_grown (World.block_lt_of_cell? _ _ x0) x0
                have z1 : ∀ n os, (Go.Sort.grow (wo.drewN n) os).cell? ⟨w3.heap.size, 1, none⟩ = some (.int .i64 pl) := cell_grown (World.block_lt_of_cell? _ _ x1) x1
                have z2 : ∀ n os, (Go.Sort.grow (wo.drewN n) os).cell? ⟨w3.heap.size, 2, none⟩ = some (.int .i64 proto) := cell_grown (World.block_lt_of_cell? _ _ x2) x2
                have z3 : ∀ n os, (Go.Sort.grow (wo.drewN n) os).cell? ⟨w3.heap.size, 3, none⟩ = some (.int .u32 area) := cell_grown (World.block_lt_of_cell? _ _ x3) x3
                have z4 : ∀ n os, (Go.Sort.grow (wo.drewN n) os).cell? ⟨w3.heap.size, 4, none⟩ = some (.int .i64 cost) := cell_grown (World.block_lt_of_cell? _ _ x4) x4
                have z5 : ∀ n os, (Go.Sort.grow (wo.drewN n) os).cell? ⟨w3.heap.size, 5, none⟩ = some (.bool second) := cell_grown (World.block_lt_of_cell? _ _ x5) x5
                have z6 : ∀ n os, (Go.Sort.grow (wo.drewN n) os).cell? ⟨w3.heap.size, 6, none⟩ = some (.int .i64 cost2) := cell_grown (World.block_lt_of_cell? _ _ x6) x6
                have z7 : ∀ n os, (Go.Sort.grow (wo.drewN n) os).cell? ⟨w3.heap.size, 7, none⟩ = some (.int .i64 tag) := cell_grown (World.block_lt_of_cell? _ _ x7) x7
                have z8 : ∀ n os, (Go.Sort.grow (wo.drewN n) os).cell? ⟨w3.heap.size, 8, none⟩ = some (.slice va vn vc) := cell_grown (World.block_lt_of_cell? _ _ x8) x8
                clear d0 d1 d2 d3 d4 d5 d6 d7 d8 x0 x1 x2 x3 x4 x5 x6 x7 x8
                go_wp2_with fail
                refine wp_region_quiet_grown (by assumption) (by kernel_rfl) ?_
                repeat (go_big_quiet_step ((go_at_call 12; with_reducible exact Calls.grown_of (LC.out _))))
                refine wpQuiet_nil ?_
                intro _ hw'
                obtain ⟨⟨nq, osq⟩, hw''⟩ := hw'
                subst hw''
                have NXz := Lib.hid (NXw.out (Go.Sort.grow (wo.drewN nq) osq) (Gr.of_grow nq osq).b)
                clear NXw y0 y1 y2 y3 y4 y5 y6 y7 y8 z0 z1 z2 z3 z4 z5 z6 z7 z8 LC
                go_wp2_with fail
                go_roundw
                case rel => exact ⟨m + 1, true, rfl, by go_num, NXz.out⟩
                case measure => simp [intOf]; omega
              · have E : ∀ W, (binOp .eql 33 (.agg #[.int .u32 ya, .int .i64 yl]) (.agg #[.int .u32 pa, .int .i64 pl])).run Tryz.prog W = .ok (.bool false) W := fun W => by
                  have := eqPfx ⟨ya, yl⟩ ⟨pa, pl⟩ W
                  rwa [decide_eq_false hp] at this
                have NXv := Lib.hid (fun n => NX.out ff (by rw [decide_eq_false hp, Bool.or_false]) (wr.drewN n) ((Gr.refl _).drewN n).b)
                clear hp NX BM
                go_wp2_with fail
                go_quiet (fail)
                clear d0 d1 d2 d3 d4 d5 d6 d7 d8 x0 x1 x2 x3 x4 x5 x6 x7 x8
                go_wp2_with fail
                go_roundw
                case rel => exact ⟨m + 1, ff, rfl, by go_num, NXv.out _⟩
                case measure => simp [intOf]; omega
            · have ET : ff = true := by rw [RI.eq, show m = l.length from by omega]; exact BO.out.1
              subst ET
              have FINO : Hid (Below w2.heap.size w2 wr) := Lib.hid (HB4.out.trans (RI.bel.mono HB4.out.size))
              clear RI
              go_wp2_with fail
              go_roundw
              case rel => exact ⟨k + 1, by go_num, by omega, FINO⟩
              case measure => simp [intOf]; omega
        · have NB : Hid (∀ o, Below w2.heap.size w2 (w3.alloc o)) := Lib.hid (fun o => (R.out.trans (B3.mono R.out.size)).trans (((Below.refl _ _).alloc (Nat.le_refl _) o).mono (R.out.trans (B3.mono R.out.size)).size))
          clear BS B3 hall
          obtain ⟨⟨pa, pl⟩, proto, area, cost, second, cost2, tag, va, vn, vc⟩ := rr
          simp only [rtE] at *
          go_wp2_with fail
          go_roundw
          case rel => exact ⟨k + 1, by go_num, by omega, Lib.hid (NB.out _)⟩
          case measure => simp [intOf]; omega
      · have HW := Lib.hid (HB2.out.trans (R.out.mono HB2.out.size))
        clear R
        go_wp2_with fail
        refine (LV.out _).mono ?_
        rintro e w9 ⟨rfl, B9⟩
        have FIN := Lib.hid (HW.out.trans (B9.mono HW.out.size))
        clear B9
        go_wp2_with fail
        go_ret
        exact ⟨rfl, FIN.out⟩

end Go.Proofs.YtiemmejpaahbpaaGreat
