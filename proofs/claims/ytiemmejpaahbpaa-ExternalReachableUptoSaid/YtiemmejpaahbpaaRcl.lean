/-
  ExternalReachable: the law walked.
-/
import Derived.Test.YtiemmejpaahbpaaFin
import Derived.Test.YtiemmejpaahbpaaCkr
import Derived.Test.YtiemmejpaahbpaaLiv
import Derived.IntWalk
namespace Go.Proofs.Ytiemmejpaahbpaa
open Go.RowKit

theorem RoutesAt.hn {w : World} {v : Value} {l : List RtH} (h : RoutesAt w v l) {y : RtH} (hy : y ∈ l) : y.rt.hn = y.hops.length := by
  obtain ⟨a, cap, e, _⟩ := h.hops y hy
  unfold Rt.hv at e
  have := (Value.slice.inj e).2.1
  simpa using this

/-- does advertisement x offer the route to p? -/
def mB (router : Int) (p : Ls.Pfx) (x : Lsa) : Bool := decide (x.typ = 5) && !decide (x.router = router) && decide (x.id = p.addr) && decide (x.len = p.len)
def mAny (router : Int) (p : Ls.Pfx) (db : List LsaD) (k : Nat) : Bool := (List.range k).any fun i => mB router p (dAt db i).x
theorem mAny_succ (router : Int) (p : Ls.Pfx) (db : List LsaD) (k : Nat) : mAny router p db (k + 1) = (mAny router p db k || mB router p (dAt db k).x) := by simp [mAny, List.range_succ]

structure RcIn (w2 : World) (router : Int) (p : Ls.Pfx) (db : List LsaD) (m : Nat) (ff : Bool) (wr : World) : Prop where
  hm : m ≤ db.length
  eq : ff = mAny router p db m
  bel : Below w2.heap.size w2 wr

set_option maxHeartbeats 16000000 in
set_option maxRecDepth 100000 in
theorem reachable_law (w : World) (vd : Value) (db : List LsaD) (router : Int) (vr : Value) (reach : List Rch) (vi : Value) (inner : List RtH) (hd : DbAt w vd db) (hr : ReachAt w vr reach) (hi : RoutesAt w vi inner) (ok : ∀ y ∈ inner, OkP y.rt.pfx)
    (hb : hopSum reach + (inner.map fun y => y.hops.length).sum ≤ 1048576) : Calls Try.prog 4 #[vd, .int .u32 router, vr, vi] w (LivPost w) := by
  have CF := Lib.hid (fine_calls w vd db vr reach vi inner hd hr hi ok)
  have CR := Lib.hid (fun (F : FineArgs db reach inner) W (hb' : Below w.heap.size w W) => routes_calls W (db.map LsaD.x) vd router reach vr inner vi 1048576 (hd.below hb').1 (hr.below hb') (hi.below hb') (RBd.of_fine F hd.2 ok hb))
  have LV := Lib.hid (fun W => lives_calls W)
  obtain ⟨a1, c1, e1, hl1, hcd⟩ := hd.1.get
  simp only [List.length_map] at e1 hl1 hcd
  obtain ⟨a2, c2, e2, hl2, -⟩ := hr.get
  obtain ⟨a3, c3, e3, hl3, -⟩ := hi.get
  subst e1 e2 e3
  have HCD := Lib.hid hcd
  have HD2 := Lib.hid hd.2
  have mixed : Try.prog.follows .mixedOrders = true := by kernel_rfl
  clear hd hr hi hcd ok hb
  go_enter Try.func4, Try.ntmps4
  go_wp2_with fail
  refine CF.out.mono ?_
  rintro e w1 ⟨b1, rfl, B1, K1⟩
  have HB1 := Lib.hid B1
  cases b1 with
  | false =>
    clear CF CR B1 K1
    go_wp2_with fail
    refine (LV.out _).mono ?_
    rintro e w9 ⟨rfl, B9⟩
    have FIN := Lib.hid (HB1.out.trans (B9.mono HB1.out.size))
    clear B9
    go_wp2_with fail
    go_ret
    exact ⟨rfl, FIN.out⟩
  | true =>
    have FA := Lib.hid (K1 rfl)
    have CR2 := Lib.hid (CR.out FA.out w1 B1)
    clear CF CR B1 K1
    go_wp2_with fail
    refine CR2.out.mono ?_
    rintro e w2 ⟨v, l, rfl, RA, B2, PW, MEM⟩
    have HB2 := Lib.hid (HB1.out.trans (B2.mono HB1.out.size))
    have HN := Lib.hid (fun y (hy : y ∈ l) => RA.hn hy)
    obtain ⟨ar, cr, er, hlr, hcr⟩ := RA.get
    subst er
    have HCR := Lib.hid hcr
    have FROM := Lib.hid (fun y (hy : y ∈ l) => tabOf_from router reach inner (db.map LsaD.x) _ _ ((MEM y.pure).1 (List.mem_map.2 ⟨y, hy, rfl⟩)))
    have SRT : Hid (∀ j, j + 1 < l.length → Ls.pfxLt (rthAt l j).rt.pfx (rthAt l (j + 1)).rt.pfx = true) := Lib.hid (fun j hj => by
      rw [rthAt_eq hj, rthAt_eq (by omega)]
      have := List.pairwise_iff_getElem.1 PW j (j + 1) (by simp; omega) (by simpa using hj) (by omega)
      simp only [List.getElem_map] at this
      exact this)
    clear CR2 RA B2 PW MEM hcr
    go_wp2_with fail
    go_loopw [27] (fun i wr => ∃ k : Nat, i = .int .i64 k ∧ k ≤ l.length ∧ Hid (Below w2.heap.size w2 wr)) (fun i _ => l.length - (intOf i).toNat)
    case atStart => exact ⟨0, rfl, Nat.zero_le _, Lib.hid (Below.refl _ _)⟩
    case round =>
      obtain ⟨k, rfl, hk, R⟩ := hrel
      by_cases c : k < l.length
      · obtain ⟨rb, roff, rfl, hrb, hcc⟩ := HCR.out (by omega)
        have D0 : Hid (RtCells w2 rb (roff + k * 9) (rthAt l k).rt) := Lib.hid (by rw [rthAt_eq c]; exact hcc k c)
        have PV : Hid (0 < k → RtCells w2 rb (roff + (k - 1) * 9) (rthAt l (k - 1)).rt) := Lib.hid (fun h0 => by rw [rthAt_eq (by omega)]; exact hcc (k - 1) (by omega))
        have hmem : rthAt l k ∈ l := by rw [rthAt_eq c]; exact List.getElem_mem c
        obtain ⟨pr, hne, ox, hox, hx5, hxr, hxp⟩ := FROM.out _ hmem
        have EX : Hid (mAny router (rthAt l k).rt.pfx db db.length = true) := Lib.hid (by
          obtain ⟨d, hd, rfl⟩ := List.mem_map.1 hox
          obtain ⟨i, hi, rfl⟩ := List.getElem_of_mem hd
          unfold mAny
          rw [List.any_eq_true]
          refine ⟨i, List.mem_range.2 hi, ?_⟩
          rw [dAt_eq hi]
          rw [lsaPfx_fit (FA.out.db.mem hd) (.inr hx5)] at hxp
          have : (rthAt l k).rt.pfx = ⟨db[i].x.id, db[i].x.len⟩ := hxp.symm
          unfold mB
          rw [this]
          simp [hx5, hxr])
        have hn0 : (rthAt l k).rt.hn ≠ 0 := by
          rw [HN.out _ hmem]
          intro e
          exact hne (List.length_eq_zero_iff.1 e)
        have hp5 : (rthAt l k).rt.proto = 5 := pr
        have SR : Hid (∀ j, k = j + 1 → Ls.pfxLt (rthAt l j).rt.pfx (rthAt l k).rt.pfx = true) := Lib.hid (fun j e => by subst e; exact SRT.out j c)
        have i0 : (0 : Int) ≤ (k : Int) := by omega
        have i1 : (k : Int) < (l.length : Int) := by omega
        have s3 : ((k : Int)).toNat = k := by omega
        clear hcc hmem pr hne hox hx5 hxr hxp
        have hrw : rb < wr.heap.size := Nat.lt_of_lt_of_le hrb R.out.size
        generalize rthAt l k = y at *
        obtain ⟨⟨⟨pa, pl⟩, proto, area, cost, second, cost2, tag, ha, hn, hcp⟩, hops⟩ := y
        simp only at hn0 hp5
        subst hp5
        have n0 : (hn == 0) = false := by simpa using hn0
        have n1 : ((hn : Int) == 0) = false := by simpa using hn0
        have KP : Hid (∀ (W' : World), Below wr.heap.size wr W' → Below w2.heap.size w2 W') := Lib.hid (fun W' g => R.out.trans (g.mono R.out.size))
        obtain ⟨d0, d1, d2, d3, d4, d5, d6, d7, d8⟩ := D0.out.below R.out hrb
        simp only at d0 d1 d2 d8
        clear d3 d4 d5 d6 d7 hn0
        have W7 : Hid (∃ W7, True) := Lib.hid ⟨wr, trivial⟩
        rcases Nat.eq_zero_or_pos k with h0 | h0
        · have dk : decide (0 < k) = false := by simp; omega
          clear PV SR h0
          go_wp2_with fail
          go_quiet (fail)
          generalize hW1 : wr.drewN _ = wo
          have HO : Hid (Below w2.heap.size w2 wo) := Lib.hid (by rw [← hW1]; exact KP.out _ ((Gr.refl wr).drewN _).b)
          clear hW1 d0 d1 d2 d8 dk
          have HBo : Hid (Below w.heap.size w wo) := Lib.hid (HB2.out.trans (HO.out.mono HB2.out.size))
          clear KP hrw W7
          go_wp2_with fail
          go_loopw [11, 66] (fun f i wi => ∃ (m : Nat) (ff : Bool), f = .bool ff ∧ i = .int .i64 m ∧ RcIn wo router ⟨pa, pl⟩ db m ff wi) (fun _ i _ => db.length - (intOf i).toNat)
          case atStart => exact ⟨0, false, rfl, rfl, ⟨Nat.zero_le _, rfl, Below.refl _ _⟩⟩
          case round =>
            obtain ⟨m, ff, rfl, rfl, RI⟩ := hrel
            have hm := RI.hm
            by_cases c2 : m < db.length
            · obtain ⟨dbb, doff, rfl, hdb, hdc⟩ := HCD.out (by omega)
              have hdc := hdc m c2
              simp only [List.getElem_map] at hdc
              rw [← dAt_eq c2] at hdc
              obtain ⟨⟨h0, h1, h2, h3, h4⟩, ⟨h5, h6, -⟩, -⟩ := hdc.below (HBo.out.trans (RI.bel.mono HBo.out.size)) hdb
              obtain ⟨d0, d1, -⟩ := D0.out.below (HO.out.trans (RI.bel.mono HO.out.size)) hrb
              simp only at d0 d1
              have NX := Lib.hid (fun (ff' : Bool) (e : ff' = (ff || mB router ⟨pa, pl⟩ (dAt db m).x)) (W' : World) (g : Below wr.heap.size wr W') => (⟨c2, by rw [mAny_succ, ← RI.eq]; exact e, RI.bel.trans (g.mono RI.bel.size)⟩ : RcIn wo router ⟨pa, pl⟩ db (m + 1) ff' W'))
              have m0 : (0 : Int) ≤ (m : Int) := by omega
              have m1 : (m : Int) < (db.length : Int) := by omega
              clear RI hdc
              generalize dAt db m = d at *
              obtain ⟨⟨typ, id, len, dr, seq, age, sum, border, boundary, la, ln, lc, aa, an, ac, dcost, dsecond, fwd, dtag⟩, lk, att⟩ := d
              simp only at h0 h1 h2 h3 h4 h5 h6 NX
              go_wp2_with fail
              generalize hW1 : wr.alloc _ = W1
              have G1 : Gr wr W1 := by rw [← hW1]; exact (Gr.refl _).alloc _
              have bx : W1.heap[wr.heap.size]? = some (.cells #[.int .i64 typ, .int .u32 id, .int .i64 len, .int .u32 dr, .int .i64 seq, .int .i64 age, .int .i64 sum] 39 (0, 0)) := by rw [← hW1]; exact alloc_new _ _
              have d0 := bcell G1.b d0
              have d1 := bcell G1.b d1
              have NX := Lib.hid (fun (ff' : Bool) e (W' : World) (g : Below W1.heap.size W1 W') => NX.out ff' e W' (G1.b.trans (g.mono G1.b.size)))
              clear hW1 h0 h1 h2 h3 h4 h5 h6 G1
              have h0 := blk_cell (i := 0) bx rfl
              have h1 := blk_cell (i := 1) bx rfl
              have h2 := blk_cell (i := 2) bx rfl
              have h3 := blk_cell (i := 3) bx rfl
              clear bx
              cases ff with
              | true =>
                have NXv := Lib.hid (fun n => NX.out true (by simp [mB]) (W1.drewN n) ((Gr.refl _).drewN n).b)
                clear NX
                go_quiet (fail)
                clear d0 d1 h0 h1 h2 h3
                go_wp2_with fail
                go_roundw
                case rel => exact ⟨m + 1, true, rfl, by go_num, NXv.out _⟩
                case measure => simp [intOf]; omega
              | false =>
                by_cases t5 : typ = 5
                · have z5 : (typ == 5) = true := by simpa using t5
                  by_cases tr : dr = router
                  · have zr : (dr != router) = false := by simpa using tr
                    have zr' : (dr == router) = true := by simpa using tr
                    have NXv := Lib.hid (fun n => NX.out false (by simp [mB, tr]) (W1.drewN n) ((Gr.refl _).drewN n).b)
                    clear NX
                    go_quiet (fail)
                    clear d0 d1 h0 h1 h2 h3
                    go_wp2_with fail
                    go_roundw
                    case rel => exact ⟨m + 1, false, rfl, by go_num, NXv.out _⟩
                    case measure => simp [intOf]; omega
                  · have zr : (dr != router) = true := by simpa using tr
                    have zr' : (dr == router) = false := by simpa using tr
                    by_cases ti : id = pa
                    · have zi : (id == pa) = true := by simpa using ti
                      by_cases tl : len = pl
                      · have zl : (len == pl) = true := by simpa using tl
                        have NXv := Lib.hid (fun n => NX.out true (by simp [mB, t5, tr, ti, tl]) (W1.drewN n) ((Gr.refl _).drewN n).b)
                        clear NX
                        go_quiet (fail)
                        clear d0 d1 h0 h1 h2 h3
                        go_wp2_with fail
                        go_roundw
                        case rel => exact ⟨m + 1, true, rfl, by go_num, NXv.out _⟩
                        case measure => simp [intOf]; omega
                      · have zl : (len == pl) = false := by simpa using tl
                        have NXv := Lib.hid (fun n => NX.out false (by simp [mB, tl]) (W1.drewN n) ((Gr.refl _).drewN n).b)
                        clear NX
                        go_quiet (fail)
                        clear d0 d1 h0 h1 h2 h3
                        go_wp2_with fail
                        go_roundw
                        case rel => exact ⟨m + 1, false, rfl, by go_num, NXv.out _⟩
                        case measure => simp [intOf]; omega
                    · have zi : (id == pa) = false := by simpa using ti
                      have NXv := Lib.hid (fun n => NX.out false (by simp [mB, ti]) (W1.drewN n) ((Gr.refl _).drewN n).b)
                      clear NX
                      go_quiet (fail)
                      clear d0 d1 h0 h1 h2 h3
                      go_wp2_with fail
                      go_roundw
                      case rel => exact ⟨m + 1, false, rfl, by go_num, NXv.out _⟩
                      case measure => simp [intOf]; omega
                · have z5 : (typ == 5) = false := by simpa using t5
                  have NXv := Lib.hid (fun n => NX.out false (by simp [mB, t5]) (W1.drewN n) ((Gr.refl _).drewN n).b)
                  clear NX
                  go_quiet (fail)
                  clear d0 d1 h0 h1 h2 h3
                  go_wp2_with fail
                  go_roundw
                  case rel => exact ⟨m + 1, false, rfl, by go_num, NXv.out _⟩
                  case measure => simp [intOf]; omega
            · have ET : ff = true := by rw [RI.eq, show m = db.length from by omega]; exact EX.out
              subst ET
              have FINO : Hid (Below w2.heap.size w2 wr) := Lib.hid (HO.out.trans (RI.bel.mono HO.out.size))
              clear RI
              go_wp2_with fail
              go_roundw
              case rel => exact ⟨k + 1, by go_num, by omega, FINO⟩
              case measure => simp [intOf]; omega
        · obtain ⟨j, rfl⟩ : ∃ j, k = j + 1 := ⟨k - 1, by omega⟩
          obtain ⟨q0, q1, -⟩ := (PV.out h0).below R.out hrb
          rw [Nat.add_sub_cancel] at q0 q1
          have SR := SR.out j rfl
          have LC := Lib.hid (fun W => (less_calls (rthAt l j).rt.pfx ⟨pa, pl⟩ W).mono fun _ _ h => (⟨h.1, h.2.grow⟩ : _ ∧ ∃ q os, _ = Go.Sort.grow (World.drewN W q) os))
          simp only at SR
          rw [SR] at LC
          generalize rthAt l j = z at *
          obtain ⟨⟨⟨za, zl⟩, zproto, zarea, zcost, zsecond, zcost2, ztag, zha, zhn, zhcp⟩, zhops⟩ := z
          simp only at q0 q1 LC
          have j0 : (0 : Int) ≤ (j : Int) := by omega
          have j1 : (j : Int) < (l.length : Int) := by omega
          have dk : decide (0 < j + 1) = true := by simp
          have s1 : IntKind.i64.wrap (((j + 1 : Nat) : Int) - 1) = (j : Int) := by rw [IntWalk.i64_in _ (by omega)]; omega
          have s2 : ((j : Int)).toNat = j := by omega
          have x0 : ∀ n os, (Go.Sort.grow (wr.drewN n) os).cell? ⟨rb, roff + (j + 1) * 9, none⟩ = some (.int .u32 pa) := cell_grown (World.block_lt_of_cell? _ _ d0) d0
          have x1 : ∀ n os, (Go.Sort.grow (wr.drewN n) os).cell? ⟨rb, roff + (j + 1) * 9 + 1, none⟩ = some (.int .i64 pl) := cell_grown (World.block_lt_of_cell? _ _ d1) d1
          have x2 : ∀ n os, (Go.Sort.grow (wr.drewN n) os).cell? ⟨rb, roff + (j + 1) * 9 + 2, none⟩ = some (.int .i64 5) := cell_grown (World.block_lt_of_cell? _ _ d2) d2
          have x8 : ∀ n os, (Go.Sort.grow (wr.drewN n) os).cell? ⟨rb, roff + (j + 1) * 9 + 8, none⟩ = some (.slice ha hn hcp) := cell_grown (World.block_lt_of_cell? _ _ d8) d8
          have y0 : ∀ n os, (Go.Sort.grow (wr.drewN n) os).cell? ⟨rb, roff + j * 9, none⟩ = some (.int .u32 za) := cell_grown (World.block_lt_of_cell? _ _ q0) q0
          have y1 : ∀ n os, (Go.Sort.grow (wr.drewN n) os).cell? ⟨rb, roff + j * 9 + 1, none⟩ = some (.int .i64 zl) := cell_grown (World.block_lt_of_cell? _ _ q1) q1
          clear PV d0 d1 d2 d8 q0 q1
          go_wp2_with fail
          refine wp_region_quiet_grown (by assumption) (by kernel_rfl) ?_
          repeat (go_big_quiet_step ((go_at_call 11; with_reducible exact Calls.grown_of (LC.out _))))
          refine wpQuiet_nil ?_
          intro _ hw'
          obtain ⟨⟨nq, osq⟩, hw''⟩ := hw'
          subst hw''
          generalize hW1 : Go.Sort.grow (wr.drewN nq) osq = wo
          have HO : Hid (Below w2.heap.size w2 wo) := Lib.hid (by rw [← hW1]; exact KP.out _ (Gr.of_grow nq osq).b)
          clear hW1 dk s1 s2 x0 x1 x2 x8 y0 y1 SR
          have HBo : Hid (Below w.heap.size w wo) := Lib.hid (HB2.out.trans (HO.out.mono HB2.out.size))
          clear KP hrw W7
          go_wp2_with fail
          go_loopw [11, 66] (fun f i wi => ∃ (m : Nat) (ff : Bool), f = .bool ff ∧ i = .int .i64 m ∧ RcIn wo router ⟨pa, pl⟩ db m ff wi) (fun _ i _ => db.length - (intOf i).toNat)
          case atStart => exact ⟨0, false, rfl, rfl, ⟨Nat.zero_le _, rfl, Below.refl _ _⟩⟩
          case round =>
            obtain ⟨m, ff, rfl, rfl, RI⟩ := hrel
            have hm := RI.hm
            by_cases c2 : m < db.length
            · obtain ⟨dbb, doff, rfl, hdb, hdc⟩ := HCD.out (by omega)
              have hdc := hdc m c2
              simp only [List.getElem_map] at hdc
              rw [← dAt_eq c2] at hdc
              obtain ⟨⟨h0, h1, h2, h3, h4⟩, ⟨h5, h6, -⟩, -⟩ := hdc.below (HBo.out.trans (RI.bel.mono HBo.out.size)) hdb
              obtain ⟨d0, d1, -⟩ := D0.out.below (HO.out.trans (RI.bel.mono HO.out.size)) hrb
              simp only at d0 d1
              have NX := Lib.hid (fun (ff' : Bool) (e : ff' = (ff || mB router ⟨pa, pl⟩ (dAt db m).x)) (W' : World) (g : Below wr.heap.size wr W') => (⟨c2, by rw [mAny_succ, ← RI.eq]; exact e, RI.bel.trans (g.mono RI.bel.size)⟩ : RcIn wo router ⟨pa, pl⟩ db (m + 1) ff' W'))
              have m0 : (0 : Int) ≤ (m : Int) := by omega
              have m1 : (m : Int) < (db.length : Int) := by omega
              clear RI hdc
              generalize dAt db m = d at *
              obtain ⟨⟨typ, id, len, dr, seq, age, sum, border, boundary, la, ln, lc, aa, an, ac, dcost, dsecond, fwd, dtag⟩, lk, att⟩ := d
              simp only at h0 h1 h2 h3 h4 h5 h6 NX
              go_wp2_with fail
              generalize hW1 : wr.alloc _ = W1
              have G1 : Gr wr W1 := by rw [← hW1]; exact (Gr.refl _).alloc _
              have bx : W1.heap[wr.heap.size]? = some (.cells #[.int .i64 typ, .int .u32 id, .int .i64 len, .int .u32 dr, .int .i64 seq, .int .i64 age, .int .i64 sum] 39 (0, 0)) := by rw [← hW1]; exact alloc_new _ _
              have d0 := bcell G1.b d0
              have d1 := bcell G1.b d1
              have NX := Lib.hid (fun (ff' : Bool) e (W' : World) (g : Below W1.heap.size W1 W') => NX.out ff' e W' (G1.b.trans (g.mono G1.b.size)))
              clear hW1 h0 h1 h2 h3 h4 h5 h6 G1
              have h0 := blk_cell (i := 0) bx rfl
              have h1 := blk_cell (i := 1) bx rfl
              have h2 := blk_cell (i := 2) bx rfl
              have h3 := blk_cell (i := 3) bx rfl
              clear bx
              cases ff with
              | true =>
                have NXv := Lib.hid (fun n => NX.out true (by simp [mB]) (W1.drewN n) ((Gr.refl _).drewN n).b)
                clear NX
                go_quiet (fail)
                clear d0 d1 h0 h1 h2 h3
                go_wp2_with fail
                go_roundw
                case rel => exact ⟨m + 1, true, rfl, by go_num, NXv.out _⟩
                case measure => simp [intOf]; omega
              | false =>
                by_cases t5 : typ = 5
                · have z5 : (typ == 5) = true := by simpa using t5
                  by_cases tr : dr = router
                  · have zr : (dr != router) = false := by simpa using tr
                    have zr' : (dr == router) = true := by simpa using tr
                    have NXv := Lib.hid (fun n => NX.out false (by simp [mB, tr]) (W1.drewN n) ((Gr.refl _).drewN n).b)
                    clear NX
                    go_quiet (fail)
                    clear d0 d1 h0 h1 h2 h3
                    go_wp2_with fail
                    go_roundw
                    case rel => exact ⟨m + 1, false, rfl, by go_num, NXv.out _⟩
                    case measure => simp [intOf]; omega
                  · have zr : (dr != router) = true := by simpa using tr
                    have zr' : (dr == router) = false := by simpa using tr
                    by_cases ti : id = pa
                    · have zi : (id == pa) = true := by simpa using ti
                      by_cases tl : len = pl
                      · have zl : (len == pl) = true := by simpa using tl
                        have NXv := Lib.hid (fun n => NX.out true (by simp [mB, t5, tr, ti, tl]) (W1.drewN n) ((Gr.refl _).drewN n).b)
                        clear NX
                        go_quiet (fail)
                        clear d0 d1 h0 h1 h2 h3
                        go_wp2_with fail
                        go_roundw
                        case rel => exact ⟨m + 1, true, rfl, by go_num, NXv.out _⟩
                        case measure => simp [intOf]; omega
                      · have zl : (len == pl) = false := by simpa using tl
                        have NXv := Lib.hid (fun n => NX.out false (by simp [mB, tl]) (W1.drewN n) ((Gr.refl _).drewN n).b)
                        clear NX
                        go_quiet (fail)
                        clear d0 d1 h0 h1 h2 h3
                        go_wp2_with fail
                        go_roundw
                        case rel => exact ⟨m + 1, false, rfl, by go_num, NXv.out _⟩
                        case measure => simp [intOf]; omega
                    · have zi : (id == pa) = false := by simpa using ti
                      have NXv := Lib.hid (fun n => NX.out false (by simp [mB, ti]) (W1.drewN n) ((Gr.refl _).drewN n).b)
                      clear NX
                      go_quiet (fail)
                      clear d0 d1 h0 h1 h2 h3
                      go_wp2_with fail
                      go_roundw
                      case rel => exact ⟨m + 1, false, rfl, by go_num, NXv.out _⟩
                      case measure => simp [intOf]; omega
                · have z5 : (typ == 5) = false := by simpa using t5
                  have NXv := Lib.hid (fun n => NX.out false (by simp [mB, t5]) (W1.drewN n) ((Gr.refl _).drewN n).b)
                  clear NX
                  go_quiet (fail)
                  clear d0 d1 h0 h1 h2 h3
                  go_wp2_with fail
                  go_roundw
                  case rel => exact ⟨m + 1, false, rfl, by go_num, NXv.out _⟩
                  case measure => simp [intOf]; omega
            · have ET : ff = true := by rw [RI.eq, show m = db.length from by omega]; exact EX.out
              subst ET
              have FINO : Hid (Below w2.heap.size w2 wr) := Lib.hid (HO.out.trans (RI.bel.mono HO.out.size))
              clear RI
              go_wp2_with fail
              go_roundw
              case rel => exact ⟨j + 1 + 1, by go_num, by omega, FINO⟩
              case measure => simp [intOf]; omega
      · have HW := Lib.hid (HB2.out.trans (R.out.mono HB2.out.size))
        clear R
        go_wp2_with fail
        refine (LV.out _).mono ?_
        rintro e w9 ⟨rfl, B9⟩
        have FIN := Lib.hid (HW.out.trans (B9.mono HW.out.size))
        clear B9
        go_wp2_with fail
        go_ret
        exact ⟨rfl, FIN.out⟩

end Go.Proofs.Ytiemmejpaahbpaa
