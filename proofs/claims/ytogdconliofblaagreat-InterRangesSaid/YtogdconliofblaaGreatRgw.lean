/-
  InterRanges: the law walked.
-/
import Derived.Test.YtogdconliofblaaGreatRgp
import Derived.Test.YtogdconliofblaaGreatGet
import Derived.Test.YtogdconliofblaaGreatLvx
import Derived.Deep.RegionHeld3
namespace Go.Proofs.YtogdconliofblaaGreat
open Go.RowKit

set_option maxHeartbeats 8000000 in
set_option maxRecDepth 100000 in
theorem ranges_law (w : World) (C : Cfg) (lr : List Arg) (hlr : RngsAt w (.slice C.ra C.rn C.rc) lr) (okl : ∀ o ∈ lr, OkP o.pfx) (into : Int) (vr : Value) (rs : List RtH) (hr : RoutesAt w vr rs) (okr : ∀ y ∈ rs, OkP y.rt.pfx) :
    Calls Tryz.prog 6 #[.agg (cfgE C).toArray, .int .u32 into, vr] w (LivPost w) := by
  have CF := Lib.hid (fun W (hb : Below w.heap.size w W) => lfine_calls W C lr (hlr.below hb) okl vr rs (hr.below hb) okr)
  have SU1 := Lib.hid (fun (F : LFine lr rs) W (hb : Below w.heap.size w W) => summaries_calls W C lr (hlr.below hb) (fun o ho => ⟨okl o ho, pfxOk_rng (okl o ho) (by have := validP_len (F.2.2.1.1 o ho); omega)⟩) into vr rs (hr.below hb) (fun y hy => ⟨okr y hy, pfxOk_rng (okr y hy) (by have := validP_len (F.2.2.2 y hy); omega)⟩) F.2.1 F.1 (.slice none 0 0) [] (reachNil W) (fun x hx => by cases hx) (by simp))
  have TK := Lib.hid (fun (F : LFine lr rs) W (hb : Below w.heap.size w W) r okr => taker_calls W _ lr (hlr.below hb) F.2.2.1.1 r okr)
  have OT := Lib.hid (fun (F : LFine lr rs) W (hb : Below w.heap.size w W) p => other_calls W C lr (hlr.below hb) F.2.2.1.1 vr rs (hr.below hb) okr p)
  have LV := Lib.hid (fun W => lives_calls W)
  have OKR := Lib.hid okr
  obtain ⟨a2, c2, rfl, hl2, hc⟩ := hr.get
  have HC := Lib.hid hc
  have mixed : Tryz.prog.follows .mixedOrders = true := by kernel_rfl
  clear hlr hr okl okr hc
  have RN := Lib.hid (fun (F : LFine lr rs) L (h : SuIs C lr into rs [] L) p ho => ranges_none (p := p) F h ho)
  obtain ⟨router, ia, iN, ic, ra, rn, rc⟩ := C
  obtain ⟨WA, hWA⟩ : ∃ WA, w.alloc (.cells #[.int .u32 router, .slice ia iN ic, .slice ra rn rc] 26) = WA := ⟨_, rfl⟩
  have BA : Below w.heap.size w WA := by rw [← hWA]; exact (Below.refl _ _).alloc (Nat.le_refl _) _
  have bA : WA.heap[w.heap.size]? = some (.cells #[.int .u32 router, .slice ia iN ic, .slice ra rn rc] 26 (0, 0)) := by rw [← hWA]; exact alloc_new w _
  have F1 := Lib.hid (CF.out WA BA)
  simp only [cfgE] at F1 SU1 OT TK ⊢
  have y0 := blk_cell (i := 0) bA rfl
  have y1 := blk_cell (i := 1) bA rfl
  have y2 := blk_cell (i := 2) bA rfl
  have HWA := Lib.hid hWA
  have HBA := Lib.hid BA
  have HXA := Lib.hid bA
  clear hWA BA bA CF
  go_enter Tryz.func6, Tryz.ntmps6
  go_upto_region 1 with fail
  rw [HWA.out]
  go_wp2_with fail
  refine F1.out.mono ?_
  rintro e w1 ⟨b1, rfl, B1, K1⟩
  have HB1 := Lib.hid (HBA.out.trans (B1.mono HBA.out.size))
  have HX1 := Lib.hid ((B1.block _ (blk_lt HXA.out)).trans HXA.out)
  clear y0 y1 y2 F1 HWA HXA
  cases b1 with
  | false =>
    clear B1 K1 SU1 TK OT RN
    go_wp2_with fail
    refine (LV.out _).mono ?_
    rintro e w9 ⟨rfl, B9⟩
    have FIN := Lib.hid (HB1.out.trans (B9.mono HB1.out.size))
    clear B9
    go_wp2_with fail
    go_ret
    exact ⟨rfl, FIN.out⟩
  | true =>
    have FA := Lib.hid (K1 rfl)
    have SA1 := Lib.hid (SU1.out FA.out w1 HB1.out)
    have TA := Lib.hid (TK.out FA.out)
    have OA := Lib.hid (OT.out FA.out)
    have RA := Lib.hid (RN.out FA.out)
    clear B1 K1 SU1 TK OT RN
    have y0 := blk_cell (i := 0) HX1.out rfl
    have y1 := blk_cell (i := 1) HX1.out rfl
    have y2 := blk_cell (i := 2) HX1.out rfl
    go_wp2_with fail
    refine SA1.out.mono ?_
    rintro e w2 ⟨v2, L2, rfl, O2, I2, B2⟩
    have HL2 := Lib.hid O2
    have HN2 := Lib.hid (RA.out L2 I2)
    have HB2 := Lib.hid (HB1.out.trans (B2.mono HB1.out.size))
    have HX2 := Lib.hid ((B2.block _ (blk_lt HX1.out)).trans HX1.out)
    clear O2 I2 B2 HX1 SA1 RA y0 y1 y2
    go_wp2_with fail
    go_loopw [23] (fun iv wr => ∃ k : Nat, iv = .int .i64 k ∧ k ≤ rs.length ∧ Hid (Below w2.heap.size w2 wr)) (fun i _ => rs.length - (intOf i).toNat)
    case atStart => exact ⟨0, rfl, Nat.zero_le _, Lib.hid (Below.refl _ _)⟩
    case round =>
      obtain ⟨k, rfl, hk, GG⟩ := hrel
      by_cases c : k < rs.length
      · obtain ⟨b2, o2, rfl, hb0, hcc⟩ := HC.out (by omega)
        have BW := Lib.hid (HB2.out.trans (GG.out.mono HB2.out.size))
        have D8 : Hid (RtCells wr b2 (o2 + k * 9) (rthAt rs k).rt) := Lib.hid (by rw [rthAt_eq c]; exact (hcc k c).below BW.out hb0)
        obtain ⟨d0, d1, d2, d3, d4, d5, d6, d7, d8⟩ := D8.out
        have okk : OkP (rthAt rs k).rt.pfx := by rw [rthAt_eq c]; exact OKR.out _ (List.getElem_mem c)
        have br := (GG.out.block _ (blk_lt HX2.out)).trans HX2.out
        have GR := Lib.hid (fun n os => GG.out.trans ((Gr.of_grow (W := wr) n os).b.mono GG.out.size))
        have BG := Lib.hid (fun n os => BW.out.trans ((Gr.of_grow (W := wr) n os).b.mono BW.out.size))
        have TC := Lib.hid (fun n os => (TA.out (Go.Sort.grow (wr.drewN n) os) (BG.out n os) (rthAt rs k).rt okk).mono fun _ _ h => (⟨h.1, h.2.grow⟩ : _ ∧ ∃ q os', _ = Go.Sort.grow (World.drewN _ q) os'))
        have OC := Lib.hid (fun n os => (OA.out (Go.Sort.grow (wr.drewN n) os) (BG.out n os) (rthAt rs k).rt.pfx).mono fun _ _ h => (⟨h.1, h.2.grow⟩ : _ ∧ ∃ q os', _ = Go.Sort.grow (World.drewN _ q) os'))
        have KC := Lib.hid c
        have hbw : b2 < wr.heap.size := Nat.lt_of_lt_of_le hb0 BW.out.size
        have n0 : (0 : Int) ≤ (k : Int) := by omega
        have n1 : (k : Int) < (rs.length : Int) := by omega
        have n3 : ((k : Int)).toNat = k := by omega
        have y0 := blk_cell (i := 0) br rfl
        have y1 := blk_cell (i := 1) br rfl
        have y2 := blk_cell (i := 2) br rfl
        have y0 : ∀ n os, (Go.Sort.grow (wr.drewN n) os).cell? ⟨w.heap.size, 0, none⟩ = some (.int .u32 router) := cell_grown (World.block_lt_of_cell? _ _ y0) y0
        have y1 : ∀ n os, (Go.Sort.grow (wr.drewN n) os).cell? ⟨w.heap.size, 1, none⟩ = some (.slice ia iN ic) := cell_grown (World.block_lt_of_cell? _ _ y1) y1
        have y2 : ∀ n os, (Go.Sort.grow (wr.drewN n) os).cell? ⟨w.heap.size, 2, none⟩ = some (.slice ra rn rc) := cell_grown (World.block_lt_of_cell? _ _ y2) y2
        have HN3 := Lib.hid (HN2.out (rthAt rs k).rt.pfx)
        clear hcc c br okk
        generalize htk : tkK lr (rthAt rs k).rt lr.length = o at *
        clear htk
        generalize hob : othB lr rs (rthAt rs k).rt.pfx = ob at *
        clear hob
        generalize rthAt rs k = y at *
        obtain ⟨⟨⟨xa, xl⟩, xproto, xarea, xcost, xsecond, xcost2, xtag, xha, xhn, xhc⟩, hops⟩ := y
        simp only [rtE] at d0 d1 d2 d3 d4 d5 d6 d7 d8 TC OC HN3
        have r0 : ∀ n os, (Go.Sort.grow (wr.drewN n) os).cell? ⟨b2, o2 + k * 9, none⟩ = some (.int .u32 xa) := cell_grown (World.block_lt_of_cell? _ _ d0) d0
        have r1 : ∀ n os, (Go.Sort.grow (wr.drewN n) os).cell? ⟨b2, o2 + k * 9 + 1, none⟩ = some (.int .i64 xl) := cell_grown (World.block_lt_of_cell? _ _ d1) d1
        have r2 : ∀ n os, (Go.Sort.grow (wr.drewN n) os).cell? ⟨b2, o2 + k * 9 + 2, none⟩ = some (.int .i64 xproto) := cell_grown (World.block_lt_of_cell? _ _ d2) d2
        have r3 : ∀ n os, (Go.Sort.grow (wr.drewN n) os).cell? ⟨b2, o2 + k * 9 + 3, none⟩ = some (.int .u32 xarea) := cell_grown (World.block_lt_of_cell? _ _ d3) d3
        have r4 : ∀ n os, (Go.Sort.grow (wr.drewN n) os).cell? ⟨b2, o2 + k * 9 + 4, none⟩ = some (.int .i64 xcost) := cell_grown (World.block_lt_of_cell? _ _ d4) d4
        have r5 : ∀ n os, (Go.Sort.grow (wr.drewN n) os).cell? ⟨b2, o2 + k * 9 + 5, none⟩ = some (.bool xsecond) := cell_grown (World.block_lt_of_cell? _ _ d5) d5
        have r6 : ∀ n os, (Go.Sort.grow (wr.drewN n) os).cell? ⟨b2, o2 + k * 9 + 6, none⟩ = some (.int .i64 xcost2) := cell_grown (World.block_lt_of_cell? _ _ d6) d6
        have r7 : ∀ n os, (Go.Sort.grow (wr.drewN n) os).cell? ⟨b2, o2 + k * 9 + 7, none⟩ = some (.int .i64 xtag) := cell_grown (World.block_lt_of_cell? _ _ d7) d7
        have r8 : ∀ n os, (Go.Sort.grow (wr.drewN n) os).cell? ⟨b2, o2 + k * 9 + 8, none⟩ = some (.slice xha xhn xhc) := cell_grown (World.block_lt_of_cell? _ _ d8) d8
        clear d0 d1 d2 d3 d4 d5 d6 d7 d8
        cases o with
        | none =>
          simp only [tkI] at TC
          go_wp2_with fail
          refine wp_region_quiet_grown (by assumption) (by kernel_rfl) ?_
          repeat (go_big_quiet_step ((go_at_call 20; with_reducible exact Calls.grown_of (TC.out _ _))))
          refine wpQuiet_nil ?_
          intro _ hw'
          obtain ⟨⟨nq, osq⟩, hw''⟩ := hw'
          subst hw''
          have GZ := Lib.hid (GR.out nq osq)
          clear r0 r1 r2 r3 r4 r5 r6 r7 r8 y0 y1 y2 TC OC D8
          go_wp2_with fail
          go_roundw
          case rel => exact ⟨k + 1, by go_num, KC.out, GZ⟩
          case measure => simp [intOf]; have := KC.out; omega
        | some j =>
          have jn : decide ((j : Int) < 0) = false := decide_eq_false (by omega)
          simp only [tkI] at TC
          cases ob with
          | true =>
            go_wp2_with fail
            refine wp_region_quiet_grown (by assumption) (by kernel_rfl) ?_
            repeat (go_big_quiet_step (first | (go_at_call 20; with_reducible exact Calls.grown_of (TC.out _ _)) | (go_at_call 21; with_reducible exact Calls.grown_of (OC.out _ _))))
            refine wpQuiet_nil ?_
            intro _ hw'
            obtain ⟨⟨nq, osq⟩, hw''⟩ := hw'
            subst hw''
            have GZ := Lib.hid (GR.out nq osq)
            clear r0 r1 r2 r3 r4 r5 r6 r7 r8 y0 y1 y2 TC OC D8
            go_wp2_with fail
            go_roundw
            case rel => exact ⟨k + 1, by go_num, KC.out, GZ⟩
            case measure => simp [intOf]; have := KC.out; omega
          | false =>
            have NOK := HN3.out rfl
            go_wp2_with fail
            refine wp_region_quiet_grown (by assumption) (by kernel_rfl) ?_
            repeat (go_big_quiet_step (first | (go_at_call 20; with_reducible exact Calls.grown_of (TC.out _ _)) | (go_at_call 21; with_reducible exact Calls.grown_of (OC.out _ _))))
            refine wpQuiet_nil ?_
            intro _ hw'
            obtain ⟨⟨nq, osq⟩, hw''⟩ := hw'
            subst hw''
            have GZ := Lib.hid (GR.out nq osq)
            clear r0 r1 r2 r3 r4 r5 r6 r7 r8 y0 y1 y2 TC OC
            have NK := Lib.hid NOK
            have B8 := (Gr.of_grow (W := wr) nq osq).b
            obtain ⟨d0, d1, -⟩ := D8.out.below B8 hbw
            have br := (B8.block _ (blk_lt ((GG.out.block _ (blk_lt HX2.out)).trans HX2.out))).trans ((GG.out.block _ (blk_lt HX2.out)).trans HX2.out)
            have y0 := blk_cell (i := 0) br rfl
            generalize Go.Sort.grow (wr.drewN nq) osq = W8 at *
            simp only at d0 d1
            obtain ⟨W9, hW9⟩ : ∃ W9, (W8.alloc (.cells #[.int .i64 3, .int .u32 xa, .int .i64 xl, .int .u32 router] 66)).drew = W9 := ⟨_, rfl⟩
            have B9 : Below W8.heap.size W8 W9 := by rw [← hW9]; exact ((Below.refl _ _).alloc (Nat.le_refl _) _).drew
            have b9 : W9.heap[W8.heap.size]? = some (.cells #[.int .i64 3, .int .u32 xa, .int .i64 xl, .int .u32 router] 66 (0, 0)) := by rw [← hW9]; exact alloc_new W8 _
            have B29 := Lib.hid (GZ.out.trans (B9.mono GZ.out.size))
            have GC := Lib.hid (get_calls W9 v2 L2 (HL2.out.below B29.out) 3 xa xl router)
            have HW9 := Lib.hid hW9
            have q0 := blk_cell (i := 0) b9 rfl
            have q1 := blk_cell (i := 1) b9 rfl
            have q2 := blk_cell (i := 2) b9 rfl
            have q3 := blk_cell (i := 3) b9 rfl
            clear br B8 D8 BW BG GR hW9 B9 b9
            go_upto_region 8 with fail
            go_region_held3 (fun W' => W'.cell? ⟨b2, o2 + k * 9, none⟩ = some (.int .u32 xa) ∧ W'.cell? ⟨b2, o2 + k * 9 + 1, none⟩ = some (.int .i64 xl) ∧ W'.cell? ⟨w.heap.size, 0, none⟩ = some (.int .u32 router)) (first | with_reducible exact ⟨d0, d1, y0⟩ | go_keep) (fail)
            rw [HW9.out]
            clear d0 d1 y0
            go_wp2_with fail
            refine GC.out.mono ?_
            rintro e w3 ⟨x, b, rfl, B3, GI⟩
            rcases GI with ⟨rfl, -⟩ | ⟨rfl, hk, hm⟩
            rotate_left
            · exact absurd hk (NK.out x hm)
            obtain ⟨xtyp, xid, xlen, xrouter, xseq, xage, xsum, xborder, xboundary, xla, xln, xlc, xaa, xan, xac, zcost, zsecond, zfwd, ztag⟩ := x
            simp only [lsaE]
            have BZ := Lib.hid (B29.out.trans (B3.mono B29.out.size))
            have BZ2 := Lib.hid (BZ.out.alloc BZ.out.size (.cells #[.int .i64 xtyp, .int .u32 xid, .int .i64 xlen, .int .u32 xrouter, .int .i64 xseq, .int .i64 xage, .int .i64 xsum, .bool xborder, .bool xboundary, .slice xla xln xlc, .slice xaa xan xac, .int .i64 zcost, .bool zsecond, .int .u32 zfwd, .int .i64 ztag] 47))
            clear B3 GC q0 q1 q2 q3
            go_wp2_with fail
            go_roundw
            case rel => exact ⟨k + 1, by go_num, KC.out, BZ2⟩
            case measure => simp [intOf]; have := KC.out; omega
      · have HGG := Lib.hid (HB2.out.trans (GG.out.mono HB2.out.size))
        clear GG
        go_wp2_with fail
        refine (LV.out _).mono ?_
        rintro e w9 ⟨rfl, B9⟩
        have FIN := Lib.hid (HGG.out.trans (B9.mono HGG.out.size))
        clear B9
        go_wp2_with fail
        go_ret
        exact ⟨rfl, FIN.out⟩

end Go.Proofs.YtogdconliofblaaGreat
