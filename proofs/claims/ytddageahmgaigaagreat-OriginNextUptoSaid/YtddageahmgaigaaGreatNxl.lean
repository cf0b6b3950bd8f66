/-
  routinglaw30.OriginNext.
-/
import Derived.Test.YtddageahmgaigaaGreatNxp
import Derived.Test.YtddageahmgaigaaGreatLiv
import Derived.Test.YtddageahmgaigaaGreatLcs
import Derived.Deep.DeepCutAuto
namespace Go.Proofs.YtddageahmgaigaaGreat
open Go.RowKit

def NxB (w : World) (c : Array Value) (wx : World) : Prop := wx.heap[w.heap.size]? = some (.cells c 42 (0, 0)) ∧ Below w.heap.size w wx

set_option maxHeartbeats 16000000 in
set_option maxRecDepth 100000 in
theorem nxlaw (w : World) (v : Value) (db : List LsaD) (hdb : DbAt w v db) (hl : ∀ d ∈ db, d.lk.length ≤ 1048576 ∧ d.att.length ≤ 1048576) (x : Lsa) (lk : List Lnk) (att : List Int) (hx : DIn w ⟨x, lk, att⟩) (nl : lk.length ≤ 1048576) (na : att.length ≤ 1048576) :
    Calls Tryz.prog 4 #[v, .agg (lsaE x).toArray] w fun e w' => e = .returned (.bool true) ∧ Below w.heap.size w w' := by
  have LV := Lib.hid lives_calls
  have FL := Lib.hid (fun W (hb : Below w.heap.size w W) => flush_calls x lk att W ⟨hx.lk.below hb, hx.att.below hb, nl, na⟩)
  have RF := Lib.hid (rflush_calls x)
  have SM : Hid (∀ W p1 q1 p2 q2, Below w.heap.size w W → LnksAt W (.slice p1 x.ln q1) lk → WordsAt W (.slice p2 x.an q2) att → Calls Tryz.prog 13 #[.agg (lsaE (atL { x with age := 3600 } p1 q1 p2 q2)).toArray, .agg (lsaE { x with age := 3600 }).toArray] W (EqPost W true)) := Lib.hid (fun W p1 q1 p2 q2 hb h1 h2 => by
    have hc := rsame_calls (atL { x with age := 3600 } p1 q1 p2 q2) { x with age := 3600 } lk lk att att W h1 (hx.lk.below hb) h2 (hx.att.below hb)
    rw [decide_eq_true (show SameH (atL { x with age := 3600 } p1 q1 p2 q2) { x with age := 3600 } ∧ SameB (atL { x with age := 3600 } p1 q1 p2 q2) { x with age := 3600 } lk lk att att from ⟨⟨rfl, rfl, rfl, rfl, rfl, rfl, rfl⟩, rfl, rfl, rfl, rfl, rfl, rfl, rfl, rfl, rfl⟩)] at hc
    exact hc)
  have CK := Lib.hid (fun W (hb : Below w.heap.size w W) => dbcheck_calls W v db (hdb.below hb))
  have BD := Lib.hid (fun W v' (h : LsasAt W v' [x]) => bodies_calls W v' [x] h)
  obtain ⟨fd, hfd⟩ := fd_ex db x
  obtain ⟨Y, ok, c0, lk', att', hres⟩ := nx_res fd x lk att
  have NP := Lib.hid (fun (D : DbOk db) W (hb : Below w.heap.size w W) => (next_calls W v db (hdb.1.below hb) (fun d hd => ⟨((hdb.2 d hd).below hb).lk, ((hdb.2 d hd).below hb).att, (hl d hd).1, (hl d hd).2⟩) x lk att (hx.below hb) nl na D.un (fun d hd => (D.at hd).seq) fd hfd).mono (hres W))
  have NR := Lib.hid (fun (D : DbOk db) W (hb : Below w.heap.size w W) => (rnext_calls W v db (hdb.1.below hb) (fun d hd => ⟨((hdb.2 d hd).below hb).lk, ((hdb.2 d hd).below hb).att, (hl d hd).1, (hl d hd).2⟩) x lk att (hx.below hb) nl na D.un (fun d hd => (D.at hd).seq) fd hfd).mono (hres W))
  have SY : Hid (∀ W la lc aa ac la' lc' aa' ac', LnksAt W (.slice la Y.ln lc) lk' → WordsAt W (.slice aa Y.an ac) att' → LnksAt W (.slice la' Y.ln lc') lk' → WordsAt W (.slice aa' Y.an ac') att' → Calls Tryz.prog 13 #[.agg (lsaE (atL Y la lc aa ac)).toArray, .agg (lsaE (atL Y la' lc' aa' ac')).toArray] W (EqPost W true)) := Lib.hid (fun W la lc aa ac la' lc' aa' ac' h1 h2 h3 h4 => by
    have hc := rsame_calls (atL Y la lc aa ac) (atL Y la' lc' aa' ac') lk' lk' att' att' W h1 h3 h2 h4
    rw [same_true] at hc
    exact hc)
  have mixed : Tryz.prog.follows .mixedOrders = true := by kernel_rfl
  obtain ⟨a0, k0, rfl, -, -⟩ := hdb.1.get
  obtain ⟨nv, hnv⟩ : ∃ nv, (db.map LsaD.x).length = nv := ⟨_, rfl⟩
  rw [hnv] at CK NP NR ⊢
  clear hdb hl hx nl na hfd hres hnv
  obtain ⟨xtyp, xid, xlen, xrouter, xseq, xage, xsum, xborder, xboundary, xla, xln, xlc, xaa, xan, xac, xcost, xsecond, xfwd, xtag⟩ := x
  obtain ⟨ytyp, yid, ylen, yrouter, yseq, yage, ysum, yborder, yboundary, yla, yln, ylc, yaa, yan, yac, ycost, ysecond, yfwd, ytag⟩ := Y
  simp only [lsaE] at FL RF SM BD NP NR SY ⊢
  simp only [atL] at SM SY
  obtain ⟨W0, hW0⟩ : ∃ W0, w.alloc (.cells #[.int .i64 xtyp, .int .u32 xid, .int .i64 xlen, .int .u32 xrouter, .int .i64 xseq, .int .i64 xage, .int .i64 xsum, .bool xborder, .bool xboundary, .slice xla xln xlc, .slice xaa xan xac, .int .i64 xcost, .bool xsecond, .int .u32 xfwd, .int .i64 xtag] 42) = W0 := ⟨_, rfl⟩
  have B0 : Hid (Below w.heap.size w W0) := Lib.hid (by rw [← hW0]; exact (Below.refl _ _).alloc (Nat.le_refl _) _)
  have X0 : Hid (W0.heap[w.heap.size]? = some (.cells #[.int .i64 xtyp, .int .u32 xid, .int .i64 xlen, .int .u32 xrouter, .int .i64 xseq, .int .i64 xage, .int .i64 xsum, .bool xborder, .bool xboundary, .slice xla xln xlc, .slice xaa xan xac, .int .i64 xcost, .bool xsecond, .int .u32 xfwd, .int .i64 xtag] 42 (0, 0))) := Lib.hid (by rw [← hW0]; exact alloc_new _ _)
  have HW0 := Lib.hid hW0
  clear hW0
  obtain ⟨⟨⟨d0, d1, d2, d3, d4⟩, ⟨d5, d6, d7, d8, d9⟩, ⟨d10, d11, d12, d13, d14⟩⟩, -⟩ := blk15 X0.out
  go_enter Tryz.func4, Tryz.ntmps4
  go_upto_region 1 with fail
  rw [HW0.out]
  go_cut [16] (fun s16 wx => s16 = .bool false ∧ NxB w #[.int .i64 xtyp, .int .u32 xid, .int .i64 xlen, .int .u32 xrouter, .int .i64 xseq, .int .i64 xage, .int .i64 xsum, .bool xborder, .bool xboundary, .slice xla xln xlc, .slice xaa xan xac, .int .i64 xcost, .bool xsecond, .int .u32 xfwd, .int .i64 xtag] wx)
  case first => as_aux_lemma =>
    clear CK BD NP NR SY LV HW0
    go_region_held3 (fun W' => W'.cell? ⟨w.heap.size, 0, none⟩ = some (.int .i64 xtyp) ∧ W'.cell? ⟨w.heap.size, 1, none⟩ = some (.int .u32 xid) ∧ W'.cell? ⟨w.heap.size, 2, none⟩ = some (.int .i64 xlen) ∧ W'.cell? ⟨w.heap.size, 3, none⟩ = some (.int .u32 xrouter) ∧ W'.cell? ⟨w.heap.size, 4, none⟩ = some (.int .i64 xseq) ∧ W'.cell? ⟨w.heap.size, 5, none⟩ = some (.int .i64 xage) ∧ W'.cell? ⟨w.heap.size, 6, none⟩ = some (.int .i64 xsum) ∧ W'.cell? ⟨w.heap.size, 7, none⟩ = some (.bool xborder) ∧ W'.cell? ⟨w.heap.size, 8, none⟩ = some (.bool xboundary) ∧ W'.cell? ⟨w.heap.size, 9, none⟩ = some (.slice xla xln xlc) ∧ W'.cell? ⟨w.heap.size, 10, none⟩ = some (.slice xaa xan xac) ∧ W'.cell? ⟨w.heap.size, 11, none⟩ = some (.int .i64 xcost) ∧ W'.cell? ⟨w.heap.size, 12, none⟩ = some (.bool xsecond) ∧ W'.cell? ⟨w.heap.size, 13, none⟩ = some (.int .u32 xfwd) ∧ W'.cell? ⟨w.heap.size, 14, none⟩ = some (.int .i64 xtag)) (first | with_reducible exact ⟨d0, d1, d2, d3, d4, d5, d6, d7, d8, d9, d10, d11, d12, d13, d14⟩ | with_reducible exact ⟨s0, s1, s2, s3, s4, s5, s6, s7, s8, s9, s10, s11, s12, s13, s14⟩ | with_reducible exact ⟨t0, t1, t2, t3, t4, t5, t6, t7, t8, t9, t10, t11, t12, t13, t14⟩ | with_reducible exact ⟨h0, h1, h2, h3, h4, h5, h6, h7, h8, h9, h10, h11, h12, h13, h14⟩ | go_keep)
      (first
      | (go_at_call 16; (with_reducible refine (FL.out _ (by first | exact B0.out.drew | exact B0.out)).mono ?_); rintro e wa ⟨p1, q1, p2, q2, rfl, LA, WA1, BA, -, -⟩; simp only [lsaE, atL]; have RA : Hid (Below w.heap.size w wa) := Lib.hid (B0.out.drew.trans (BA.mono B0.out.size)); have XA := Lib.hid ((BA.block _ (blk_lt X0.out)).trans X0.out); have HLA := Lib.hid LA; have HWA1 := Lib.hid WA1; obtain ⟨⟨⟨s0, s1, s2, s3, s4⟩, ⟨s5, s6, s7, s8, s9⟩, ⟨s10, s11, s12, s13, s14⟩⟩, -⟩ := blk15 XA.out; clear LA WA1 BA)
      | (go_at_call 17; (with_reducible refine (RF.out _).mono ?_); rintro e wb ⟨rfl, BB⟩; simp only [lsaE]; have RB : Hid (Below w.heap.size w wb) := Lib.hid (RA.out.trans (BB.mono RA.out.size)); have XB := Lib.hid ((BB.block _ (blk_lt XA.out)).trans XA.out); have HLB := Lib.hid (HLA.out.below BB); have HWB1 := Lib.hid (HWA1.out.below BB); obtain ⟨⟨⟨t0, t1, t2, t3, t4⟩, ⟨t5, t6, t7, t8, t9⟩, ⟨t10, t11, t12, t13, t14⟩⟩, -⟩ := blk15 XB.out; clear BB)
      | (go_at_call 13; (with_reducible refine (SM.out _ p1 q1 p2 q2 RB.out HLB.out HWB1.out).mono ?_); rintro e wc ⟨rfl, GC⟩; have RC : Hid (Below w.heap.size w wc) := Lib.hid (RB.out.trans (GC.b.mono RB.out.size)); have XC := Lib.hid ((GC.b.block _ (blk_lt XB.out)).trans XB.out); obtain ⟨⟨⟨h0, h1, h2, h3, h4⟩, ⟨h5, h6, h7, h8, h9⟩, ⟨h10, h11, h12, h13, h14⟩⟩, -⟩ := blk15 XC.out; clear GC))
    all_goals
      have MID : Hid (NxB w #[.int .i64 xtyp, .int .u32 xid, .int .i64 xlen, .int .u32 xrouter, .int .i64 xseq, .int .i64 xage, .int .i64 xsum, .bool xborder, .bool xboundary, .slice xla xln xlc, .slice xaa xan xac, .int .i64 xcost, .bool xsecond, .int .u32 xfwd, .int .i64 xtag] wc) := Lib.hid ⟨XC.out, RC.out⟩
      clear XC RC d0 d1 d2 d3 d4 d5 d6 d7 d8 d9 d10 d11 d12 d13 d14 s0 s1 s2 s3 s4 s5 s6 s7 s8 s9 s10 s11 s12 s13 s14 t0 t1 t2 t3 t4 t5 t6 t7 t8 t9 t10 t11 t12 t13 t14 h0 h1 h2 h3 h4 h5 h6 h7 h8 h9 h10 h11 h12 h13 h14
      go_wp2_with fail
      go_meet
      exact ⟨rfl, MID.out⟩
  case rest =>
    clear FL RF SM HW0 B0 X0 d0 d1 d2 d3 d4 d5 d6 d7 d8 d9 d10 d11 d12 d13 d14
    obtain ⟨rfl, XH, BH⟩ := hcut
    have X1 := Lib.hid XH
    have B1 := Lib.hid BH
    clear XH BH
    have CK1 := Lib.hid (CK.out wc B1.out)
    go_upto_region 3 with fail
    go_wp2_with fail
    refine CK1.out.mono ?_
    rintro e w3 ⟨c, rfl, B3, HC⟩
    have HB3 := Lib.hid (B1.out.trans (B3.mono B1.out.size))
    have X3 := Lib.hid ((B3.block _ (blk_lt X1.out)).trans X1.out)
    have HDB := Lib.hid HC
    clear CK CK1 B3 HC X1 B1
    by_cases hc : c = 0
    case neg =>
      have q1 : (c != 0) = true := by simpa using hc
      clear hc
      go_wp2_with fail
      refine (LV.out _).mono ?_
      rintro e w4 ⟨rfl, B4⟩
      have FIN := Lib.hid (HB3.out.trans (B4.mono HB3.out.size))
      clear B4
      go_wp2_with fail
      go_ret
      exact ⟨rfl, FIN.out⟩
    case pos =>
      subst hc
      have D := Lib.hid (HDB.out rfl).2
      obtain ⟨W4, hW4⟩ : ∃ W4, w3.alloc (.cells #[.int .i64 xtyp, .int .u32 xid, .int .i64 xlen, .int .u32 xrouter, .int .i64 xseq, .int .i64 xage, .int .i64 xsum, .bool xborder, .bool xboundary, .slice xla xln xlc, .slice xaa xan xac, .int .i64 xcost, .bool xsecond, .int .u32 xfwd, .int .i64 xtag] 42) = W4 := ⟨_, rfl⟩
      have B4 : Below w3.heap.size w3 W4 := by rw [← hW4]; exact (Below.refl _ _).alloc (Nat.le_refl _) _
      have HB4 := Lib.hid (HB3.out.trans (B4.mono HB3.out.size))
      have X4 := Lib.hid ((B4.block _ (blk_lt X3.out)).trans X3.out)
      have BD4 := Lib.hid (BD.out W4 (.slice (some ⟨w3.heap.size, 0, none⟩) 1 1) (by rw [← hW4]; exact sl_one (vals := lsaE ⟨xtyp, xid, xlen, xrouter, xseq, xage, xsum, xborder, xboundary, xla, xln, xlc, xaa, xan, xac, xcost, xsecond, xfwd, xtag⟩)))
      have HW4 := Lib.hid hW4
      obtain ⟨⟨⟨d0, d1, d2, d3, d4⟩, ⟨d5, d6, d7, d8, d9⟩, ⟨d10, d11, d12, d13, d14⟩⟩, -⟩ := blk15 X3.out
      clear HDB BD hW4 B4
      go_wp2_with (rw [HW4.out])
      refine BD4.out.mono ?_
      rintro e w5 ⟨rfl, G5⟩
      have HB5 := Lib.hid (HB4.out.trans (G5.b.mono HB4.out.size))
      have X5 := Lib.hid ((G5.b.block _ (blk_lt X4.out)).trans X4.out)
      clear BD4 G5 d0 d1 d2 d3 d4 d5 d6 d7 d8 d9 d10 d11 d12 d13 d14 HB4 X4 HB3 X3 HW4
      cases hbb : bodB [⟨xtyp, xid, xlen, xrouter, xseq, xage, xsum, xborder, xboundary, xla, xln, xlc, xaa, xan, xac, xcost, xsecond, xfwd, xtag⟩] with
      | false =>
        clear hbb NP NR SY
        go_wp2_with fail
        refine (LV.out _).mono ?_
        rintro e w6 ⟨rfl, B6⟩
        have FIN := Lib.hid (HB5.out.trans (B6.mono HB5.out.size))
        clear B6
        go_wp2_with fail
        go_ret
        exact ⟨rfl, FIN.out⟩
      | true =>
        clear hbb
        have NP5 := Lib.hid (NP.out D.out w5 HB5.out)
        obtain ⟨⟨⟨d0, d1, d2, d3, d4⟩, ⟨d5, d6, d7, d8, d9⟩, ⟨d10, d11, d12, d13, d14⟩⟩, -⟩ := blk15 X5.out
        clear NP
        go_upto_region 5 with fail
        go_wp2_with fail
        refine NP5.out.mono ?_
        rintro e w6 ⟨la, lc, aa, ac, rfl, L6, A6, B6⟩
        simp only [lsaE, atL]
        obtain ⟨W7, hW7⟩ : ∃ W7, w6.alloc (.cells #[.int .i64 ytyp, .int .u32 yid, .int .i64 ylen, .int .u32 yrouter, .int .i64 yseq, .int .i64 yage, .int .i64 ysum, .bool yborder, .bool yboundary, .slice la yln lc, .slice aa yan ac, .int .i64 ycost, .bool ysecond, .int .u32 yfwd, .int .i64 ytag] 42) = W7 := ⟨_, rfl⟩
        have B67 : Below w6.heap.size w6 W7 := by rw [← hW7]; exact (Below.refl _ _).alloc (Nat.le_refl _) _
        have Z7 : Hid (W7.heap[w6.heap.size]? = some (.cells #[.int .i64 ytyp, .int .u32 yid, .int .i64 ylen, .int .u32 yrouter, .int .i64 yseq, .int .i64 yage, .int .i64 ysum, .bool yborder, .bool yboundary, .slice la yln lc, .slice aa yan ac, .int .i64 ycost, .bool ysecond, .int .u32 yfwd, .int .i64 ytag] 42 (0, 0))) := Lib.hid (by rw [← hW7]; exact alloc_new _ _)
        have B57 := B6.trans (B67.mono B6.size)
        have HB7 := Lib.hid (HB5.out.trans (B57.mono HB5.out.size))
        have X7 := Lib.hid ((B57.block _ (blk_lt X5.out)).trans X5.out)
        have L7 := Lib.hid (L6.below B67)
        have A7 := Lib.hid (A6.below B67)
        have HW7 := Lib.hid hW7
        have NR7 := Lib.hid (NR.out D.out W7 HB7.out)
        clear hW7 NP5 L6 A6 B6 B67 B57 d0 d1 d2 d3 d4 d5 d6 d7 d8 d9 d10 d11 d12 d13 d14 HB5 X5 NR D
        go_upto_region 6 with fail
        rw [HW7.out]
        clear HW7
        obtain ⟨⟨⟨d0, d1, d2, d3, d4⟩, ⟨d5, d6, d7, d8, d9⟩, ⟨d10, d11, d12, d13, d14⟩⟩, -⟩ := blk15 X7.out
        go_wp2_with fail
        refine NR7.out.mono ?_
        rintro e w8 ⟨la', lc', aa', ac', rfl, L8, A8, B8⟩
        simp only [lsaE, atL]
        obtain ⟨W9, hW9⟩ : ∃ W9, w8.alloc (.cells #[.int .i64 ytyp, .int .u32 yid, .int .i64 ylen, .int .u32 yrouter, .int .i64 yseq, .int .i64 yage, .int .i64 ysum, .bool yborder, .bool yboundary, .slice la' yln lc', .slice aa' yan ac', .int .i64 ycost, .bool ysecond, .int .u32 yfwd, .int .i64 ytag] 42) = W9 := ⟨_, rfl⟩
        have B89 : Below w8.heap.size w8 W9 := by rw [← hW9]; exact (Below.refl _ _).alloc (Nat.le_refl _) _
        have V9 : Hid (W9.heap[w8.heap.size]? = some (.cells #[.int .i64 ytyp, .int .u32 yid, .int .i64 ylen, .int .u32 yrouter, .int .i64 yseq, .int .i64 yage, .int .i64 ysum, .bool yborder, .bool yboundary, .slice la' yln lc', .slice aa' yan ac', .int .i64 ycost, .bool ysecond, .int .u32 yfwd, .int .i64 ytag] 42 (0, 0))) := Lib.hid (by rw [← hW9]; exact alloc_new _ _)
        have B79 := B8.trans (B89.mono B8.size)
        have HB9 := Lib.hid (HB7.out.trans (B79.mono HB7.out.size))
        have Z9 := Lib.hid ((B79.block _ (blk_lt Z7.out)).trans Z7.out)
        have SY9 := Lib.hid (SY.out W9 la lc aa ac la' lc' aa' ac' (L7.out.below B79) (A7.out.below B79) (L8.below B89) (A8.below B89))
        have HW9 := Lib.hid hW9
        clear hW9 NR7 L7 A7 L8 A8 B8 B89 B79 d0 d1 d2 d3 d4 d5 d6 d7 d8 d9 d10 d11 d12 d13 d14 HB7 X7 Z7 SY
        go_upto_region 7 with fail
        rw [HW9.out]
        clear HW9
        obtain ⟨⟨⟨e0, e1, e2, e3, e4⟩, ⟨e5, e6, e7, e8, e9⟩, ⟨e10, e11, e12, e13, e14⟩⟩, -⟩ := blk15 Z9.out
        obtain ⟨⟨⟨f0, f1, f2, f3, f4⟩, ⟨f5, f6, f7, f8, f9⟩, ⟨f10, f11, f12, f13, f14⟩⟩, -⟩ := blk15 V9.out
        go_wp2_with fail
        refine SY9.out.mono ?_
        rintro e w10 ⟨rfl, G10⟩
        have HB10 := Lib.hid (HB9.out.trans (G10.b.mono HB9.out.size))
        clear SY9 G10 e0 e1 e2 e3 e4 e5 e6 e7 e8 e9 e10 e11 e12 e13 e14 f0 f1 f2 f3 f4 f5 f6 f7 f8 f9 f10 f11 f12 f13 f14
        go_wp2_with fail
        refine (LV.out _).mono ?_
        rintro e w11 ⟨rfl, B11⟩
        have FIN := Lib.hid (HB10.out.trans (B11.mono HB10.out.size))
        clear B11
        go_wp2_with fail
        go_ret
        exact ⟨rfl, FIN.out⟩

end Go.Proofs.YtddageahmgaigaaGreat
