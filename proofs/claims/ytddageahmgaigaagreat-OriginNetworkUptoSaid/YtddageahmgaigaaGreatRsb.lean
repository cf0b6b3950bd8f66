import Derived.Test.YtddageahmgaigaaGreatLsb
namespace Go.Proofs.YtddageahmgaigaaGreat
open Go.RowKit

theorem gCr {W : World} {c : Addr} {v : Value} (h : W.cell? c = some v) (n : Nat) (os : Array Obj) : (Go.Sort.grow (W.drewN n) os).cell? c = some v :=
  cell_grown (World.block_lt_of_cell? _ _ h) h n os

theorem neKk (t id len r t' id' len' r' : Int) (w : World) : (binOp .neq 60 (.agg #[.int .i64 t, .int .u32 id, .int .i64 len, .int .u32 r]) (.agg #[.int .i64 t', .int .u32 id', .int .i64 len', .int .u32 r'])).run Tryz.prog w = .ok (.bool (!decide ((⟨t, id, len, r⟩ : Kk) = ⟨t', id', len', r'⟩))) w := by
  have h := eqKk t id len r t' id' len' r' w
  simp only [binOp] at h ⊢
  revert h
  simp only [Sem.run_bind, Sem.run_pure]
  cases (Op.equal 60 (.agg #[.int .i64 t, .int .u32 id, .int .i64 len, .int .u32 r]) (.agg #[.int .i64 t', .int .u32 id', .int .i64 len', .int .u32 r'])).run Tryz.prog w <;> simp

set_option maxHeartbeats 16000000 in
set_option maxRecDepth 100000 in
theorem rsb_0 (x y : Lsa) (l1 l2 : List Lnk) (a1 a2 : List Int) (w : World) (hl1 : LnksAt w (.slice x.la x.ln x.lc) l1) (hl2 : LnksAt w (.slice y.la y.ln y.lc) l2) (ha1 : WordsAt w (.slice x.aa x.an x.ac) a1) (ha2 : WordsAt w (.slice y.aa y.an y.ac) a2) (hkey : lkOf x ≠ lkOf y) : Calls Tryz.prog 28 #[.agg (lsaE x).toArray, .agg (lsaE y).toArray] w (EqPost w false) := by
  obtain ⟨xtyp, xid, xlen, xrouter, xseq, xage, xsum, xborder, xboundary, xla, xln, xlc, xaa, xan, xac, xcost, xsecond, xfwd, xtag⟩ := x
  obtain ⟨ytyp, yid, ylen, yrouter, yseq, yage, ysum, yborder, yboundary, yla, yln, ylc, yaa, yan, yac, ycost, ysecond, yfwd, ytag⟩ := y
  simp only [lkOf] at hkey
  simp only at hl1 hl2 ha1 ha2
  obtain rfl := hl1.ln
  obtain rfl := hl2.ln
  obtain rfl := ha1.ln
  obtain rfl := ha2.ln
  have NE := neKk xtyp xid xlen xrouter ytyp yid ylen yrouter
  have hkb : decide ((⟨xtyp, xid, xlen, xrouter⟩ : Kk) = ⟨ytyp, yid, ylen, yrouter⟩) = false := by simpa using hkey
  simp only [hkb, Bool.not_false] at NE
  clear hkb hkey
  have K1 := Lib.hid (fun W => (key_calls xtyp xid xlen xrouter xseq xage xsum W).mono fun _ _ h => (⟨h.1, h.2.grow⟩ : _ ∧ ∃ q os, _ = Go.Sort.grow (World.drewN W q) os))
  have K2 := Lib.hid (fun W => (key_calls ytyp yid ylen yrouter yseq yage ysum W).mono fun _ _ h => (⟨h.1, h.2.grow⟩ : _ ∧ ∃ q os, _ = Go.Sort.grow (World.drewN W q) os))
  have mixed : Tryz.prog.follows .mixedOrders = true := by kernel_rfl
  simp only [keyE] at K1 K2
  simp only [lsaE]
  obtain ⟨W0, hW0⟩ : ∃ W0, (w.alloc (.cells #[.int .i64 xtyp, .int .u32 xid, .int .i64 xlen, .int .u32 xrouter, .int .i64 xseq, .int .i64 xage, .int .i64 xsum, .bool xborder, .bool xboundary, .slice xla l1.length xlc, .slice xaa a1.length xac, .int .i64 xcost, .bool xsecond, .int .u32 xfwd, .int .i64 xtag] 42)).alloc (.cells #[.int .i64 ytyp, .int .u32 yid, .int .i64 ylen, .int .u32 yrouter, .int .i64 yseq, .int .i64 yage, .int .i64 ysum, .bool yborder, .bool yboundary, .slice yla l2.length ylc, .slice yaa a2.length yac, .int .i64 ycost, .bool ysecond, .int .u32 yfwd, .int .i64 ytag] 42) = W0 := ⟨_, rfl⟩
  have b0 : W0.heap[w.heap.size]? = some (.cells #[.int .i64 xtyp, .int .u32 xid, .int .i64 xlen, .int .u32 xrouter, .int .i64 xseq, .int .i64 xage, .int .i64 xsum, .bool xborder, .bool xboundary, .slice xla l1.length xlc, .slice xaa a1.length xac, .int .i64 xcost, .bool xsecond, .int .u32 xfwd, .int .i64 xtag] 42 (0, 0)) := by rw [← hW0]; exact (alloc_get _ _ _ (by simp)).trans (alloc_new w _)
  have b1 : W0.heap[w.heap.size + 1]? = some (.cells #[.int .i64 ytyp, .int .u32 yid, .int .i64 ylen, .int .u32 yrouter, .int .i64 yseq, .int .i64 yage, .int .i64 ysum, .bool yborder, .bool yboundary, .slice yla l2.length ylc, .slice yaa a2.length yac, .int .i64 ycost, .bool ysecond, .int .u32 yfwd, .int .i64 ytag] 42 (0, 0)) := by rw [← hW0]; exact blk_new2 w _ _
  have G0 : Hid (Gr w W0) := Lib.hid (by rw [← hW0]; exact ((Gr.refl _).alloc _).alloc _)
  have HW0 := Lib.hid hW0
  have X0 := Lib.hid b0
  have Y0 := Lib.hid b1
  clear hW0
  clear hl1 hl2 ha1 ha2
  obtain ⟨⟨⟨d0, d1, d2, d3, d4⟩, ⟨d5, d6, d7, d8, d9⟩, ⟨d10, d11, d12, d13, d14⟩⟩, -⟩ := blk15 b0
  obtain ⟨⟨⟨e0, e1, e2, e3, e4⟩, ⟨e5, e6, e7, e8, e9⟩, ⟨e10, e11, e12, e13, e14⟩⟩, -⟩ := blk15 b1
  clear b0 b1
  have p0 := gCr d0
  have q0 := gCr e0
  have p1 := gCr d1
  have q1 := gCr e1
  have p2 := gCr d2
  have q2 := gCr e2
  have p3 := gCr d3
  have q3 := gCr e3
  have p4 := gCr d4
  have q4 := gCr e4
  have p5 := gCr d5
  have q5 := gCr e5
  have p6 := gCr d6
  have q6 := gCr e6
  have p7 := gCr d7
  have q7 := gCr e7
  have p8 := gCr d8
  have q8 := gCr e8
  have p9 := gCr d9
  have q9 := gCr e9
  have p10 := gCr d10
  have q10 := gCr e10
  have p11 := gCr d11
  have q11 := gCr e11
  have p12 := gCr d12
  have q12 := gCr e12
  have p13 := gCr d13
  have q13 := gCr e13
  have p14 := gCr d14
  have q14 := gCr e14
  clear d0 e0 d1 e1 d2 e2 d3 e3 d4 e4 d5 e5 d6 e6 d7 e7 d8 e8 d9 e9 d10 e10 d11 e11 d12 e12 d13 e13 d14 e14
  go_enter Tryz.func28, Tryz.ntmps28
  go_upto_region 1 with fail
  rw [HW0.out]
  clear HW0
  go_wp2_with fail
  refine wp_region_quiet_grown (by assumption) (by kernel_rfl) ?_
  dsimp only [List.append]
  repeat (go_big_quiet_step ((go_at_call 27; with_reducible first | exact Calls.grown_of (K1.out _) | exact Calls.grown_of (K2.out _))))
  refine wpQuiet_nil ?_
  intro _ hw'
  obtain ⟨⟨nq, osq⟩, hw''⟩ := hw'
  subst hw''
  have FIN : Hid (Gr W0 (Go.Sort.grow (W0.drewN nq) osq)) := Lib.hid (Gr.of_grow nq osq)
  clear p0 q0 p1 q1 p2 q2 p3 q3 p4 q4 p5 q5 p6 q6 p7 q7 p8 q8 p9 q9 p10 q10 p11 q11 p12 q12 p13 q13 p14 q14 K1 K2
  have GG := Lib.hid (G0.out.trans FIN.out)
  go_wp2_with fail
  go_ret
  exact ⟨rfl, GG.out⟩

set_option maxHeartbeats 16000000 in
set_option maxRecDepth 100000 in
theorem rsb_1 (x y : Lsa) (l1 l2 : List Lnk) (a1 a2 : List Int) (w : World) (hl1 : LnksAt w (.slice x.la x.ln x.lc) l1) (hl2 : LnksAt w (.slice y.la y.ln y.lc) l2) (ha1 : WordsAt w (.slice x.aa x.an x.ac) a1) (ha2 : WordsAt w (.slice y.aa y.an y.ac) a2) (hkey : lkOf x = lkOf y) (hborder : x.border ≠ y.border) : Calls Tryz.prog 28 #[.agg (lsaE x).toArray, .agg (lsaE y).toArray] w (EqPost w false) := by
  obtain ⟨xtyp, xid, xlen, xrouter, xseq, xage, xsum, xborder, xboundary, xla, xln, xlc, xaa, xan, xac, xcost, xsecond, xfwd, xtag⟩ := x
  obtain ⟨ytyp, yid, ylen, yrouter, yseq, yage, ysum, yborder, yboundary, yla, yln, ylc, yaa, yan, yac, ycost, ysecond, yfwd, ytag⟩ := y
  simp only [lkOf] at hkey hborder
  simp only at hl1 hl2 ha1 ha2
  obtain rfl := hl1.ln
  obtain rfl := hl2.ln
  obtain rfl := ha1.ln
  obtain rfl := ha2.ln
  have NE := neKk xtyp xid xlen xrouter ytyp yid ylen yrouter
  have hkb : decide ((⟨xtyp, xid, xlen, xrouter⟩ : Kk) = ⟨ytyp, yid, ylen, yrouter⟩) = true := by simpa using hkey
  simp only [hkb, Bool.not_true] at NE
  clear hkb hkey
  have qborder : (xborder != yborder) = true := bne_iff_ne.2 hborder
  have rborder : (xborder == yborder) = false := beq_eq_false_iff_ne.2 hborder
  clear hborder
  have K1 := Lib.hid (fun W => (key_calls xtyp xid xlen xrouter xseq xage xsum W).mono fun _ _ h => (⟨h.1, h.2.grow⟩ : _ ∧ ∃ q os, _ = Go.Sort.grow (World.drewN W q) os))
  have K2 := Lib.hid (fun W => (key_calls ytyp yid ylen yrouter yseq yage ysum W).mono fun _ _ h => (⟨h.1, h.2.grow⟩ : _ ∧ ∃ q os, _ = Go.Sort.grow (World.drewN W q) os))
  have mixed : Tryz.prog.follows .mixedOrders = true := by kernel_rfl
  simp only [keyE] at K1 K2
  simp only [lsaE]
  obtain ⟨W0, hW0⟩ : ∃ W0, (w.alloc (.cells #[.int .i64 xtyp, .int .u32 xid, .int .i64 xlen, .int .u32 xrouter, .int .i64 xseq, .int .i64 xage, .int .i64 xsum, .bool xborder, .bool xboundary, .slice xla l1.length xlc, .slice xaa a1.length xac, .int .i64 xcost, .bool xsecond, .int .u32 xfwd, .int .i64 xtag] 42)).alloc (.cells #[.int .i64 ytyp, .int .u32 yid, .int .i64 ylen, .int .u32 yrouter, .int .i64 yseq, .int .i64 yage, .int .i64 ysum, .bool yborder, .bool yboundary, .slice yla l2.length ylc, .slice yaa a2.length yac, .int .i64 ycost, .bool ysecond, .int .u32 yfwd, .int .i64 ytag] 42) = W0 := ⟨_, rfl⟩
  have b0 : W0.heap[w.heap.size]? = some (.cells #[.int .i64 xtyp, .int .u32 xid, .int .i64 xlen, .int .u32 xrouter, .int .i64 xseq, .int .i64 xage, .int .i64 xsum, .bool xborder, .bool xboundary, .slice xla l1.length xlc, .slice xaa a1.length xac, .int .i64 xcost, .bool xsecond, .int .u32 xfwd, .int .i64 xtag] 42 (0, 0)) := by rw [← hW0]; exact (alloc_get _ _ _ (by simp)).trans (alloc_new w _)
  have b1 : W0.heap[w.heap.size + 1]? = some (.cells #[.int .i64 ytyp, .int .u32 yid, .int .i64 ylen, .int .u32 yrouter, .int .i64 yseq, .int .i64 yage, .int .i64 ysum, .bool yborder, .bool yboundary, .slice yla l2.length ylc, .slice yaa a2.length yac, .int .i64 ycost, .bool ysecond, .int .u32 yfwd, .int .i64 ytag] 42 (0, 0)) := by rw [← hW0]; exact blk_new2 w _ _
  have G0 : Hid (Gr w W0) := Lib.hid (by rw [← hW0]; exact ((Gr.refl _).alloc _).alloc _)
  have HW0 := Lib.hid hW0
  have X0 := Lib.hid b0
  have Y0 := Lib.hid b1
  clear hW0
  clear hl1 hl2 ha1 ha2
  obtain ⟨⟨⟨d0, d1, d2, d3, d4⟩, ⟨d5, d6, d7, d8, d9⟩, ⟨d10, d11, d12, d13, d14⟩⟩, -⟩ := blk15 b0
  obtain ⟨⟨⟨e0, e1, e2, e3, e4⟩, ⟨e5, e6, e7, e8, e9⟩, ⟨e10, e11, e12, e13, e14⟩⟩, -⟩ := blk15 b1
  clear b0 b1
  have p0 := gCr d0
  have q0 := gCr e0
  have p1 := gCr d1
  have q1 := gCr e1
  have p2 := gCr d2
  have q2 := gCr e2
  have p3 := gCr d3
  have q3 := gCr e3
  have p4 := gCr d4
  have q4 := gCr e4
  have p5 := gCr d5
  have q5 := gCr e5
  have p6 := gCr d6
  have q6 := gCr e6
  have p7 := gCr d7
  have q7 := gCr e7
  have p8 := gCr d8
  have q8 := gCr e8
  have p9 := gCr d9
  have q9 := gCr e9
  have p10 := gCr d10
  have q10 := gCr e10
  have p11 := gCr d11
  have q11 := gCr e11
  have p12 := gCr d12
  have q12 := gCr e12
  have p13 := gCr d13
  have q13 := gCr e13
  have p14 := gCr d14
  have q14 := gCr e14
  clear d0 e0 d1 e1 d2 e2 d3 e3 d4 e4 d5 e5 d6 e6 d7 e7 d8 e8 d9 e9 d10 e10 d11 e11 d12 e12 d13 e13 d14 e14
  go_enter Tryz.func28, Tryz.ntmps28
  go_upto_region 1 with fail
  rw [HW0.out]
  clear HW0
  go_wp2_with fail
  refine wp_region_quiet_grown (by assumption) (by kernel_rfl) ?_
  dsimp only [List.append]
  repeat (go_big_quiet_step ((go_at_call 27; with_reducible first | exact Calls.grown_of (K1.out _) | exact Calls.grown_of (K2.out _))))
  refine wpQuiet_nil ?_
  intro _ hw'
  obtain ⟨⟨nq, osq⟩, hw''⟩ := hw'
  subst hw''
  have FIN : Hid (Gr W0 (Go.Sort.grow (W0.drewN nq) osq)) := Lib.hid (Gr.of_grow nq osq)
  clear p0 q0 p1 q1 p2 q2 p3 q3 p4 q4 p5 q5 p6 q6 p7 q7 p8 q8 p9 q9 p10 q10 p11 q11 p12 q12 p13 q13 p14 q14 K1 K2
  have GG := Lib.hid (G0.out.trans FIN.out)
  go_wp2_with fail
  go_ret
  exact ⟨rfl, GG.out⟩

set_option maxHeartbeats 16000000 in
set_option maxRecDepth 100000 in
theorem rsb_2 (x y : Lsa) (l1 l2 : List Lnk) (a1 a2 : List Int) (w : World) (hl1 : LnksAt w (.slice x.la x.ln x.lc) l1) (hl2 : LnksAt w (.slice y.la y.ln y.lc) l2) (ha1 : WordsAt w (.slice x.aa x.an x.ac) a1) (ha2 : WordsAt w (.slice y.aa y.an y.ac) a2) (hkey : lkOf x = lkOf y) (hborder : x.border = y.border) (hboundary : x.boundary ≠ y.boundary) : Calls Tryz.prog 28 #[.agg (lsaE x).toArray, .agg (lsaE y).toArray] w (EqPost w false) := by
  obtain ⟨xtyp, xid, xlen, xrouter, xseq, xage, xsum, xborder, xboundary, xla, xln, xlc, xaa, xan, xac, xcost, xsecond, xfwd, xtag⟩ := x
  obtain ⟨ytyp, yid, ylen, yrouter, yseq, yage, ysum, yborder, yboundary, yla, yln, ylc, yaa, yan, yac, ycost, ysecond, yfwd, ytag⟩ := y
  simp only [lkOf] at hkey hborder hboundary
  simp only at hl1 hl2 ha1 ha2
  obtain rfl := hl1.ln
  obtain rfl := hl2.ln
  obtain rfl := ha1.ln
  obtain rfl := ha2.ln
  have NE := neKk xtyp xid xlen xrouter ytyp yid ylen yrouter
  have hkb : decide ((⟨xtyp, xid, xlen, xrouter⟩ : Kk) = ⟨ytyp, yid, ylen, yrouter⟩) = true := by simpa using hkey
  simp only [hkb, Bool.not_true] at NE
  clear hkb hkey
  subst hborder
  have qboundary : (xboundary != yboundary) = true := bne_iff_ne.2 hboundary
  have rboundary : (xboundary == yboundary) = false := beq_eq_false_iff_ne.2 hboundary
  clear hboundary
  have K1 := Lib.hid (fun W => (key_calls xtyp xid xlen xrouter xseq xage xsum W).mono fun _ _ h => (⟨h.1, h.2.grow⟩ : _ ∧ ∃ q os, _ = Go.Sort.grow (World.drewN W q) os))
  have K2 := Lib.hid (fun W => (key_calls ytyp yid ylen yrouter yseq yage ysum W).mono fun _ _ h => (⟨h.1, h.2.grow⟩ : _ ∧ ∃ q os, _ = Go.Sort.grow (World.drewN W q) os))
  have mixed : Tryz.prog.follows .mixedOrders = true := by kernel_rfl
  simp only [keyE] at K1 K2
  simp only [lsaE]
  obtain ⟨W0, hW0⟩ : ∃ W0, (w.alloc (.cells #[.int .i64 xtyp, .int .u32 xid, .int .i64 xlen, .int .u32 xrouter, .int .i64 xseq, .int .i64 xage, .int .i64 xsum, .bool xborder, .bool xboundary, .slice xla l1.length xlc, .slice xaa a1.length xac, .int .i64 xcost, .bool xsecond, .int .u32 xfwd, .int .i64 xtag] 42)).alloc (.cells #[.int .i64 ytyp, .int .u32 yid, .int .i64 ylen, .int .u32 yrouter, .int .i64 yseq, .int .i64 yage, .int .i64 ysum, .bool xborder, .bool yboundary, .slice yla l2.length ylc, .slice yaa a2.length yac, .int .i64 ycost, .bool ysecond, .int .u32 yfwd, .int .i64 ytag] 42) = W0 := ⟨_, rfl⟩
  have b0 : W0.heap[w.heap.size]? = some (.cells #[.int .i64 xtyp, .int .u32 xid, .int .i64 xlen, .int .u32 xrouter, .int .i64 xseq, .int .i64 xage, .int .i64 xsum, .bool xborder, .bool xboundary, .slice xla l1.length xlc, .slice xaa a1.length xac, .int .i64 xcost, .bool xsecond, .int .u32 xfwd, .int .i64 xtag] 42 (0, 0)) := by rw [← hW0]; exact (alloc_get _ _ _ (by simp)).trans (alloc_new w _)
  have b1 : W0.heap[w.heap.size + 1]? = some (.cells #[.int .i64 ytyp, .int .u32 yid, .int .i64 ylen, .int .u32 yrouter, .int .i64 yseq, .int .i64 yage, .int .i64 ysum, .bool xborder, .bool yboundary, .slice yla l2.length ylc, .slice yaa a2.length yac, .int .i64 ycost, .bool ysecond, .int .u32 yfwd, .int .i64 ytag] 42 (0, 0)) := by rw [← hW0]; exact blk_new2 w _ _
  have G0 : Hid (Gr w W0) := Lib.hid (by rw [← hW0]; exact ((Gr.refl _).alloc _).alloc _)
  have HW0 := Lib.hid hW0
  have X0 := Lib.hid b0
  have Y0 := Lib.hid b1
  clear hW0
  clear hl1 hl2 ha1 ha2
  obtain ⟨⟨⟨d0, d1, d2, d3, d4⟩, ⟨d5, d6, d7, d8, d9⟩, ⟨d10, d11, d12, d13, d14⟩⟩, -⟩ := blk15 b0
  obtain ⟨⟨⟨e0, e1, e2, e3, e4⟩, ⟨e5, e6, e7, e8, e9⟩, ⟨e10, e11, e12, e13, e14⟩⟩, -⟩ := blk15 b1
  clear b0 b1
  have p0 := gCr d0
  have q0 := gCr e0
  have p1 := gCr d1
  have q1 := gCr e1
  have p2 := gCr d2
  have q2 := gCr e2
  have p3 := gCr d3
  have q3 := gCr e3
  have p4 := gCr d4
  have q4 := gCr e4
  have p5 := gCr d5
  have q5 := gCr e5
  have p6 := gCr d6
  have q6 := gCr e6
  have p7 := gCr d7
  have q7 := gCr e7
  have p8 := gCr d8
  have q8 := gCr e8
  have p9 := gCr d9
  have q9 := gCr e9
  have p10 := gCr d10
  have q10 := gCr e10
  have p11 := gCr d11
  have q11 := gCr e11
  have p12 := gCr d12
  have q12 := gCr e12
  have p13 := gCr d13
  have q13 := gCr e13
  have p14 := gCr d14
  have q14 := gCr e14
  clear d0 e0 d1 e1 d2 e2 d3 e3 d4 e4 d5 e5 d6 e6 d7 e7 d8 e8 d9 e9 d10 e10 d11 e11 d12 e12 d13 e13 d14 e14
  go_enter Tryz.func28, Tryz.ntmps28
  go_upto_region 1 with fail
  rw [HW0.out]
  clear HW0
  go_wp2_with fail
  refine wp_region_quiet_grown (by assumption) (by kernel_rfl) ?_
  dsimp only [List.append]
  repeat (go_big_quiet_step ((go_at_call 27; with_reducible first | exact Calls.grown_of (K1.out _) | exact Calls.grown_of (K2.out _))))
  refine wpQuiet_nil ?_
  intro _ hw'
  obtain ⟨⟨nq, osq⟩, hw''⟩ := hw'
  subst hw''
  have FIN : Hid (Gr W0 (Go.Sort.grow (W0.drewN nq) osq)) := Lib.hid (Gr.of_grow nq osq)
  clear p0 q0 p1 q1 p2 q2 p3 q3 p4 q4 p5 q5 p6 q6 p7 q7 p8 q8 p9 q9 p10 q10 p11 q11 p12 q12 p13 q13 p14 q14 K1 K2
  have GG := Lib.hid (G0.out.trans FIN.out)
  go_wp2_with fail
  go_ret
  exact ⟨rfl, GG.out⟩

set_option maxHeartbeats 16000000 in
set_option maxRecDepth 100000 in
theorem rsb_3 (x y : Lsa) (l1 l2 : List Lnk) (a1 a2 : List Int) (w : World) (hl1 : LnksAt w (.slice x.la x.ln x.lc) l1) (hl2 : LnksAt w (.slice y.la y.ln y.lc) l2) (ha1 : WordsAt w (.slice x.aa x.an x.ac) a1) (ha2 : WordsAt w (.slice y.aa y.an y.ac) a2) (hkey : lkOf x = lkOf y) (hborder : x.border = y.border) (hboundary : x.boundary = y.boundary) (hcost : x.cost ≠ y.cost) : Calls Tryz.prog 28 #[.agg (lsaE x).toArray, .agg (lsaE y).toArray] w (EqPost w false) := by
  obtain ⟨xtyp, xid, xlen, xrouter, xseq, xage, xsum, xborder, xboundary, xla, xln, xlc, xaa, xan, xac, xcost, xsecond, xfwd, xtag⟩ := x
  obtain ⟨ytyp, yid, ylen, yrouter, yseq, yage, ysum, yborder, yboundary, yla, yln, ylc, yaa, yan, yac, ycost, ysecond, yfwd, ytag⟩ := y
  simp only [lkOf] at hkey hborder hboundary hcost
  simp only at hl1 hl2 ha1 ha2
  obtain rfl := hl1.ln
  obtain rfl := hl2.ln
  obtain rfl := ha1.ln
  obtain rfl := ha2.ln
  have NE := neKk xtyp xid xlen xrouter ytyp yid ylen yrouter
  have hkb : decide ((⟨xtyp, xid, xlen, xrouter⟩ : Kk) = ⟨ytyp, yid, ylen, yrouter⟩) = true := by simpa using hkey
  simp only [hkb, Bool.not_true] at NE
  clear hkb hkey
  subst hborder
  subst hboundary
  have qcost : (xcost != ycost) = true := bne_iff_ne.2 hcost
  have rcost : (xcost == ycost) = false := beq_eq_false_iff_ne.2 hcost
  clear hcost
  have K1 := Lib.hid (fun W => (key_calls xtyp xid xlen xrouter xseq xage xsum W).mono fun _ _ h => (⟨h.1, h.2.grow⟩ : _ ∧ ∃ q os, _ = Go.Sort.grow (World.drewN W q) os))
  have K2 := Lib.hid (fun W => (key_calls ytyp yid ylen yrouter yseq yage ysum W).mono fun _ _ h => (⟨h.1, h.2.grow⟩ : _ ∧ ∃ q os, _ = Go.Sort.grow (World.drewN W q) os))
  have mixed : Tryz.prog.follows .mixedOrders = true := by kernel_rfl
  simp only [keyE] at K1 K2
  simp only [lsaE]
  obtain ⟨W0, hW0⟩ : ∃ W0, (w.alloc (.cells #[.int .i64 xtyp, .int .u32 xid, .int .i64 xlen, .int .u32 xrouter, .int .i64 xseq, .int .i64 xage, .int .i64 xsum, .bool xborder, .bool xboundary, .slice xla l1.length xlc, .slice xaa a1.length xac, .int .i64 xcost, .bool xsecond, .int .u32 xfwd, .int .i64 xtag] 42)).alloc (.cells #[.int .i64 ytyp, .int .u32 yid, .int .i64 ylen, .int .u32 yrouter, .int .i64 yseq, .int .i64 yage, .int .i64 ysum, .bool xborder, .bool xboundary, .slice yla l2.length ylc, .slice yaa a2.length yac, .int .i64 ycost, .bool ysecond, .int .u32 yfwd, .int .i64 ytag] 42) = W0 := ⟨_, rfl⟩
  have b0 : W0.heap[w.heap.size]? = some (.cells #[.int .i64 xtyp, .int .u32 xid, .int .i64 xlen, .int .u32 xrouter, .int .i64 xseq, .int .i64 xage, .int .i64 xsum, .bool xborder, .bool xboundary, .slice xla l1.length xlc, .slice xaa a1.length xac, .int .i64 xcost, .bool xsecond, .int .u32 xfwd, .int .i64 xtag] 42 (0, 0)) := by rw [← hW0]; exact (alloc_get _ _ _ (by simp)).trans (alloc_new w _)
  have b1 : W0.heap[w.heap.size + 1]? = some (.cells #[.int .i64 ytyp, .int .u32 yid, .int .i64 ylen, .int .u32 yrouter, .int .i64 yseq, .int .i64 yage, .int .i64 ysum, .bool xborder, .bool xboundary, .slice yla l2.length ylc, .slice yaa a2.length yac, .int .i64 ycost, .bool ysecond, .int .u32 yfwd, .int .i64 ytag] 42 (0, 0)) := by rw [← hW0]; exact blk_new2 w _ _
  have G0 : Hid (Gr w W0) := Lib.hid (by rw [← hW0]; exact ((Gr.refl _).alloc _).alloc _)
  have HW0 := Lib.hid hW0
  have X0 := Lib.hid b0
  have Y0 := Lib.hid b1
  clear hW0
  clear hl1 hl2 ha1 ha2
  obtain ⟨⟨⟨d0, d1, d2, d3, d4⟩, ⟨d5, d6, d7, d8, d9⟩, ⟨d10, d11, d12, d13, d14⟩⟩, -⟩ := blk15 b0
  obtain ⟨⟨⟨e0, e1, e2, e3, e4⟩, ⟨e5, e6, e7, e8, e9⟩, ⟨e10, e11, e12, e13, e14⟩⟩, -⟩ := blk15 b1
  clear b0 b1
  have p0 := gCr d0
  have q0 := gCr e0
  have p1 := gCr d1
  have q1 := gCr e1
  have p2 := gCr d2
  have q2 := gCr e2
  have p3 := gCr d3
  have q3 := gCr e3
  have p4 := gCr d4
  have q4 := gCr e4
  have p5 := gCr d5
  have q5 := gCr e5
  have p6 := gCr d6
  have q6 := gCr e6
  have p7 := gCr d7
  have q7 := gCr e7
  have p8 := gCr d8
  have q8 := gCr e8
  have p9 := gCr d9
  have q9 := gCr e9
  have p10 := gCr d10
  have q10 := gCr e10
  have p11 := gCr d11
  have q11 := gCr e11
  have p12 := gCr d12
  have q12 := gCr e12
  have p13 := gCr d13
  have q13 := gCr e13
  have p14 := gCr d14
  have q14 := gCr e14
  clear d0 e0 d1 e1 d2 e2 d3 e3 d4 e4 d5 e5 d6 e6 d7 e7 d8 e8 d9 e9 d10 e10 d11 e11 d12 e12 d13 e13 d14 e14
  go_enter Tryz.func28, Tryz.ntmps28
  go_upto_region 1 with fail
  rw [HW0.out]
  clear HW0
  go_wp2_with fail
  refine wp_region_quiet_grown (by assumption) (by kernel_rfl) ?_
  dsimp only [List.append]
  repeat (go_big_quiet_step ((go_at_call 27; with_reducible first | exact Calls.grown_of (K1.out _) | exact Calls.grown_of (K2.out _))))
  refine wpQuiet_nil ?_
  intro _ hw'
  obtain ⟨⟨nq, osq⟩, hw''⟩ := hw'
  subst hw''
  have FIN : Hid (Gr W0 (Go.Sort.grow (W0.drewN nq) osq)) := Lib.hid (Gr.of_grow nq osq)
  clear p0 q0 p1 q1 p2 q2 p3 q3 p4 q4 p5 q5 p6 q6 p7 q7 p8 q8 p9 q9 p10 q10 p11 q11 p12 q12 p13 q13 p14 q14 K1 K2
  have GG := Lib.hid (G0.out.trans FIN.out)
  go_wp2_with fail
  go_ret
  exact ⟨rfl, GG.out⟩

set_option maxHeartbeats 16000000 in
set_option maxRecDepth 100000 in
theorem rsb_4 (x y : Lsa) (l1 l2 : List Lnk) (a1 a2 : List Int) (w : World) (hl1 : LnksAt w (.slice x.la x.ln x.lc) l1) (hl2 : LnksAt w (.slice y.la y.ln y.lc) l2) (ha1 : WordsAt w (.slice x.aa x.an x.ac) a1) (ha2 : WordsAt w (.slice y.aa y.an y.ac) a2) (hkey : lkOf x = lkOf y) (hborder : x.border = y.border) (hboundary : x.boundary = y.boundary) (hcost : x.cost = y.cost) (hsecond : x.second ≠ y.second) : Calls Tryz.prog 28 #[.agg (lsaE x).toArray, .agg (lsaE y).toArray] w (EqPost w false) := by
  obtain ⟨xtyp, xid, xlen, xrouter, xseq, xage, xsum, xborder, xboundary, xla, xln, xlc, xaa, xan, xac, xcost, xsecond, xfwd, xtag⟩ := x
  obtain ⟨ytyp, yid, ylen, yrouter, yseq, yage, ysum, yborder, yboundary, yla, yln, ylc, yaa, yan, yac, ycost, ysecond, yfwd, ytag⟩ := y
  simp only [lkOf] at hkey hborder hboundary hcost hsecond
  simp only at hl1 hl2 ha1 ha2
  obtain rfl := hl1.ln
  obtain rfl := hl2.ln
  obtain rfl := ha1.ln
  obtain rfl := ha2.ln
  have NE := neKk xtyp xid xlen xrouter ytyp yid ylen yrouter
  have hkb : decide ((⟨xtyp, xid, xlen, xrouter⟩ : Kk) = ⟨ytyp, yid, ylen, yrouter⟩) = true := by simpa using hkey
  simp only [hkb, Bool.not_true] at NE
  clear hkb hkey
  subst hborder
  subst hboundary
  subst hcost
  have qsecond : (xsecond != ysecond) = true := bne_iff_ne.2 hsecond
  have rsecond : (xsecond == ysecond) = false := beq_eq_false_iff_ne.2 hsecond
  clear hsecond
  have K1 := Lib.hid (fun W => (key_calls xtyp xid xlen xrouter xseq xage xsum W).mono fun _ _ h => (⟨h.1, h.2.grow⟩ : _ ∧ ∃ q os, _ = Go.Sort.grow (World.drewN W q) os))
  have K2 := Lib.hid (fun W => (key_calls ytyp yid ylen yrouter yseq yage ysum W).mono fun _ _ h => (⟨h.1, h.2.grow⟩ : _ ∧ ∃ q os, _ = Go.Sort.grow (World.drewN W q) os))
  have mixed : Tryz.prog.follows .mixedOrders = true := by kernel_rfl
  simp only [keyE] at K1 K2
  simp only [lsaE]
  obtain ⟨W0, hW0⟩ : ∃ W0, (w.alloc (.cells #[.int .i64 xtyp, .int .u32 xid, .int .i64 xlen, .int .u32 xrouter, .int .i64 xseq, .int .i64 xage, .int .i64 xsum, .bool xborder, .bool xboundary, .slice xla l1.length xlc, .slice xaa a1.length xac, .int .i64 xcost, .bool xsecond, .int .u32 xfwd, .int .i64 xtag] 42)).alloc (.cells #[.int .i64 ytyp, .int .u32 yid, .int .i64 ylen, .int .u32 yrouter, .int .i64 yseq, .int .i64 yage, .int .i64 ysum, .bool xborder, .bool xboundary, .slice yla l2.length ylc, .slice yaa a2.length yac, .int .i64 xcost, .bool ysecond, .int .u32 yfwd, .int .i64 ytag] 42) = W0 := ⟨_, rfl⟩
  have b0 : W0.heap[w.heap.size]? = some (.cells #[.int .i64 xtyp, .int .u32 xid, .int .i64 xlen, .int .u32 xrouter, .int .i64 xseq, .int .i64 xage, .int .i64 xsum, .bool xborder, .bool xboundary, .slice xla l1.length xlc, .slice xaa a1.length xac, .int .i64 xcost, .bool xsecond, .int .u32 xfwd, .int .i64 xtag] 42 (0, 0)) := by rw [← hW0]; exact (alloc_get _ _ _ (by simp)).trans (alloc_new w _)
  have b1 : W0.heap[w.heap.size + 1]? = some (.cells #[.int .i64 ytyp, .int .u32 yid, .int .i64 ylen, .int .u32 yrouter, .int .i64 yseq, .int .i64 yage, .int .i64 ysum, .bool xborder, .bool xboundary, .slice yla l2.length ylc, .slice yaa a2.length yac, .int .i64 xcost, .bool ysecond, .int .u32 yfwd, .int .i64 ytag] 42 (0, 0)) := by rw [← hW0]; exact blk_new2 w _ _
  have G0 : Hid (Gr w W0) := Lib.hid (by rw [← hW0]; exact ((Gr.refl _).alloc _).alloc _)
  have HW0 := Lib.hid hW0
  have X0 := Lib.hid b0
  have Y0 := Lib.hid b1
  clear hW0
  clear hl1 hl2 ha1 ha2
  obtain ⟨⟨⟨d0, d1, d2, d3, d4⟩, ⟨d5, d6, d7, d8, d9⟩, ⟨d10, d11, d12, d13, d14⟩⟩, -⟩ := blk15 b0
  obtain ⟨⟨⟨e0, e1, e2, e3, e4⟩, ⟨e5, e6, e7, e8, e9⟩, ⟨e10, e11, e12, e13, e14⟩⟩, -⟩ := blk15 b1
  clear b0 b1
  have p0 := gCr d0
  have q0 := gCr e0
  have p1 := gCr d1
  have q1 := gCr e1
  have p2 := gCr d2
  have q2 := gCr e2
  have p3 := gCr d3
  have q3 := gCr e3
  have p4 := gCr d4
  have q4 := gCr e4
  have p5 := gCr d5
  have q5 := gCr e5
  have p6 := gCr d6
  have q6 := gCr e6
  have p7 := gCr d7
  have q7 := gCr e7
  have p8 := gCr d8
  have q8 := gCr e8
  have p9 := gCr d9
  have q9 := gCr e9
  have p10 := gCr d10
  have q10 := gCr e10
  have p11 := gCr d11
  have q11 := gCr e11
  have p12 := gCr d12
  have q12 := gCr e12
  have p13 := gCr d13
  have q13 := gCr e13
  have p14 := gCr d14
  have q14 := gCr e14
  clear d0 e0 d1 e1 d2 e2 d3 e3 d4 e4 d5 e5 d6 e6 d7 e7 d8 e8 d9 e9 d10 e10 d11 e11 d12 e12 d13 e13 d14 e14
  go_enter Tryz.func28, Tryz.ntmps28
  go_upto_region 1 with fail
  rw [HW0.out]
  clear HW0
  go_wp2_with fail
  refine wp_region_quiet_grown (by assumption) (by kernel_rfl) ?_
  dsimp only [List.append]
  repeat (go_big_quiet_step ((go_at_call 27; with_reducible first | exact Calls.grown_of (K1.out _) | exact Calls.grown_of (K2.out _))))
  refine wpQuiet_nil ?_
  intro _ hw'
  obtain ⟨⟨nq, osq⟩, hw''⟩ := hw'
  subst hw''
  have FIN : Hid (Gr W0 (Go.Sort.grow (W0.drewN nq) osq)) := Lib.hid (Gr.of_grow nq osq)
  clear p0 q0 p1 q1 p2 q2 p3 q3 p4 q4 p5 q5 p6 q6 p7 q7 p8 q8 p9 q9 p10 q10 p11 q11 p12 q12 p13 q13 p14 q14 K1 K2
  have GG := Lib.hid (G0.out.trans FIN.out)
  go_wp2_with fail
  go_ret
  exact ⟨rfl, GG.out⟩

set_option maxHeartbeats 16000000 in
set_option maxRecDepth 100000 in
theorem rsb_5 (x y : Lsa) (l1 l2 : List Lnk) (a1 a2 : List Int) (w : World) (hl1 : LnksAt w (.slice x.la x.ln x.lc) l1) (hl2 : LnksAt w (.slice y.la y.ln y.lc) l2) (ha1 : WordsAt w (.slice x.aa x.an x.ac) a1) (ha2 : WordsAt w (.slice y.aa y.an y.ac) a2) (hkey : lkOf x = lkOf y) (hborder : x.border = y.border) (hboundary : x.boundary = y.boundary) (hcost : x.cost = y.cost) (hsecond : x.second = y.second) (hfwd : x.fwd ≠ y.fwd) : Calls Tryz.prog 28 #[.agg (lsaE x).toArray, .agg (lsaE y).toArray] w (EqPost w false) := by
  obtain ⟨xtyp, xid, xlen, xrouter, xseq, xage, xsum, xborder, xboundary, xla, xln, xlc, xaa, xan, xac, xcost, xsecond, xfwd, xtag⟩ := x
  obtain ⟨ytyp, yid, ylen, yrouter, yseq, yage, ysum, yborder, yboundary, yla, yln, ylc, yaa, yan, yac, ycost, ysecond, yfwd, ytag⟩ := y
  simp only [lkOf] at hkey hborder hboundary hcost hsecond hfwd
  simp only at hl1 hl2 ha1 ha2
  obtain rfl := hl1.ln
  obtain rfl := hl2.ln
  obtain rfl := ha1.ln
  obtain rfl := ha2.ln
  have NE := neKk xtyp xid xlen xrouter ytyp yid ylen yrouter
  have hkb : decide ((⟨xtyp, xid, xlen, xrouter⟩ : Kk) = ⟨ytyp, yid, ylen, yrouter⟩) = true := by simpa using hkey
  simp only [hkb, Bool.not_true] at NE
  clear hkb hkey
  subst hborder
  subst hboundary
  subst hcost
  subst hsecond
  have qfwd : (xfwd != yfwd) = true := bne_iff_ne.2 hfwd
  have rfwd : (xfwd == yfwd) = false := beq_eq_false_iff_ne.2 hfwd
  clear hfwd
  have K1 := Lib.hid (fun W => (key_calls xtyp xid xlen xrouter xseq xage xsum W).mono fun _ _ h => (⟨h.1, h.2.grow⟩ : _ ∧ ∃ q os, _ = Go.Sort.grow (World.drewN W q) os))
  have K2 := Lib.hid (fun W => (key_calls ytyp yid ylen yrouter yseq yage ysum W).mono fun _ _ h => (⟨h.1, h.2.grow⟩ : _ ∧ ∃ q os, _ = Go.Sort.grow (World.drewN W q) os))
  have mixed : Tryz.prog.follows .mixedOrders = true := by kernel_rfl
  simp only [keyE] at K1 K2
  simp only [lsaE]
  obtain ⟨W0, hW0⟩ : ∃ W0, (w.alloc (.cells #[.int .i64 xtyp, .int .u32 xid, .int .i64 xlen, .int .u32 xrouter, .int .i64 xseq, .int .i64 xage, .int .i64 xsum, .bool xborder, .bool xboundary, .slice xla l1.length xlc, .slice xaa a1.length xac, .int .i64 xcost, .bool xsecond, .int .u32 xfwd, .int .i64 xtag] 42)).alloc (.cells #[.int .i64 ytyp, .int .u32 yid, .int .i64 ylen, .int .u32 yrouter, .int .i64 yseq, .int .i64 yage, .int .i64 ysum, .bool xborder, .bool xboundary, .slice yla l2.length ylc, .slice yaa a2.length yac, .int .i64 xcost, .bool xsecond, .int .u32 yfwd, .int .i64 ytag] 42) = W0 := ⟨_, rfl⟩
  have b0 : W0.heap[w.heap.size]? = some (.cells #[.int .i64 xtyp, .int .u32 xid, .int .i64 xlen, .int .u32 xrouter, .int .i64 xseq, .int .i64 xage, .int .i64 xsum, .bool xborder, .bool xboundary, .slice xla l1.length xlc, .slice xaa a1.length xac, .int .i64 xcost, .bool xsecond, .int .u32 xfwd, .int .i64 xtag] 42 (0, 0)) := by rw [← hW0]; exact (alloc_get _ _ _ (by simp)).trans (alloc_new w _)
  have b1 : W0.heap[w.heap.size + 1]? = some (.cells #[.int .i64 ytyp, .int .u32 yid, .int .i64 ylen, .int .u32 yrouter, .int .i64 yseq, .int .i64 yage, .int .i64 ysum, .bool xborder, .bool xboundary, .slice yla l2.length ylc, .slice yaa a2.length yac, .int .i64 xcost, .bool xsecond, .int .u32 yfwd, .int .i64 ytag] 42 (0, 0)) := by rw [← hW0]; exact blk_new2 w _ _
  have G0 : Hid (Gr w W0) := Lib.hid (by rw [← hW0]; exact ((Gr.refl _).alloc _).alloc _)
  have HW0 := Lib.hid hW0
  have X0 := Lib.hid b0
  have Y0 := Lib.hid b1
  clear hW0
  clear hl1 hl2 ha1 ha2
  obtain ⟨⟨⟨d0, d1, d2, d3, d4⟩, ⟨d5, d6, d7, d8, d9⟩, ⟨d10, d11, d12, d13, d14⟩⟩, -⟩ := blk15 b0
  obtain ⟨⟨⟨e0, e1, e2, e3, e4⟩, ⟨e5, e6, e7, e8, e9⟩, ⟨e10, e11, e12, e13, e14⟩⟩, -⟩ := blk15 b1
  clear b0 b1
  have p0 := gCr d0
  have q0 := gCr e0
  have p1 := gCr d1
  have q1 := gCr e1
  have p2 := gCr d2
  have q2 := gCr e2
  have p3 := gCr d3
  have q3 := gCr e3
  have p4 := gCr d4
  have q4 := gCr e4
  have p5 := gCr d5
  have q5 := gCr e5
  have p6 := gCr d6
  have q6 := gCr e6
  have p7 := gCr d7
  have q7 := gCr e7
  have p8 := gCr d8
  have q8 := gCr e8
  have p9 := gCr d9
  have q9 := gCr e9
  have p10 := gCr d10
  have q10 := gCr e10
  have p11 := gCr d11
  have q11 := gCr e11
  have p12 := gCr d12
  have q12 := gCr e12
  have p13 := gCr d13
  have q13 := gCr e13
  have p14 := gCr d14
  have q14 := gCr e14
  clear d0 e0 d1 e1 d2 e2 d3 e3 d4 e4 d5 e5 d6 e6 d7 e7 d8 e8 d9 e9 d10 e10 d11 e11 d12 e12 d13 e13 d14 e14
  go_enter Tryz.func28, Tryz.ntmps28
  go_upto_region 1 with fail
  rw [HW0.out]
  clear HW0
  go_wp2_with fail
  refine wp_region_quiet_grown (by assumption) (by kernel_rfl) ?_
  dsimp only [List.append]
  repeat (go_big_quiet_step ((go_at_call 27; with_reducible first | exact Calls.grown_of (K1.out _) | exact Calls.grown_of (K2.out _))))
  refine wpQuiet_nil ?_
  intro _ hw'
  obtain ⟨⟨nq, osq⟩, hw''⟩ := hw'
  subst hw''
  have FIN : Hid (Gr W0 (Go.Sort.grow (W0.drewN nq) osq)) := Lib.hid (Gr.of_grow nq osq)
  clear p0 q0 p1 q1 p2 q2 p3 q3 p4 q4 p5 q5 p6 q6 p7 q7 p8 q8 p9 q9 p10 q10 p11 q11 p12 q12 p13 q13 p14 q14 K1 K2
  have GG := Lib.hid (G0.out.trans FIN.out)
  go_wp2_with fail
  go_ret
  exact ⟨rfl, GG.out⟩

set_option maxHeartbeats 16000000 in
set_option maxRecDepth 100000 in
theorem rsb_6 (x y : Lsa) (l1 l2 : List Lnk) (a1 a2 : List Int) (w : World) (hl1 : LnksAt w (.slice x.la x.ln x.lc) l1) (hl2 : LnksAt w (.slice y.la y.ln y.lc) l2) (ha1 : WordsAt w (.slice x.aa x.an x.ac) a1) (ha2 : WordsAt w (.slice y.aa y.an y.ac) a2) (hkey : lkOf x = lkOf y) (hborder : x.border = y.border) (hboundary : x.boundary = y.boundary) (hcost : x.cost = y.cost) (hsecond : x.second = y.second) (hfwd : x.fwd = y.fwd) (htag : x.tag ≠ y.tag) : Calls Tryz.prog 28 #[.agg (lsaE x).toArray, .agg (lsaE y).toArray] w (EqPost w false) := by
  obtain ⟨xtyp, xid, xlen, xrouter, xseq, xage, xsum, xborder, xboundary, xla, xln, xlc, xaa, xan, xac, xcost, xsecond, xfwd, xtag⟩ := x
  obtain ⟨ytyp, yid, ylen, yrouter, yseq, yage, ysum, yborder, yboundary, yla, yln, ylc, yaa, yan, yac, ycost, ysecond, yfwd, ytag⟩ := y
  simp only [lkOf] at hkey hborder hboundary hcost hsecond hfwd htag
  simp only at hl1 hl2 ha1 ha2
  obtain rfl := hl1.ln
  obtain rfl := hl2.ln
  obtain rfl := ha1.ln
  obtain rfl := ha2.ln
  have NE := neKk xtyp xid xlen xrouter ytyp yid ylen yrouter
  have hkb : decide ((⟨xtyp, xid, xlen, xrouter⟩ : Kk) = ⟨ytyp, yid, ylen, yrouter⟩) = true := by simpa using hkey
  simp only [hkb, Bool.not_true] at NE
  clear hkb hkey
  subst hborder
  subst hboundary
  subst hcost
  subst hsecond
  subst hfwd
  have qtag : (xtag != ytag) = true := bne_iff_ne.2 htag
  have rtag : (xtag == ytag) = false := beq_eq_false_iff_ne.2 htag
  clear htag
  have K1 := Lib.hid (fun W => (key_calls xtyp xid xlen xrouter xseq xage xsum W).mono fun _ _ h => (⟨h.1, h.2.grow⟩ : _ ∧ ∃ q os, _ = Go.Sort.grow (World.drewN W q) os))
  have K2 := Lib.hid (fun W => (key_calls ytyp yid ylen yrouter yseq yage ysum W).mono fun _ _ h => (⟨h.1, h.2.grow⟩ : _ ∧ ∃ q os, _ = Go.Sort.grow (World.drewN W q) os))
  have mixed : Tryz.prog.follows .mixedOrders = true := by kernel_rfl
  simp only [keyE] at K1 K2
  simp only [lsaE]
  obtain ⟨W0, hW0⟩ : ∃ W0, (w.alloc (.cells #[.int .i64 xtyp, .int .u32 xid, .int .i64 xlen, .int .u32 xrouter, .int .i64 xseq, .int .i64 xage, .int .i64 xsum, .bool xborder, .bool xboundary, .slice xla l1.length xlc, .slice xaa a1.length xac, .int .i64 xcost, .bool xsecond, .int .u32 xfwd, .int .i64 xtag] 42)).alloc (.cells #[.int .i64 ytyp, .int .u32 yid, .int .i64 ylen, .int .u32 yrouter, .int .i64 yseq, .int .i64 yage, .int .i64 ysum, .bool xborder, .bool xboundary, .slice yla l2.length ylc, .slice yaa a2.length yac, .int .i64 xcost, .bool xsecond, .int .u32 xfwd, .int .i64 ytag] 42) = W0 := ⟨_, rfl⟩
  have b0 : W0.heap[w.heap.size]? = some (.cells #[.int .i64 xtyp, .int .u32 xid, .int .i64 xlen, .int .u32 xrouter, .int .i64 xseq, .int .i64 xage, .int .i64 xsum, .bool xborder, .bool xboundary, .slice xla l1.length xlc, .slice xaa a1.length xac, .int .i64 xcost, .bool xsecond, .int .u32 xfwd, .int .i64 xtag] 42 (0, 0)) := by rw [← hW0]; exact (alloc_get _ _ _ (by simp)).trans (alloc_new w _)
  have b1 : W0.heap[w.heap.size + 1]? = some (.cells #[.int .i64 ytyp, .int .u32 yid, .int .i64 ylen, .int .u32 yrouter, .int .i64 yseq, .int .i64 yage, .int .i64 ysum, .bool xborder, .bool xboundary, .slice yla l2.length ylc, .slice yaa a2.length yac, .int .i64 xcost, .bool xsecond, .int .u32 xfwd, .int .i64 ytag] 42 (0, 0)) := by rw [← hW0]; exact blk_new2 w _ _
  have G0 : Hid (Gr w W0) := Lib.hid (by rw [← hW0]; exact ((Gr.refl _).alloc _).alloc _)
  have HW0 := Lib.hid hW0
  have X0 := Lib.hid b0
  have Y0 := Lib.hid b1
  clear hW0
  clear hl1 hl2 ha1 ha2
  obtain ⟨⟨⟨d0, d1, d2, d3, d4⟩, ⟨d5, d6, d7, d8, d9⟩, ⟨d10, d11, d12, d13, d14⟩⟩, -⟩ := blk15 b0
  obtain ⟨⟨⟨e0, e1, e2, e3, e4⟩, ⟨e5, e6, e7, e8, e9⟩, ⟨e10, e11, e12, e13, e14⟩⟩, -⟩ := blk15 b1
  clear b0 b1
  have p0 := gCr d0
  have q0 := gCr e0
  have p1 := gCr d1
  have q1 := gCr e1
  have p2 := gCr d2
  have q2 := gCr e2
  have p3 := gCr d3
  have q3 := gCr e3
  have p4 := gCr d4
  have q4 := gCr e4
  have p5 := gCr d5
  have q5 := gCr e5
  have p6 := gCr d6
  have q6 := gCr e6
  have p7 := gCr d7
  have q7 := gCr e7
  have p8 := gCr d8
  have q8 := gCr e8
  have p9 := gCr d9
  have q9 := gCr e9
  have p10 := gCr d10
  have q10 := gCr e10
  have p11 := gCr d11
  have q11 := gCr e11
  have p12 := gCr d12
  have q12 := gCr e12
  have p13 := gCr d13
  have q13 := gCr e13
  have p14 := gCr d14
  have q14 := gCr e14
  clear d0 e0 d1 e1 d2 e2 d3 e3 d4 e4 d5 e5 d6 e6 d7 e7 d8 e8 d9 e9 d10 e10 d11 e11 d12 e12 d13 e13 d14 e14
  go_enter Tryz.func28, Tryz.ntmps28
  go_upto_region 1 with fail
  rw [HW0.out]
  clear HW0
  go_wp2_with fail
  refine wp_region_quiet_grown (by assumption) (by kernel_rfl) ?_
  dsimp only [List.append]
  repeat (go_big_quiet_step ((go_at_call 27; with_reducible first | exact Calls.grown_of (K1.out _) | exact Calls.grown_of (K2.out _))))
  refine wpQuiet_nil ?_
  intro _ hw'
  obtain ⟨⟨nq, osq⟩, hw''⟩ := hw'
  subst hw''
  have FIN : Hid (Gr W0 (Go.Sort.grow (W0.drewN nq) osq)) := Lib.hid (Gr.of_grow nq osq)
  clear p0 q0 p1 q1 p2 q2 p3 q3 p4 q4 p5 q5 p6 q6 p7 q7 p8 q8 p9 q9 p10 q10 p11 q11 p12 q12 p13 q13 p14 q14 K1 K2
  have GG := Lib.hid (G0.out.trans FIN.out)
  go_wp2_with fail
  go_ret
  exact ⟨rfl, GG.out⟩

set_option maxHeartbeats 16000000 in
set_option maxRecDepth 100000 in
theorem rsb_7 (x y : Lsa) (l1 l2 : List Lnk) (a1 a2 : List Int) (w : World) (hl1 : LnksAt w (.slice x.la x.ln x.lc) l1) (hl2 : LnksAt w (.slice y.la y.ln y.lc) l2) (ha1 : WordsAt w (.slice x.aa x.an x.ac) a1) (ha2 : WordsAt w (.slice y.aa y.an y.ac) a2) (hkey : lkOf x = lkOf y) (hborder : x.border = y.border) (hboundary : x.boundary = y.boundary) (hcost : x.cost = y.cost) (hsecond : x.second = y.second) (hfwd : x.fwd = y.fwd) (htag : x.tag = y.tag) (hL : l1.length ≠ l2.length) : Calls Tryz.prog 28 #[.agg (lsaE x).toArray, .agg (lsaE y).toArray] w (EqPost w false) := by
  obtain ⟨xtyp, xid, xlen, xrouter, xseq, xage, xsum, xborder, xboundary, xla, xln, xlc, xaa, xan, xac, xcost, xsecond, xfwd, xtag⟩ := x
  obtain ⟨ytyp, yid, ylen, yrouter, yseq, yage, ysum, yborder, yboundary, yla, yln, ylc, yaa, yan, yac, ycost, ysecond, yfwd, ytag⟩ := y
  simp only [lkOf] at hkey hborder hboundary hcost hsecond hfwd htag
  simp only at hl1 hl2 ha1 ha2
  obtain rfl := hl1.ln
  obtain rfl := hl2.ln
  obtain rfl := ha1.ln
  obtain rfl := ha2.ln
  have NE := neKk xtyp xid xlen xrouter ytyp yid ylen yrouter
  have hkb : decide ((⟨xtyp, xid, xlen, xrouter⟩ : Kk) = ⟨ytyp, yid, ylen, yrouter⟩) = true := by simpa using hkey
  simp only [hkb, Bool.not_true] at NE
  clear hkb hkey
  subst hborder
  subst hboundary
  subst hcost
  subst hsecond
  subst hfwd
  subst htag
  have qL : ((l1.length : Int) != (l2.length : Int)) = true := by simp; omega
  have rL : ((l1.length : Int) == (l2.length : Int)) = false := by simp; omega
  clear hL
  have K1 := Lib.hid (fun W => (key_calls xtyp xid xlen xrouter xseq xage xsum W).mono fun _ _ h => (⟨h.1, h.2.grow⟩ : _ ∧ ∃ q os, _ = Go.Sort.grow (World.drewN W q) os))
  have K2 := Lib.hid (fun W => (key_calls ytyp yid ylen yrouter yseq yage ysum W).mono fun _ _ h => (⟨h.1, h.2.grow⟩ : _ ∧ ∃ q os, _ = Go.Sort.grow (World.drewN W q) os))
  have mixed : Tryz.prog.follows .mixedOrders = true := by kernel_rfl
  simp only [keyE] at K1 K2
  simp only [lsaE]
  obtain ⟨W0, hW0⟩ : ∃ W0, (w.alloc (.cells #[.int .i64 xtyp, .int .u32 xid, .int .i64 xlen, .int .u32 xrouter, .int .i64 xseq, .int .i64 xage, .int .i64 xsum, .bool xborder, .bool xboundary, .slice xla l1.length xlc, .slice xaa a1.length xac, .int .i64 xcost, .bool xsecond, .int .u32 xfwd, .int .i64 xtag] 42)).alloc (.cells #[.int .i64 ytyp, .int .u32 yid, .int .i64 ylen, .int .u32 yrouter, .int .i64 yseq, .int .i64 yage, .int .i64 ysum, .bool xborder, .bool xboundary, .slice yla l2.length ylc, .slice yaa a2.length yac, .int .i64 xcost, .bool xsecond, .int .u32 xfwd, .int .i64 xtag] 42) = W0 := ⟨_, rfl⟩
  have b0 : W0.heap[w.heap.size]? = some (.cells #[.int .i64 xtyp, .int .u32 xid, .int .i64 xlen, .int .u32 xrouter, .int .i64 xseq, .int .i64 xage, .int .i64 xsum, .bool xborder, .bool xboundary, .slice xla l1.length xlc, .slice xaa a1.length xac, .int .i64 xcost, .bool xsecond, .int .u32 xfwd, .int .i64 xtag] 42 (0, 0)) := by rw [← hW0]; exact (alloc_get _ _ _ (by simp)).trans (alloc_new w _)
  have b1 : W0.heap[w.heap.size + 1]? = some (.cells #[.int .i64 ytyp, .int .u32 yid, .int .i64 ylen, .int .u32 yrouter, .int .i64 yseq, .int .i64 yage, .int .i64 ysum, .bool xborder, .bool xboundary, .slice yla l2.length ylc, .slice yaa a2.length yac, .int .i64 xcost, .bool xsecond, .int .u32 xfwd, .int .i64 xtag] 42 (0, 0)) := by rw [← hW0]; exact blk_new2 w _ _
  have G0 : Hid (Gr w W0) := Lib.hid (by rw [← hW0]; exact ((Gr.refl _).alloc _).alloc _)
  have HW0 := Lib.hid hW0
  have X0 := Lib.hid b0
  have Y0 := Lib.hid b1
  clear hW0
  clear hl1 hl2 ha1 ha2
  obtain ⟨⟨⟨d0, d1, d2, d3, d4⟩, ⟨d5, d6, d7, d8, d9⟩, ⟨d10, d11, d12, d13, d14⟩⟩, -⟩ := blk15 b0
  obtain ⟨⟨⟨e0, e1, e2, e3, e4⟩, ⟨e5, e6, e7, e8, e9⟩, ⟨e10, e11, e12, e13, e14⟩⟩, -⟩ := blk15 b1
  clear b0 b1
  have p0 := gCr d0
  have q0 := gCr e0
  have p1 := gCr d1
  have q1 := gCr e1
  have p2 := gCr d2
  have q2 := gCr e2
  have p3 := gCr d3
  have q3 := gCr e3
  have p4 := gCr d4
  have q4 := gCr e4
  have p5 := gCr d5
  have q5 := gCr e5
  have p6 := gCr d6
  have q6 := gCr e6
  have p7 := gCr d7
  have q7 := gCr e7
  have p8 := gCr d8
  have q8 := gCr e8
  have p9 := gCr d9
  have q9 := gCr e9
  have p10 := gCr d10
  have q10 := gCr e10
  have p11 := gCr d11
  have q11 := gCr e11
  have p12 := gCr d12
  have q12 := gCr e12
  have p13 := gCr d13
  have q13 := gCr e13
  have p14 := gCr d14
  have q14 := gCr e14
  clear d0 e0 d1 e1 d2 e2 d3 e3 d4 e4 d5 e5 d6 e6 d7 e7 d8 e8 d9 e9 d10 e10 d11 e11 d12 e12 d13 e13 d14 e14
  go_enter Tryz.func28, Tryz.ntmps28
  go_upto_region 1 with fail
  rw [HW0.out]
  clear HW0
  go_wp2_with fail
  refine wp_region_quiet_grown (by assumption) (by kernel_rfl) ?_
  dsimp only [List.append]
  repeat (go_big_quiet_step ((go_at_call 27; with_reducible first | exact Calls.grown_of (K1.out _) | exact Calls.grown_of (K2.out _))))
  refine wpQuiet_nil ?_
  intro _ hw'
  obtain ⟨⟨nq, osq⟩, hw''⟩ := hw'
  subst hw''
  have FIN : Hid (Gr W0 (Go.Sort.grow (W0.drewN nq) osq)) := Lib.hid (Gr.of_grow nq osq)
  clear p0 q0 p1 q1 p2 q2 p3 q3 p4 q4 p5 q5 p6 q6 p7 q7 p8 q8 p9 q9 p10 q10 p11 q11 p12 q12 p13 q13 p14 q14 K1 K2
  have GG := Lib.hid (G0.out.trans FIN.out)
  go_wp2_with fail
  go_ret
  exact ⟨rfl, GG.out⟩

set_option maxHeartbeats 16000000 in
set_option maxRecDepth 100000 in
theorem rsb_8 (x y : Lsa) (l1 l2 : List Lnk) (a1 a2 : List Int) (w : World) (hl1 : LnksAt w (.slice x.la x.ln x.lc) l1) (hl2 : LnksAt w (.slice y.la y.ln y.lc) l2) (ha1 : WordsAt w (.slice x.aa x.an x.ac) a1) (ha2 : WordsAt w (.slice y.aa y.an y.ac) a2) (hkey : lkOf x = lkOf y) (hborder : x.border = y.border) (hboundary : x.boundary = y.boundary) (hcost : x.cost = y.cost) (hsecond : x.second = y.second) (hfwd : x.fwd = y.fwd) (htag : x.tag = y.tag) (hL : l1.length = l2.length) (hA : a1.length ≠ a2.length) : Calls Tryz.prog 28 #[.agg (lsaE x).toArray, .agg (lsaE y).toArray] w (EqPost w false) := by
  obtain ⟨xtyp, xid, xlen, xrouter, xseq, xage, xsum, xborder, xboundary, xla, xln, xlc, xaa, xan, xac, xcost, xsecond, xfwd, xtag⟩ := x
  obtain ⟨ytyp, yid, ylen, yrouter, yseq, yage, ysum, yborder, yboundary, yla, yln, ylc, yaa, yan, yac, ycost, ysecond, yfwd, ytag⟩ := y
  simp only [lkOf] at hkey hborder hboundary hcost hsecond hfwd htag
  simp only at hl1 hl2 ha1 ha2
  obtain rfl := hl1.ln
  obtain rfl := hl2.ln
  obtain rfl := ha1.ln
  obtain rfl := ha2.ln
  have NE := neKk xtyp xid xlen xrouter ytyp yid ylen yrouter
  have hkb : decide ((⟨xtyp, xid, xlen, xrouter⟩ : Kk) = ⟨ytyp, yid, ylen, yrouter⟩) = true := by simpa using hkey
  simp only [hkb, Bool.not_true] at NE
  clear hkb hkey
  subst hborder
  subst hboundary
  subst hcost
  subst hsecond
  subst hfwd
  subst htag
  have qL : ((l1.length : Int) != (l2.length : Int)) = false := by simp; omega
  have rL : ((l1.length : Int) == (l2.length : Int)) = true := by simp; omega
  clear hL
  have qA : ((a1.length : Int) != (a2.length : Int)) = true := by simp; omega
  have rA : ((a1.length : Int) == (a2.length : Int)) = false := by simp; omega
  clear hA
  have K1 := Lib.hid (fun W => (key_calls xtyp xid xlen xrouter xseq xage xsum W).mono fun _ _ h => (⟨h.1, h.2.grow⟩ : _ ∧ ∃ q os, _ = Go.Sort.grow (World.drewN W q) os))
  have K2 := Lib.hid (fun W => (key_calls ytyp yid ylen yrouter yseq yage ysum W).mono fun _ _ h => (⟨h.1, h.2.grow⟩ : _ ∧ ∃ q os, _ = Go.Sort.grow (World.drewN W q) os))
  have mixed : Tryz.prog.follows .mixedOrders = true := by kernel_rfl
  simp only [keyE] at K1 K2
  simp only [lsaE]
  obtain ⟨W0, hW0⟩ : ∃ W0, (w.alloc (.cells #[.int .i64 xtyp, .int .u32 xid, .int .i64 xlen, .int .u32 xrouter, .int .i64 xseq, .int .i64 xage, .int .i64 xsum, .bool xborder, .bool xboundary, .slice xla l1.length xlc, .slice xaa a1.length xac, .int .i64 xcost, .bool xsecond, .int .u32 xfwd, .int .i64 xtag] 42)).alloc (.cells #[.int .i64 ytyp, .int .u32 yid, .int .i64 ylen, .int .u32 yrouter, .int .i64 yseq, .int .i64 yage, .int .i64 ysum, .bool xborder, .bool xboundary, .slice yla l2.length ylc, .slice yaa a2.length yac, .int .i64 xcost, .bool xsecond, .int .u32 xfwd, .int .i64 xtag] 42) = W0 := ⟨_, rfl⟩
  have b0 : W0.heap[w.heap.size]? = some (.cells #[.int .i64 xtyp, .int .u32 xid, .int .i64 xlen, .int .u32 xrouter, .int .i64 xseq, .int .i64 xage, .int .i64 xsum, .bool xborder, .bool xboundary, .slice xla l1.length xlc, .slice xaa a1.length xac, .int .i64 xcost, .bool xsecond, .int .u32 xfwd, .int .i64 xtag] 42 (0, 0)) := by rw [← hW0]; exact (alloc_get _ _ _ (by simp)).trans (alloc_new w _)
  have b1 : W0.heap[w.heap.size + 1]? = some (.cells #[.int .i64 ytyp, .int .u32 yid, .int .i64 ylen, .int .u32 yrouter, .int .i64 yseq, .int .i64 yage, .int .i64 ysum, .bool xborder, .bool xboundary, .slice yla l2.length ylc, .slice yaa a2.length yac, .int .i64 xcost, .bool xsecond, .int .u32 xfwd, .int .i64 xtag] 42 (0, 0)) := by rw [← hW0]; exact blk_new2 w _ _
  have G0 : Hid (Gr w W0) := Lib.hid (by rw [← hW0]; exact ((Gr.refl _).alloc _).alloc _)
  have HW0 := Lib.hid hW0
  have X0 := Lib.hid b0
  have Y0 := Lib.hid b1
  clear hW0
  clear hl1 hl2 ha1 ha2
  obtain ⟨⟨⟨d0, d1, d2, d3, d4⟩, ⟨d5, d6, d7, d8, d9⟩, ⟨d10, d11, d12, d13, d14⟩⟩, -⟩ := blk15 b0
  obtain ⟨⟨⟨e0, e1, e2, e3, e4⟩, ⟨e5, e6, e7, e8, e9⟩, ⟨e10, e11, e12, e13, e14⟩⟩, -⟩ := blk15 b1
  clear b0 b1
  have p0 := gCr d0
  have q0 := gCr e0
  have p1 := gCr d1
  have q1 := gCr e1
  have p2 := gCr d2
  have q2 := gCr e2
  have p3 := gCr d3
  have q3 := gCr e3
  have p4 := gCr d4
  have q4 := gCr e4
  have p5 := gCr d5
  have q5 := gCr e5
  have p6 := gCr d6
  have q6 := gCr e6
  have p7 := gCr d7
  have q7 := gCr e7
  have p8 := gCr d8
  have q8 := gCr e8
  have p9 := gCr d9
  have q9 := gCr e9
  have p10 := gCr d10
  have q10 := gCr e10
  have p11 := gCr d11
  have q11 := gCr e11
  have p12 := gCr d12
  have q12 := gCr e12
  have p13 := gCr d13
  have q13 := gCr e13
  have p14 := gCr d14
  have q14 := gCr e14
  clear d0 e0 d1 e1 d2 e2 d3 e3 d4 e4 d5 e5 d6 e6 d7 e7 d8 e8 d9 e9 d10 e10 d11 e11 d12 e12 d13 e13 d14 e14
  go_enter Tryz.func28, Tryz.ntmps28
  go_upto_region 1 with fail
  rw [HW0.out]
  clear HW0
  go_wp2_with fail
  refine wp_region_quiet_grown (by assumption) (by kernel_rfl) ?_
  dsimp only [List.append]
  repeat (go_big_quiet_step ((go_at_call 27; with_reducible first | exact Calls.grown_of (K1.out _) | exact Calls.grown_of (K2.out _))))
  refine wpQuiet_nil ?_
  intro _ hw'
  obtain ⟨⟨nq, osq⟩, hw''⟩ := hw'
  subst hw''
  have FIN : Hid (Gr W0 (Go.Sort.grow (W0.drewN nq) osq)) := Lib.hid (Gr.of_grow nq osq)
  clear p0 q0 p1 q1 p2 q2 p3 q3 p4 q4 p5 q5 p6 q6 p7 q7 p8 q8 p9 q9 p10 q10 p11 q11 p12 q12 p13 q13 p14 q14 K1 K2
  have GG := Lib.hid (G0.out.trans FIN.out)
  go_wp2_with fail
  go_ret
  exact ⟨rfl, GG.out⟩

set_option maxHeartbeats 16000000 in
set_option maxRecDepth 100000 in
theorem rsb_9 (x y : Lsa) (l1 l2 : List Lnk) (a1 a2 : List Int) (w : World) (hl1 : LnksAt w (.slice x.la x.ln x.lc) l1) (hl2 : LnksAt w (.slice y.la y.ln y.lc) l2) (ha1 : WordsAt w (.slice x.aa x.an x.ac) a1) (ha2 : WordsAt w (.slice y.aa y.an y.ac) a2) (hkey : lkOf x = lkOf y) (hborder : x.border = y.border) (hboundary : x.boundary = y.boundary) (hcost : x.cost = y.cost) (hsecond : x.second = y.second) (hfwd : x.fwd = y.fwd) (htag : x.tag = y.tag) (hL : l1.length = l2.length) (hA : a1.length = a2.length) : Calls Tryz.prog 28 #[.agg (lsaE x).toArray, .agg (lsaE y).toArray] w (EqPost w (decide (l1 = l2 ∧ a1 = a2))) := by
  obtain ⟨xtyp, xid, xlen, xrouter, xseq, xage, xsum, xborder, xboundary, xla, xln, xlc, xaa, xan, xac, xcost, xsecond, xfwd, xtag⟩ := x
  obtain ⟨ytyp, yid, ylen, yrouter, yseq, yage, ysum, yborder, yboundary, yla, yln, ylc, yaa, yan, yac, ycost, ysecond, yfwd, ytag⟩ := y
  simp only [lkOf] at hkey hborder hboundary hcost hsecond hfwd htag
  simp only at hl1 hl2 ha1 ha2
  obtain rfl := hl1.ln
  obtain rfl := hl2.ln
  obtain rfl := ha1.ln
  obtain rfl := ha2.ln
  have NE := neKk xtyp xid xlen xrouter ytyp yid ylen yrouter
  have hkb : decide ((⟨xtyp, xid, xlen, xrouter⟩ : Kk) = ⟨ytyp, yid, ylen, yrouter⟩) = true := by simpa using hkey
  simp only [hkb, Bool.not_true] at NE
  clear hkb hkey
  subst hborder
  subst hboundary
  subst hcost
  subst hsecond
  subst hfwd
  subst htag
  have qL : ((l1.length : Int) != (l2.length : Int)) = false := by simp; omega
  have rL : ((l1.length : Int) == (l2.length : Int)) = true := by simp; omega
  have qA : ((a1.length : Int) != (a2.length : Int)) = false := by simp; omega
  have rA : ((a1.length : Int) == (a2.length : Int)) = true := by simp; omega
  have K1 := Lib.hid (fun W => (key_calls xtyp xid xlen xrouter xseq xage xsum W).mono fun _ _ h => (⟨h.1, h.2.grow⟩ : _ ∧ ∃ q os, _ = Go.Sort.grow (World.drewN W q) os))
  have K2 := Lib.hid (fun W => (key_calls ytyp yid ylen yrouter yseq yage ysum W).mono fun _ _ h => (⟨h.1, h.2.grow⟩ : _ ∧ ∃ q os, _ = Go.Sort.grow (World.drewN W q) os))
  have mixed : Tryz.prog.follows .mixedOrders = true := by kernel_rfl
  simp only [keyE] at K1 K2
  simp only [lsaE]
  obtain ⟨W0, hW0⟩ : ∃ W0, (w.alloc (.cells #[.int .i64 xtyp, .int .u32 xid, .int .i64 xlen, .int .u32 xrouter, .int .i64 xseq, .int .i64 xage, .int .i64 xsum, .bool xborder, .bool xboundary, .slice xla l1.length xlc, .slice xaa a1.length xac, .int .i64 xcost, .bool xsecond, .int .u32 xfwd, .int .i64 xtag] 42)).alloc (.cells #[.int .i64 ytyp, .int .u32 yid, .int .i64 ylen, .int .u32 yrouter, .int .i64 yseq, .int .i64 yage, .int .i64 ysum, .bool xborder, .bool xboundary, .slice yla l2.length ylc, .slice yaa a2.length yac, .int .i64 xcost, .bool xsecond, .int .u32 xfwd, .int .i64 xtag] 42) = W0 := ⟨_, rfl⟩
  have b0 : W0.heap[w.heap.size]? = some (.cells #[.int .i64 xtyp, .int .u32 xid, .int .i64 xlen, .int .u32 xrouter, .int .i64 xseq, .int .i64 xage, .int .i64 xsum, .bool xborder, .bool xboundary, .slice xla l1.length xlc, .slice xaa a1.length xac, .int .i64 xcost, .bool xsecond, .int .u32 xfwd, .int .i64 xtag] 42 (0, 0)) := by rw [← hW0]; exact (alloc_get _ _ _ (by simp)).trans (alloc_new w _)
  have b1 : W0.heap[w.heap.size + 1]? = some (.cells #[.int .i64 ytyp, .int .u32 yid, .int .i64 ylen, .int .u32 yrouter, .int .i64 yseq, .int .i64 yage, .int .i64 ysum, .bool xborder, .bool xboundary, .slice yla l2.length ylc, .slice yaa a2.length yac, .int .i64 xcost, .bool xsecond, .int .u32 xfwd, .int .i64 xtag] 42 (0, 0)) := by rw [← hW0]; exact blk_new2 w _ _
  have G0 : Hid (Gr w W0) := Lib.hid (by rw [← hW0]; exact ((Gr.refl _).alloc _).alloc _)
  have HW0 := Lib.hid hW0
  have X0 := Lib.hid b0
  have Y0 := Lib.hid b1
  clear hW0
  obtain ⟨_, _, ea, hc1⟩ := hl1.get
  cases ea
  obtain ⟨_, _, ea, hc2⟩ := hl2.get
  cases ea
  obtain ⟨_, _, ea, hc3⟩ := ha1.get
  cases ea
  obtain ⟨_, _, ea, hc4⟩ := ha2.get
  cases ea
  have hlen1 : l1.length ≤ 9223372036854775807 := SlV.len hl1 |> fun h => by simpa using h
  have hlen3 : a1.length ≤ 9223372036854775807 := SlV.len ha1 |> fun h => by simpa using h
  have HC1 := Lib.hid hc1
  have HC2 := Lib.hid hc2
  have HC3 := Lib.hid hc3
  have HC4 := Lib.hid hc4
  have HL := Lib.hid hL
  have HA := Lib.hid hA
  clear hc1 hc2 hc3 hc4 hL hA
  clear hl1 hl2 ha1 ha2
  obtain ⟨⟨⟨d0, d1, d2, d3, d4⟩, ⟨d5, d6, d7, d8, d9⟩, ⟨d10, d11, d12, d13, d14⟩⟩, -⟩ := blk15 b0
  obtain ⟨⟨⟨e0, e1, e2, e3, e4⟩, ⟨e5, e6, e7, e8, e9⟩, ⟨e10, e11, e12, e13, e14⟩⟩, -⟩ := blk15 b1
  clear b0 b1
  have p0 := gCr d0
  have q0 := gCr e0
  have p1 := gCr d1
  have q1 := gCr e1
  have p2 := gCr d2
  have q2 := gCr e2
  have p3 := gCr d3
  have q3 := gCr e3
  have p4 := gCr d4
  have q4 := gCr e4
  have p5 := gCr d5
  have q5 := gCr e5
  have p6 := gCr d6
  have q6 := gCr e6
  have p7 := gCr d7
  have q7 := gCr e7
  have p8 := gCr d8
  have q8 := gCr e8
  have p9 := gCr d9
  have q9 := gCr e9
  have p10 := gCr d10
  have q10 := gCr e10
  have p11 := gCr d11
  have q11 := gCr e11
  have p12 := gCr d12
  have q12 := gCr e12
  have p13 := gCr d13
  have q13 := gCr e13
  have p14 := gCr d14
  have q14 := gCr e14
  clear d0 e0 d1 e1 d2 e2 d3 e3 d4 e4 d5 e5 d6 e6 d7 e7 d8 e8 d9 e9 d10 e10 d11 e11 d12 e12 d13 e13 d14 e14
  go_enter Tryz.func28, Tryz.ntmps28
  go_upto_region 1 with fail
  rw [HW0.out]
  clear HW0
  go_wp2_with fail
  refine wp_region_quiet_grown (by assumption) (by kernel_rfl) ?_
  dsimp only [List.append]
  repeat (go_big_quiet_step ((go_at_call 27; with_reducible first | exact Calls.grown_of (K1.out _) | exact Calls.grown_of (K2.out _))))
  refine wpQuiet_nil ?_
  intro _ hw'
  obtain ⟨⟨nq, osq⟩, hw''⟩ := hw'
  subst hw''
  have FIN : Hid (Gr W0 (Go.Sort.grow (W0.drewN nq) osq)) := Lib.hid (Gr.of_grow nq osq)
  clear p0 q0 p1 q1 p2 q2 p3 q3 p4 q4 p5 q5 p6 q6 p7 q7 p8 q8 p9 q9 p10 q10 p11 q11 p12 q12 p13 q13 p14 q14 K1 K2
  go_wp2_with fail
  go_loopw [5] (fun ix wr => ∃ k : Nat, ix = .int .i64 k ∧ k ≤ l1.length ∧ Hid (Gr W0 wr) ∧ Hid (∀ i (h1 : i < l1.length) (h2 : i < l2.length), i < k → l1[i] = l2[i])) (fun ix _ => l1.length - (intOf ix).toNat)
  case atStart => exact ⟨0, rfl, Nat.zero_le _, FIN, Lib.hid (fun i _ _ h => absurd h (Nat.not_lt_zero _))⟩
  case round =>
    obtain ⟨k, rfl, hk, R, ALL⟩ := hrel
    have bX := (R.out.b.block _ (blk_lt X0.out)).trans X0.out
    have bY := (R.out.b.block _ (blk_lt Y0.out)).trans Y0.out
    have c9 : wr.cell? ⟨w.heap.size, 9, none⟩ = some (.slice xla l1.length xlc) := blk_cell bX rfl
    have d9 : wr.cell? ⟨w.heap.size + 1, 9, none⟩ = some (.slice yla l2.length ylc) := blk_cell bY rfl
    clear bX bY
    by_cases c : k < l1.length
    · have c2' : k < l2.length := by have := HL.out; omega
      obtain ⟨g1, o1, rfl, hb1, hcc1⟩ := HC1.out (by omega)
      obtain ⟨g2, o2, rfl, hb2, hcc2⟩ := HC2.out (by omega)
      have RW := Lib.hid (G0.out.trans R.out)
      obtain ⟨s0, s1, s2, s3'⟩ := hcc1 k c
      obtain ⟨t0, t1, t2, t3⟩ := hcc2 k c2'
      replace s0 := (RW.out.b.cell hb1).trans s0
      replace s1 := (RW.out.b.cell hb1).trans s1
      replace s2 := (RW.out.b.cell hb1).trans s2
      replace s3' := (RW.out.b.cell hb1).trans s3'
      replace t0 := (RW.out.b.cell hb2).trans t0
      replace t1 := (RW.out.b.cell hb2).trans t1
      replace t2 := (RW.out.b.cell hb2).trans t2
      replace t3 := (RW.out.b.cell hb2).trans t3
      have i1 : (k : Int) < (l1.length : Int) := by omega
      have i2 : (k : Int) < (l2.length : Int) := by omega
      have i0 : (0 : Int) ≤ (k : Int) := by omega
      have s3 : ((k : Int)).toNat = k := by omega
      have YES : Hid (l1[k] = l2[k] → ∀ i (h1 : i < l1.length) (h2 : i < l2.length), i < k + 1 → l1[i] = l2[i]) := Lib.hid (fun h i h1 h2 hi => by
        rcases Nat.lt_or_ge i k with h' | h'
        · exact ALL.out i h1 h2 h'
        · obtain rfl : i = k := by omega
          exact h)
      have NO : Hid (l1[k] ≠ l2[k] → false = decide (l1 = l2 ∧ a1 = a2)) := Lib.hid (fun h => by
        rw [eq_comm, decide_eq_false_iff_not]; rintro ⟨he, hf⟩; first | (subst he; exact h rfl) | (subst hf; exact h rfl))
      have NXD : Hid (∀ n os, Gr W0 (Go.Sort.grow (wr.drewN n) os)) := Lib.hid (fun n os => R.out.trans (Gr.of_grow n os))
      clear hcc1 hcc2 ALL
      generalize l1[k] = z1 at *
      generalize l2[k] = z2 at *
      by_cases q : z1 = z2
      · have NX := Lib.hid (YES.out q)
        subst q
        clear YES NO
        have NL := neLnk z1 z1
        rw [show decide (z1 ≠ z1) = false by simp] at NL
        obtain ⟨m1, m2, m3, m4⟩ := z1
        simp only [lnkE] at NL s0 s1 s2 s3' t0 t1 t2 t3
        have ps0 := fun n os => cell_grown (World.block_lt_of_cell? _ _ s0) s0 n os
        have ps1 := fun n os => cell_grown (World.block_lt_of_cell? _ _ s1) s1 n os
        have ps2 := fun n os => cell_grown (World.block_lt_of_cell? _ _ s2) s2 n os
        have ps3 := fun n os => cell_grown (World.block_lt_of_cell? _ _ s3') s3' n os
        have pt0 := fun n os => cell_grown (World.block_lt_of_cell? _ _ t0) t0 n os
        have pt1 := fun n os => cell_grown (World.block_lt_of_cell? _ _ t1) t1 n os
        have pt2 := fun n os => cell_grown (World.block_lt_of_cell? _ _ t2) t2 n os
        have pt3 := fun n os => cell_grown (World.block_lt_of_cell? _ _ t3) t3 n os
        have pc := fun n os => cell_grown (World.block_lt_of_cell? _ _ c9) c9 n os
        have pd := fun n os => cell_grown (World.block_lt_of_cell? _ _ d9) d9 n os
        clear s0 s1 s2 s3' t0 t1 t2 t3
        go_wp2_with fail
        refine wp_region_quiet_grown (by assumption) (by kernel_rfl) ?_
        repeat (go_big_quiet_step (fail))
        refine wpQuiet_nil ?_
        intro _ hw'
        obtain ⟨⟨nq, osq⟩, hw''⟩ := hw'
        subst hw''
        have NXG := Lib.hid (NXD.out nq osq)
        clear ps0 ps1 ps2 ps3 pt0 pt1 pt2 pt3 pc pd
        go_wp2_with fail
        go_roundw
        case rel => exact ⟨k + 1, by go_num, c, NXG, NX⟩
        case measure => simp [intOf]; omega
      · have FI := Lib.hid (NO.out q)
        have NL := neLnk z1 z2
        rw [show decide (z1 ≠ z2) = true by simpa using q] at NL
        clear YES NO q
        obtain ⟨m1, m2, m3, m4⟩ := z1
        obtain ⟨n1, n2', n3, n4⟩ := z2
        simp only [lnkE] at NL s0 s1 s2 s3' t0 t1 t2 t3
        have ps0 := fun n os => cell_grown (World.block_lt_of_cell? _ _ s0) s0 n os
        have ps1 := fun n os => cell_grown (World.block_lt_of_cell? _ _ s1) s1 n os
        have ps2 := fun n os => cell_grown (World.block_lt_of_cell? _ _ s2) s2 n os
        have ps3 := fun n os => cell_grown (World.block_lt_of_cell? _ _ s3') s3' n os
        have pt0 := fun n os => cell_grown (World.block_lt_of_cell? _ _ t0) t0 n os
        have pt1 := fun n os => cell_grown (World.block_lt_of_cell? _ _ t1) t1 n os
        have pt2 := fun n os => cell_grown (World.block_lt_of_cell? _ _ t2) t2 n os
        have pt3 := fun n os => cell_grown (World.block_lt_of_cell? _ _ t3) t3 n os
        have pc := fun n os => cell_grown (World.block_lt_of_cell? _ _ c9) c9 n os
        have pd := fun n os => cell_grown (World.block_lt_of_cell? _ _ d9) d9 n os
        clear s0 s1 s2 s3' t0 t1 t2 t3
        go_wp2_with fail
        refine wp_region_quiet_grown (by assumption) (by kernel_rfl) ?_
        repeat (go_big_quiet_step (fail))
        refine wpQuiet_nil ?_
        intro _ hw'
        obtain ⟨⟨nq, osq⟩, hw''⟩ := hw'
        subst hw''
        have NXG := Lib.hid (NXD.out nq osq)
        clear ps0 ps1 ps2 ps3 pt0 pt1 pt2 pt3 pc pd
        go_wp2_with fail
        go_ret
        exact ⟨by rw [← FI.out]; rfl, G0.out.trans NXG.out⟩
    · have ek : k = l1.length := by omega
      have El : Hid (l1 = l2) := Lib.hid (List.ext_getElem HL.out (fun i h1 h2 => ALL.out i h1 h2 (by omega)))
      have Rl := R
      clear R ALL
      go_wp2_with fail
      clear c9 d9 ek c hk
      go_loopw [6] (fun ix wr => ∃ k : Nat, ix = .int .i64 k ∧ k ≤ a1.length ∧ Hid (Gr W0 wr) ∧ Hid (∀ i (h1 : i < a1.length) (h2 : i < a2.length), i < k → a1[i] = a2[i])) (fun ix _ => a1.length - (intOf ix).toNat)
      case atStart => exact ⟨0, rfl, Nat.zero_le _, Rl, Lib.hid (fun i _ _ h => absurd h (Nat.not_lt_zero _))⟩
      case round =>
        obtain ⟨k, rfl, hk, R, ALL⟩ := hrel
        have bX := (R.out.b.block _ (blk_lt X0.out)).trans X0.out
        have bY := (R.out.b.block _ (blk_lt Y0.out)).trans Y0.out
        have c9 : wr.cell? ⟨w.heap.size, 10, none⟩ = some (.slice xaa a1.length xac) := blk_cell bX rfl
        have d9 : wr.cell? ⟨w.heap.size + 1, 10, none⟩ = some (.slice yaa a2.length yac) := blk_cell bY rfl
        clear bX bY
        by_cases c : k < a1.length
        · have c2' : k < a2.length := by have := HA.out; omega
          obtain ⟨g1, o1, rfl, hb1, hcc1⟩ := HC3.out (by omega)
          obtain ⟨g2, o2, rfl, hb2, hcc2⟩ := HC4.out (by omega)
          have RW := Lib.hid (G0.out.trans R.out)
          have s0 := (RW.out.b.cell hb1).trans (hcc1 k c)
          have t0 := (RW.out.b.cell hb2).trans (hcc2 k c2')
          have i1 : (k : Int) < (a1.length : Int) := by omega
          have i2 : (k : Int) < (a2.length : Int) := by omega
          have i0 : (0 : Int) ≤ (k : Int) := by omega
          have s3 : ((k : Int)).toNat = k := by omega
          have YES : Hid (a1[k] = a2[k] → ∀ i (h1 : i < a1.length) (h2 : i < a2.length), i < k + 1 → a1[i] = a2[i]) := Lib.hid (fun h i h1 h2 hi => by
            rcases Nat.lt_or_ge i k with h' | h'
            · exact ALL.out i h1 h2 h'
            · obtain rfl : i = k := by omega
              exact h)
          have NO : Hid (a1[k] ≠ a2[k] → false = decide (l1 = l2 ∧ a1 = a2)) := Lib.hid (fun h => by
            rw [eq_comm, decide_eq_false_iff_not]; rintro ⟨he, hf⟩; first | (subst he; exact h rfl) | (subst hf; exact h rfl))
          have NXD : Hid (∀ n os, Gr W0 (Go.Sort.grow (wr.drewN n) os)) := Lib.hid (fun n os => R.out.trans (Gr.of_grow n os))
          clear hcc1 hcc2 ALL
          generalize a1[k] = z1 at *
          generalize a2[k] = z2 at *
          by_cases q : z1 = z2
          · have NX := Lib.hid (YES.out q)
            subst q
            clear YES NO
            have q1 : (z1 != z1) = false := by simp
            have ps0 := fun n os => cell_grown (World.block_lt_of_cell? _ _ s0) s0 n os
            have pt0 := fun n os => cell_grown (World.block_lt_of_cell? _ _ t0) t0 n os
            have pc := fun n os => cell_grown (World.block_lt_of_cell? _ _ c9) c9 n os
            have pd := fun n os => cell_grown (World.block_lt_of_cell? _ _ d9) d9 n os
            clear s0 t0
            go_wp2_with fail
            refine wp_region_quiet_grown (by assumption) (by kernel_rfl) ?_
            repeat (go_big_quiet_step (fail))
            refine wpQuiet_nil ?_
            intro _ hw'
            obtain ⟨⟨nq, osq⟩, hw''⟩ := hw'
            subst hw''
            have NXG := Lib.hid (NXD.out nq osq)
            clear ps0 pt0 pc pd
            go_wp2_with fail
            go_roundw
            case rel => exact ⟨k + 1, by go_num, c, NXG, NX⟩
            case measure => simp [intOf]; omega
          · have FI := Lib.hid (NO.out q)
            have q1 : (z1 != z2) = true := by simpa using q
            clear YES NO q
            have ps0 := fun n os => cell_grown (World.block_lt_of_cell? _ _ s0) s0 n os
            have pt0 := fun n os => cell_grown (World.block_lt_of_cell? _ _ t0) t0 n os
            have pc := fun n os => cell_grown (World.block_lt_of_cell? _ _ c9) c9 n os
            have pd := fun n os => cell_grown (World.block_lt_of_cell? _ _ d9) d9 n os
            clear s0 t0
            go_wp2_with fail
            refine wp_region_quiet_grown (by assumption) (by kernel_rfl) ?_
            repeat (go_big_quiet_step (fail))
            refine wpQuiet_nil ?_
            intro _ hw'
            obtain ⟨⟨nq, osq⟩, hw''⟩ := hw'
            subst hw''
            have NXG := Lib.hid (NXD.out nq osq)
            clear ps0 pt0 pc pd
            go_wp2_with fail
            go_ret
            exact ⟨by rw [← FI.out]; rfl, G0.out.trans NXG.out⟩
        · have ek : k = a1.length := by omega
          have Ea : Hid (a1 = a2) := Lib.hid (List.ext_getElem HA.out (fun i h1 h2 => ALL.out i h1 h2 (by omega)))
          have Ra := R
          clear R ALL
          go_wp2_with fail
          go_ret
          exact ⟨by rw [show decide (l1 = l2 ∧ a1 = a2) = true from decide_eq_true ⟨El.out, Ea.out⟩]; rfl, G0.out.trans Ra.out⟩

theorem rsb_calls (x y : Lsa) (l1 l2 : List Lnk) (a1 a2 : List Int) (w : World) (hl1 : LnksAt w (.slice x.la x.ln x.lc) l1) (hl2 : LnksAt w (.slice y.la y.ln y.lc) l2) (ha1 : WordsAt w (.slice x.aa x.an x.ac) a1) (ha2 : WordsAt w (.slice y.aa y.an y.ac) a2) : Calls Tryz.prog 28 #[.agg (lsaE x).toArray, .agg (lsaE y).toArray] w (EqPost w (decide (SameB x y l1 l2 a1 a2))) := by
  by_cases hkey : lkOf x = lkOf y
  case neg => rw [show decide (SameB x y l1 l2 a1 a2) = false from decide_eq_false (fun h => hkey h.1)]; exact rsb_0 x y l1 l2 a1 a2 w hl1 hl2 ha1 ha2 hkey
  by_cases hborder : x.border = y.border
  case neg => rw [show decide (SameB x y l1 l2 a1 a2) = false from decide_eq_false (fun h => hborder h.2.1)]; exact rsb_1 x y l1 l2 a1 a2 w hl1 hl2 ha1 ha2 hkey hborder
  by_cases hboundary : x.boundary = y.boundary
  case neg => rw [show decide (SameB x y l1 l2 a1 a2) = false from decide_eq_false (fun h => hboundary h.2.2.1)]; exact rsb_2 x y l1 l2 a1 a2 w hl1 hl2 ha1 ha2 hkey hborder hboundary
  by_cases hcost : x.cost = y.cost
  case neg => rw [show decide (SameB x y l1 l2 a1 a2) = false from decide_eq_false (fun h => hcost h.2.2.2.2.2.1)]; exact rsb_3 x y l1 l2 a1 a2 w hl1 hl2 ha1 ha2 hkey hborder hboundary hcost
  by_cases hsecond : x.second = y.second
  case neg => rw [show decide (SameB x y l1 l2 a1 a2) = false from decide_eq_false (fun h => hsecond h.2.2.2.2.2.2.1)]; exact rsb_4 x y l1 l2 a1 a2 w hl1 hl2 ha1 ha2 hkey hborder hboundary hcost hsecond
  by_cases hfwd : x.fwd = y.fwd
  case neg => rw [show decide (SameB x y l1 l2 a1 a2) = false from decide_eq_false (fun h => hfwd h.2.2.2.2.2.2.2.1)]; exact rsb_5 x y l1 l2 a1 a2 w hl1 hl2 ha1 ha2 hkey hborder hboundary hcost hsecond hfwd
  by_cases htag : x.tag = y.tag
  case neg => rw [show decide (SameB x y l1 l2 a1 a2) = false from decide_eq_false (fun h => htag h.2.2.2.2.2.2.2.2)]; exact rsb_6 x y l1 l2 a1 a2 w hl1 hl2 ha1 ha2 hkey hborder hboundary hcost hsecond hfwd htag
  by_cases hL : l1.length = l2.length
  case neg => rw [show decide (SameB x y l1 l2 a1 a2) = false from decide_eq_false (fun h => hL (congrArg List.length h.2.2.2.1))]; exact rsb_7 x y l1 l2 a1 a2 w hl1 hl2 ha1 ha2 hkey hborder hboundary hcost hsecond hfwd htag hL
  by_cases hA : a1.length = a2.length
  case neg => rw [show decide (SameB x y l1 l2 a1 a2) = false from decide_eq_false (fun h => hA (congrArg List.length h.2.2.2.2.1))]; exact rsb_8 x y l1 l2 a1 a2 w hl1 hl2 ha1 ha2 hkey hborder hboundary hcost hsecond hfwd htag hL hA
  have hE : decide (SameB x y l1 l2 a1 a2) = decide (l1 = l2 ∧ a1 = a2) := decide_eq_decide.2 ⟨fun h => ⟨h.2.2.2.1, h.2.2.2.2.1⟩, fun h => ⟨hkey, hborder, hboundary, h.1, h.2, hcost, hsecond, hfwd, htag⟩⟩
  rw [hE]
  exact rsb_9 x y l1 l2 a1 a2 w hl1 hl2 ha1 ha2 hkey hborder hboundary hcost hsecond hfwd htag hL hA

end Go.Proofs.YtddageahmgaigaaGreat

namespace Go.Proofs.YtddageahmgaigaaGreat
open Go.RowKit

theorem eqHd (xtyp xid xlen xrouter xseq xage xsum ytyp yid ylen yrouter yseq yage ysum : Int) (w : World) : (binOp .eql 37 (.agg #[.int .i64 xtyp, .int .u32 xid, .int .i64 xlen, .int .u32 xrouter, .int .i64 xseq, .int .i64 xage, .int .i64 xsum]) (.agg #[.int .i64 ytyp, .int .u32 yid, .int .i64 ylen, .int .u32 yrouter, .int .i64 yseq, .int .i64 yage, .int .i64 ysum])).run Tryz.prog w = .ok (.bool (decide (xtyp = ytyp ∧ xid = yid ∧ xlen = ylen ∧ xrouter = yrouter ∧ xseq = yseq ∧ xage = yage ∧ xsum = ysum))) w := by
  have u3 := Tryz.underlying3
  have u22 := Tryz.underlying22
  have a3 := Tryz.isAgg3
  have z3 := Tryz.sizeOf3
  have a22 := Tryz.isAgg22
  have z22 := Tryz.sizeOf22
  have hS : Tryz.prog.underlying 37 = some (.struct (Tryz.prog.fieldsOf 37)) := by kernel_rfl
  have hp : Tryz.prog.stoodInHeld 37 = false := by kernel_rfl
  rw [run_eql_struct, show (10000 : Nat) = 9999 + 1 from rfl, run_equalIn_agg w 9999 37 _ _ hS hp]
  simp only [Program.fieldsOf, Tryz.underlying37]
  go_simp
  by_cases h0 : xtyp = ytyp
  case neg => simp [h0]
  by_cases h1 : xid = yid
  case neg => simp [h0, h1]
  by_cases h2 : xlen = ylen
  case neg => simp [h0, h1, h2]
  by_cases h3 : xrouter = yrouter
  case neg => simp [h0, h1, h2, h3]
  by_cases h4 : xseq = yseq
  case neg => simp [h0, h1, h2, h3, h4]
  by_cases h5 : xage = yage
  case neg => simp [h0, h1, h2, h3, h4, h5]
  by_cases h6 : xsum = ysum
  case neg => simp [h0, h1, h2, h3, h4, h5, h6]
  simp [h0, h1, h2, h3, h4, h5, h6]

def SameH (x y : Lsa) : Prop := x.typ = y.typ ∧ x.id = y.id ∧ x.len = y.len ∧ x.router = y.router ∧ x.seq = y.seq ∧ x.age = y.age ∧ x.sum = y.sum
instance (x y : Lsa) : Decidable (SameH x y) := by unfold SameH; infer_instance

set_option maxHeartbeats 8000000 in
set_option maxRecDepth 100000 in
theorem rsame_eq (x y : Lsa) (b : Bool) (w : World) (he : SameH x y) (SB : ∀ W, Below w.heap.size w W → Calls Tryz.prog 28 #[.agg (lsaE x).toArray, .agg (lsaE y).toArray] W (EqPost W b)) : Calls Tryz.prog 13 #[.agg (lsaE x).toArray, .agg (lsaE y).toArray] w (EqPost w b) := by
  obtain ⟨xtyp, xid, xlen, xrouter, xseq, xage, xsum, xborder, xboundary, xla, xln, xlc, xaa, xan, xac, xcost, xsecond, xfwd, xtag⟩ := x
  obtain ⟨ytyp, yid, ylen, yrouter, yseq, yage, ysum, yborder, yboundary, yla, yln, ylc, yaa, yan, yac, ycost, ysecond, yfwd, ytag⟩ := y
  have EH := eqHd xtyp xid xlen xrouter xseq xage xsum ytyp yid ylen yrouter yseq yage ysum
  have hb : decide (xtyp = ytyp ∧ xid = yid ∧ xlen = ylen ∧ xrouter = yrouter ∧ xseq = yseq ∧ xage = yage ∧ xsum = ysum) = true := decide_eq_true he
  simp only [hb] at EH
  clear hb he
  have HSB := Lib.hid SB
  clear SB
  simp only [lsaE] at HSB ⊢
  obtain ⟨W0, hW0⟩ : ∃ W0, (w.alloc (.cells #[.int .i64 xtyp, .int .u32 xid, .int .i64 xlen, .int .u32 xrouter, .int .i64 xseq, .int .i64 xage, .int .i64 xsum, .bool xborder, .bool xboundary, .slice xla xln xlc, .slice xaa xan xac, .int .i64 xcost, .bool xsecond, .int .u32 xfwd, .int .i64 xtag] 42)).alloc (.cells #[.int .i64 ytyp, .int .u32 yid, .int .i64 ylen, .int .u32 yrouter, .int .i64 yseq, .int .i64 yage, .int .i64 ysum, .bool yborder, .bool yboundary, .slice yla yln ylc, .slice yaa yan yac, .int .i64 ycost, .bool ysecond, .int .u32 yfwd, .int .i64 ytag] 42) = W0 := ⟨_, rfl⟩
  have b0 : W0.heap[w.heap.size]? = some (.cells #[.int .i64 xtyp, .int .u32 xid, .int .i64 xlen, .int .u32 xrouter, .int .i64 xseq, .int .i64 xage, .int .i64 xsum, .bool xborder, .bool xboundary, .slice xla xln xlc, .slice xaa xan xac, .int .i64 xcost, .bool xsecond, .int .u32 xfwd, .int .i64 xtag] 42 (0, 0)) := by rw [← hW0]; exact (alloc_get _ _ _ (by simp)).trans (alloc_new w _)
  have b1 : W0.heap[w.heap.size + 1]? = some (.cells #[.int .i64 ytyp, .int .u32 yid, .int .i64 ylen, .int .u32 yrouter, .int .i64 yseq, .int .i64 yage, .int .i64 ysum, .bool yborder, .bool yboundary, .slice yla yln ylc, .slice yaa yan yac, .int .i64 ycost, .bool ysecond, .int .u32 yfwd, .int .i64 ytag] 42 (0, 0)) := by rw [← hW0]; exact blk_new2 w _ _
  have G0 : Hid (Gr w W0) := Lib.hid (by rw [← hW0]; exact ((Gr.refl _).alloc _).alloc _)
  have HW0 := Lib.hid hW0
  clear hW0
  obtain ⟨⟨⟨d0, d1, d2, d3, d4⟩, ⟨d5, d6, d7, d8, d9⟩, ⟨d10, d11, d12, d13, d14⟩⟩, -⟩ := blk15 b0
  obtain ⟨⟨⟨e0, e1, e2, e3, e4⟩, ⟨e5, e6, e7, e8, e9⟩, ⟨e10, e11, e12, e13, e14⟩⟩, -⟩ := blk15 b1
  clear b0 b1
  have SB1 := Lib.hid (HSB.out W0 G0.out.b)
  clear HSB
  go_enter Tryz.func13, Tryz.ntmps13
  go_upto_region 1 with fail
  rw [HW0.out]
  clear HW0
  go_wp2_with fail
  refine SB1.out.mono ?_
  rintro e w1 ⟨rfl, G1⟩
  have FIN := Lib.hid (G0.out.trans G1)
  clear G1 SB1
  go_wp2_with fail
  go_ret
  exact ⟨rfl, FIN.out⟩

set_option maxHeartbeats 8000000 in
set_option maxRecDepth 100000 in
theorem rsame_ne (x y : Lsa) (w : World) (he : ¬ SameH x y) : Calls Tryz.prog 13 #[.agg (lsaE x).toArray, .agg (lsaE y).toArray] w (EqPost w false) := by
  obtain ⟨xtyp, xid, xlen, xrouter, xseq, xage, xsum, xborder, xboundary, xla, xln, xlc, xaa, xan, xac, xcost, xsecond, xfwd, xtag⟩ := x
  obtain ⟨ytyp, yid, ylen, yrouter, yseq, yage, ysum, yborder, yboundary, yla, yln, ylc, yaa, yan, yac, ycost, ysecond, yfwd, ytag⟩ := y
  have EH := eqHd xtyp xid xlen xrouter xseq xage xsum ytyp yid ylen yrouter yseq yage ysum
  have hb : decide (xtyp = ytyp ∧ xid = yid ∧ xlen = ylen ∧ xrouter = yrouter ∧ xseq = yseq ∧ xage = yage ∧ xsum = ysum) = false := decide_eq_false he
  simp only [hb] at EH
  clear hb he
  simp only [lsaE]
  obtain ⟨W0, hW0⟩ : ∃ W0, (w.alloc (.cells #[.int .i64 xtyp, .int .u32 xid, .int .i64 xlen, .int .u32 xrouter, .int .i64 xseq, .int .i64 xage, .int .i64 xsum, .bool xborder, .bool xboundary, .slice xla xln xlc, .slice xaa xan xac, .int .i64 xcost, .bool xsecond, .int .u32 xfwd, .int .i64 xtag] 42)).alloc (.cells #[.int .i64 ytyp, .int .u32 yid, .int .i64 ylen, .int .u32 yrouter, .int .i64 yseq, .int .i64 yage, .int .i64 ysum, .bool yborder, .bool yboundary, .slice yla yln ylc, .slice yaa yan yac, .int .i64 ycost, .bool ysecond, .int .u32 yfwd, .int .i64 ytag] 42) = W0 := ⟨_, rfl⟩
  have b0 : W0.heap[w.heap.size]? = some (.cells #[.int .i64 xtyp, .int .u32 xid, .int .i64 xlen, .int .u32 xrouter, .int .i64 xseq, .int .i64 xage, .int .i64 xsum, .bool xborder, .bool xboundary, .slice xla xln xlc, .slice xaa xan xac, .int .i64 xcost, .bool xsecond, .int .u32 xfwd, .int .i64 xtag] 42 (0, 0)) := by rw [← hW0]; exact (alloc_get _ _ _ (by simp)).trans (alloc_new w _)
  have b1 : W0.heap[w.heap.size + 1]? = some (.cells #[.int .i64 ytyp, .int .u32 yid, .int .i64 ylen, .int .u32 yrouter, .int .i64 yseq, .int .i64 yage, .int .i64 ysum, .bool yborder, .bool yboundary, .slice yla yln ylc, .slice yaa yan yac, .int .i64 ycost, .bool ysecond, .int .u32 yfwd, .int .i64 ytag] 42 (0, 0)) := by rw [← hW0]; exact blk_new2 w _ _
  have G0 : Hid (Gr w W0) := Lib.hid (by rw [← hW0]; exact ((Gr.refl _).alloc _).alloc _)
  have HW0 := Lib.hid hW0
  clear hW0
  obtain ⟨⟨⟨d0, d1, d2, d3, d4⟩, ⟨d5, d6, d7, d8, d9⟩, ⟨d10, d11, d12, d13, d14⟩⟩, -⟩ := blk15 b0
  obtain ⟨⟨⟨e0, e1, e2, e3, e4⟩, ⟨e5, e6, e7, e8, e9⟩, ⟨e10, e11, e12, e13, e14⟩⟩, -⟩ := blk15 b1
  clear b0 b1
  go_enter Tryz.func13, Tryz.ntmps13
  go_upto_region 1 with fail
  rw [HW0.out]
  clear HW0
  go_wp2_with fail
  go_ret
  exact ⟨rfl, G0.out⟩

theorem rsame_calls (x y : Lsa) (l1 l2 : List Lnk) (a1 a2 : List Int) (w : World) (hl1 : LnksAt w (.slice x.la x.ln x.lc) l1) (hl2 : LnksAt w (.slice y.la y.ln y.lc) l2) (ha1 : WordsAt w (.slice x.aa x.an x.ac) a1) (ha2 : WordsAt w (.slice y.aa y.an y.ac) a2) : Calls Tryz.prog 13 #[.agg (lsaE x).toArray, .agg (lsaE y).toArray] w (EqPost w (decide (SameH x y ∧ SameB x y l1 l2 a1 a2))) := by
  by_cases h : SameH x y
  · rw [show decide (SameH x y ∧ SameB x y l1 l2 a1 a2) = decide (SameB x y l1 l2 a1 a2) from decide_eq_decide.2 ⟨fun q => q.2, fun q => ⟨h, q⟩⟩]
    exact rsame_eq x y _ w h (fun W hb => rsb_calls x y l1 l2 a1 a2 W (hl1.below hb) (hl2.below hb) (ha1.below hb) (ha2.below hb))
  · rw [show decide (SameH x y ∧ SameB x y l1 l2 a1 a2) = false from decide_eq_false (fun q => h q.1)]
    exact rsame_ne x y w h

end Go.Proofs.YtddageahmgaigaaGreat
