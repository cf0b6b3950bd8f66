import Derived.Test.YtddageahmgaigaaGreatLcl
import Derived.Test.YtddageahmgaigaaGreatGet
namespace Go.Proofs.YtddageahmgaigaaGreat
open Go.RowKit

theorem gCl {W : World} {c : Addr} {v : Value} (h : W.cell? c = some v) (n : Nat) (os : Array Obj) : (Go.Sort.grow (W.drewN n) os).cell? c = some v :=
  cell_grown (World.block_lt_of_cell? _ _ h) h n os

set_option maxHeartbeats 1000000 in
theorem pkey_calls (t id len r seq age sum : Int) (w : World) : Calls Tryz.prog 53 #[.agg #[.int .i64 t, .int .u32 id, .int .i64 len, .int .u32 r, .int .i64 seq, .int .i64 age, .int .i64 sum]] w fun e w' => e = .returned (.agg (keyE ⟨t, id, len, r⟩).toArray) ∧ Gr w w' := by
  go_enter Tryz.func53, Tryz.ntmps53
  go_wp2_with fail
  exact bodyPost_ret (v := .agg #[.int .i64 t, .int .u32 id, .int .i64 len, .int .u32 r]) (by simp [results, Tryz.results53, go_sem]) rfl ⟨rfl, by repeat (first | exact Gr.refl _ | refine Gr.drew ?_ | refine Gr.alloc ?_ _ | refine Gr.setCell ?_ (by simp) _)⟩

def SameB (x y : Lsa) (l1 l2 : List Lnk) (a1 a2 : List Int) : Prop := lkOf x = lkOf y ∧ x.border = y.border ∧ x.boundary = y.boundary ∧ l1 = l2 ∧ a1 = a2 ∧ x.cost = y.cost ∧ x.second = y.second ∧ x.fwd = y.fwd ∧ x.tag = y.tag
instance (x y : Lsa) (l1 l2 : List Lnk) (a1 a2 : List Int) : Decidable (SameB x y l1 l2 a1 a2) := by unfold SameB; infer_instance

set_option maxHeartbeats 8000000 in
set_option maxRecDepth 100000 in
theorem lsb_0 (x y : Lsa) (l1 l2 : List Lnk) (a1 a2 : List Int) (w : World) (hl1 : LnksAt w (.slice x.la x.ln x.lc) l1) (hl2 : LnksAt w (.slice y.la y.ln y.lc) l2) (ha1 : WordsAt w (.slice x.aa x.an x.ac) a1) (ha2 : WordsAt w (.slice y.aa y.an y.ac) a2) (hkey : lkOf x ≠ lkOf y) : Calls Tryz.prog 54 #[.agg (lsaE x).toArray, .agg (lsaE y).toArray] w (EqPost w false) := by
  obtain ⟨xtyp, xid, xlen, xrouter, xseq, xage, xsum, xborder, xboundary, xla, xln, xlc, xaa, xan, xac, xcost, xsecond, xfwd, xtag⟩ := x
  obtain ⟨ytyp, yid, ylen, yrouter, yseq, yage, ysum, yborder, yboundary, yla, yln, ylc, yaa, yan, yac, ycost, ysecond, yfwd, ytag⟩ := y
  simp only [lkOf] at hkey
  simp only at hl1 hl2 ha1 ha2
  have NE := eqKk xtyp xid xlen xrouter ytyp yid ylen yrouter
  have hkb : decide ((⟨xtyp, xid, xlen, xrouter⟩ : Kk) = ⟨ytyp, yid, ylen, yrouter⟩) = false := by simpa using hkey
  simp only [hkb] at NE
  clear hkb hkey
  have K1 := Lib.hid (fun W => (pkey_calls xtyp xid xlen xrouter xseq xage xsum W).mono fun _ _ h => (⟨h.1, h.2.grow⟩ : _ ∧ ∃ q os, _ = Go.Sort.grow (World.drewN W q) os))
  have K2 := Lib.hid (fun W => (pkey_calls ytyp yid ylen yrouter yseq yage ysum W).mono fun _ _ h => (⟨h.1, h.2.grow⟩ : _ ∧ ∃ q os, _ = Go.Sort.grow (World.drewN W q) os))
  have mixed : Tryz.prog.follows .mixedOrders = true := by kernel_rfl
  simp only [keyE] at K1 K2
  simp only [lsaE]
  obtain ⟨W0, hW0⟩ : ∃ W0, (w.alloc (.cells #[.int .i64 xtyp, .int .u32 xid, .int .i64 xlen, .int .u32 xrouter, .int .i64 xseq, .int .i64 xage, .int .i64 xsum, .bool xborder, .bool xboundary, .slice xla xln xlc, .slice xaa xan xac, .int .i64 xcost, .bool xsecond, .int .u32 xfwd, .int .i64 xtag] 42)).alloc (.cells #[.int .i64 ytyp, .int .u32 yid, .int .i64 ylen, .int .u32 yrouter, .int .i64 yseq, .int .i64 yage, .int .i64 ysum, .bool yborder, .bool yboundary, .slice yla yln ylc, .slice yaa yan yac, .int .i64 ycost, .bool ysecond, .int .u32 yfwd, .int .i64 ytag] 42) = W0 := ⟨_, rfl⟩
  have b0 : W0.heap[w.heap.size]? = some (.cells #[.int .i64 xtyp, .int .u32 xid, .int .i64 xlen, .int .u32 xrouter, .int .i64 xseq, .int .i64 xage, .int .i64 xsum, .bool xborder, .bool xboundary, .slice xla xln xlc, .slice xaa xan xac, .int .i64 xcost, .bool xsecond, .int .u32 xfwd, .int .i64 xtag] 42 (0, 0)) := by rw [← hW0]; exact (alloc_get _ _ _ (by simp)).trans (alloc_new w _)
  have b1 : W0.heap[w.heap.size + 1]? = some (.cells #[.int .i64 ytyp, .int .u32 yid, .int .i64 ylen, .int .u32 yrouter, .int .i64 yseq, .int .i64 yage, .int .i64 ysum, .bool yborder, .bool yboundary, .slice yla yln ylc, .slice yaa yan yac, .int .i64 ycost, .bool ysecond, .int .u32 yfwd, .int .i64 ytag] 42 (0, 0)) := by rw [← hW0]; exact blk_new2 w _ _
  have G0 : Hid (Gr w W0) := Lib.hid (by rw [← hW0]; exact ((Gr.refl _).alloc _).alloc _)
  have HW0 := Lib.hid hW0
  clear hW0
  clear hl1 hl2 ha1 ha2
  obtain ⟨⟨⟨d0, d1, d2, d3, d4⟩, ⟨d5, d6, d7, d8, d9⟩, ⟨d10, d11, d12, d13, d14⟩⟩, -⟩ := blk15 b0
  obtain ⟨⟨⟨e0, e1, e2, e3, e4⟩, ⟨e5, e6, e7, e8, e9⟩, ⟨e10, e11, e12, e13, e14⟩⟩, -⟩ := blk15 b1
  clear b0 b1
  have p0 := gCl d0
  have q0 := gCl e0
  have p1 := gCl d1
  have q1 := gCl e1
  have p2 := gCl d2
  have q2 := gCl e2
  have p3 := gCl d3
  have q3 := gCl e3
  have p4 := gCl d4
  have q4 := gCl e4
  have p5 := gCl d5
  have q5 := gCl e5
  have p6 := gCl d6
  have q6 := gCl e6
  have p7 := gCl d7
  have q7 := gCl e7
  have p8 := gCl d8
  have q8 := gCl e8
  have p9 := gCl d9
  have q9 := gCl e9
  have p10 := gCl d10
  have q10 := gCl e10
  have p11 := gCl d11
  have q11 := gCl e11
  have p12 := gCl d12
  have q12 := gCl e12
  have p13 := gCl d13
  have q13 := gCl e13
  have p14 := gCl d14
  have q14 := gCl e14
  clear d0 e0 d1 e1 d2 e2 d3 e3 d4 e4 d5 e5 d6 e6 d7 e7 d8 e8 d9 e9 d10 e10 d11 e11 d12 e12 d13 e13 d14 e14
  go_enter Tryz.func54, Tryz.ntmps54
  go_upto_region 1 with fail
  rw [HW0.out]
  clear HW0
  refine wp_region_quiet_grown (by assumption) (by kernel_rfl) ?_
  repeat (go_big_quiet_step (first
    | (go_at_call 53; with_reducible first | exact Calls.grown_of (K1.out _) | exact Calls.grown_of (K2.out _))))
  refine wpQuiet_nil ?_
  intro _ hw'
  obtain ⟨⟨nq, osq⟩, hw''⟩ := hw'
  subst hw''
  have FIN : Hid (Gr w (Go.Sort.grow (W0.drewN nq) osq)) := Lib.hid (G0.out.trans (Gr.of_grow nq osq))
  clear p0 q0 p1 q1 p2 q2 p3 q3 p4 q4 p5 q5 p6 q6 p7 q7 p8 q8 p9 q9 p10 q10 p11 q11 p12 q12 p13 q13 p14 q14 K1 K2
  go_wp2_with fail
  go_ret
  exact ⟨rfl, FIN.out⟩

set_option maxHeartbeats 8000000 in
set_option maxRecDepth 100000 in
theorem lsb_1 (x y : Lsa) (l1 l2 : List Lnk) (a1 a2 : List Int) (w : World) (hl1 : LnksAt w (.slice x.la x.ln x.lc) l1) (hl2 : LnksAt w (.slice y.la y.ln y.lc) l2) (ha1 : WordsAt w (.slice x.aa x.an x.ac) a1) (ha2 : WordsAt w (.slice y.aa y.an y.ac) a2) (hkey : lkOf x = lkOf y) (hborder : x.border ≠ y.border) : Calls Tryz.prog 54 #[.agg (lsaE x).toArray, .agg (lsaE y).toArray] w (EqPost w false) := by
  obtain ⟨xtyp, xid, xlen, xrouter, xseq, xage, xsum, xborder, xboundary, xla, xln, xlc, xaa, xan, xac, xcost, xsecond, xfwd, xtag⟩ := x
  obtain ⟨ytyp, yid, ylen, yrouter, yseq, yage, ysum, yborder, yboundary, yla, yln, ylc, yaa, yan, yac, ycost, ysecond, yfwd, ytag⟩ := y
  simp only [lkOf] at hkey hborder
  simp only at hl1 hl2 ha1 ha2
  have NE := eqKk xtyp xid xlen xrouter ytyp yid ylen yrouter
  have hkb : decide ((⟨xtyp, xid, xlen, xrouter⟩ : Kk) = ⟨ytyp, yid, ylen, yrouter⟩) = true := by simpa using hkey
  simp only [hkb] at NE
  clear hkb hkey
  have qborder : (xborder == yborder) = false := beq_eq_false_iff_ne.2 hborder
  clear hborder
  have K1 := Lib.hid (fun W => (pkey_calls xtyp xid xlen xrouter xseq xage xsum W).mono fun _ _ h => (⟨h.1, h.2.grow⟩ : _ ∧ ∃ q os, _ = Go.Sort.grow (World.drewN W q) os))
  have K2 := Lib.hid (fun W => (pkey_calls ytyp yid ylen yrouter yseq yage ysum W).mono fun _ _ h => (⟨h.1, h.2.grow⟩ : _ ∧ ∃ q os, _ = Go.Sort.grow (World.drewN W q) os))
  have mixed : Tryz.prog.follows .mixedOrders = true := by kernel_rfl
  simp only [keyE] at K1 K2
  simp only [lsaE]
  obtain ⟨W0, hW0⟩ : ∃ W0, (w.alloc (.cells #[.int .i64 xtyp, .int .u32 xid, .int .i64 xlen, .int .u32 xrouter, .int .i64 xseq, .int .i64 xage, .int .i64 xsum, .bool xborder, .bool xboundary, .slice xla xln xlc, .slice xaa xan xac, .int .i64 xcost, .bool xsecond, .int .u32 xfwd, .int .i64 xtag] 42)).alloc (.cells #[.int .i64 ytyp, .int .u32 yid, .int .i64 ylen, .int .u32 yrouter, .int .i64 yseq, .int .i64 yage, .int .i64 ysum, .bool yborder, .bool yboundary, .slice yla yln ylc, .slice yaa yan yac, .int .i64 ycost, .bool ysecond, .int .u32 yfwd, .int .i64 ytag] 42) = W0 := ⟨_, rfl⟩
  have b0 : W0.heap[w.heap.size]? = some (.cells #[.int .i64 xtyp, .int .u32 xid, .int .i64 xlen, .int .u32 xrouter, .int .i64 xseq, .int .i64 xage, .int .i64 xsum, .bool xborder, .bool xboundary, .slice xla xln xlc, .slice xaa xan xac, .int .i64 xcost, .bool xsecond, .int .u32 xfwd, .int .i64 xtag] 42 (0, 0)) := by rw [← hW0]; exact (alloc_get _ _ _ (by simp)).trans (alloc_new w _)
  have b1 : W0.heap[w.heap.size + 1]? = some (.cells #[.int .i64 ytyp, .int .u32 yid, .int .i64 ylen, .int .u32 yrouter, .int .i64 yseq, .int .i64 yage, .int .i64 ysum, .bool yborder, .bool yboundary, .slice yla yln ylc, .slice yaa yan yac, .int .i64 ycost, .bool ysecond, .int .u32 yfwd, .int .i64 ytag] 42 (0, 0)) := by rw [← hW0]; exact blk_new2 w _ _
  have G0 : Hid (Gr w W0) := Lib.hid (by rw [← hW0]; exact ((Gr.refl _).alloc _).alloc _)
  have HW0 := Lib.hid hW0
  clear hW0
  clear hl1 hl2 ha1 ha2
  obtain ⟨⟨⟨d0, d1, d2, d3, d4⟩, ⟨d5, d6, d7, d8, d9⟩, ⟨d10, d11, d12, d13, d14⟩⟩, -⟩ := blk15 b0
  obtain ⟨⟨⟨e0, e1, e2, e3, e4⟩, ⟨e5, e6, e7, e8, e9⟩, ⟨e10, e11, e12, e13, e14⟩⟩, -⟩ := blk15 b1
  clear b0 b1
  have p0 := gCl d0
  have q0 := gCl e0
  have p1 := gCl d1
  have q1 := gCl e1
  have p2 := gCl d2
  have q2 := gCl e2
  have p3 := gCl d3
  have q3 := gCl e3
  have p4 := gCl d4
  have q4 := gCl e4
  have p5 := gCl d5
  have q5 := gCl e5
  have p6 := gCl d6
  have q6 := gCl e6
  have p7 := gCl d7
  have q7 := gCl e7
  have p8 := gCl d8
  have q8 := gCl e8
  have p9 := gCl d9
  have q9 := gCl e9
  have p10 := gCl d10
  have q10 := gCl e10
  have p11 := gCl d11
  have q11 := gCl e11
  have p12 := gCl d12
  have q12 := gCl e12
  have p13 := gCl d13
  have q13 := gCl e13
  have p14 := gCl d14
  have q14 := gCl e14
  clear d0 e0 d1 e1 d2 e2 d3 e3 d4 e4 d5 e5 d6 e6 d7 e7 d8 e8 d9 e9 d10 e10 d11 e11 d12 e12 d13 e13 d14 e14
  go_enter Tryz.func54, Tryz.ntmps54
  go_upto_region 1 with fail
  rw [HW0.out]
  clear HW0
  refine wp_region_quiet_grown (by assumption) (by kernel_rfl) ?_
  repeat (go_big_quiet_step (first
    | (go_at_call 53; with_reducible first | exact Calls.grown_of (K1.out _) | exact Calls.grown_of (K2.out _))))
  refine wpQuiet_nil ?_
  intro _ hw'
  obtain ⟨⟨nq, osq⟩, hw''⟩ := hw'
  subst hw''
  have FIN : Hid (Gr w (Go.Sort.grow (W0.drewN nq) osq)) := Lib.hid (G0.out.trans (Gr.of_grow nq osq))
  clear p0 q0 p1 q1 p2 q2 p3 q3 p4 q4 p5 q5 p6 q6 p7 q7 p8 q8 p9 q9 p10 q10 p11 q11 p12 q12 p13 q13 p14 q14 K1 K2
  go_wp2_with fail
  go_ret
  exact ⟨rfl, FIN.out⟩

set_option maxHeartbeats 8000000 in
set_option maxRecDepth 100000 in
theorem lsb_2 (x y : Lsa) (l1 l2 : List Lnk) (a1 a2 : List Int) (w : World) (hl1 : LnksAt w (.slice x.la x.ln x.lc) l1) (hl2 : LnksAt w (.slice y.la y.ln y.lc) l2) (ha1 : WordsAt w (.slice x.aa x.an x.ac) a1) (ha2 : WordsAt w (.slice y.aa y.an y.ac) a2) (hkey : lkOf x = lkOf y) (hborder : x.border = y.border) (hboundary : x.boundary ≠ y.boundary) : Calls Tryz.prog 54 #[.agg (lsaE x).toArray, .agg (lsaE y).toArray] w (EqPost w false) := by
  obtain ⟨xtyp, xid, xlen, xrouter, xseq, xage, xsum, xborder, xboundary, xla, xln, xlc, xaa, xan, xac, xcost, xsecond, xfwd, xtag⟩ := x
  obtain ⟨ytyp, yid, ylen, yrouter, yseq, yage, ysum, yborder, yboundary, yla, yln, ylc, yaa, yan, yac, ycost, ysecond, yfwd, ytag⟩ := y
  simp only [lkOf] at hkey hborder hboundary
  simp only at hl1 hl2 ha1 ha2
  have NE := eqKk xtyp xid xlen xrouter ytyp yid ylen yrouter
  have hkb : decide ((⟨xtyp, xid, xlen, xrouter⟩ : Kk) = ⟨ytyp, yid, ylen, yrouter⟩) = true := by simpa using hkey
  simp only [hkb] at NE
  clear hkb hkey
  subst hborder
  have qboundary : (xboundary == yboundary) = false := beq_eq_false_iff_ne.2 hboundary
  clear hboundary
  have K1 := Lib.hid (fun W => (pkey_calls xtyp xid xlen xrouter xseq xage xsum W).mono fun _ _ h => (⟨h.1, h.2.grow⟩ : _ ∧ ∃ q os, _ = Go.Sort.grow (World.drewN W q) os))
  have K2 := Lib.hid (fun W => (pkey_calls ytyp yid ylen yrouter yseq yage ysum W).mono fun _ _ h => (⟨h.1, h.2.grow⟩ : _ ∧ ∃ q os, _ = Go.Sort.grow (World.drewN W q) os))
  have mixed : Tryz.prog.follows .mixedOrders = true := by kernel_rfl
  simp only [keyE] at K1 K2
  simp only [lsaE]
  obtain ⟨W0, hW0⟩ : ∃ W0, (w.alloc (.cells #[.int .i64 xtyp, .int .u32 xid, .int .i64 xlen, .int .u32 xrouter, .int .i64 xseq, .int .i64 xage, .int .i64 xsum, .bool xborder, .bool xboundary, .slice xla xln xlc, .slice xaa xan xac, .int .i64 xcost, .bool xsecond, .int .u32 xfwd, .int .i64 xtag] 42)).alloc (.cells #[.int .i64 ytyp, .int .u32 yid, .int .i64 ylen, .int .u32 yrouter, .int .i64 yseq, .int .i64 yage, .int .i64 ysum, .bool xborder, .bool yboundary, .slice yla yln ylc, .slice yaa yan yac, .int .i64 ycost, .bool ysecond, .int .u32 yfwd, .int .i64 ytag] 42) = W0 := ⟨_, rfl⟩
  have b0 : W0.heap[w.heap.size]? = some (.cells #[.int .i64 xtyp, .int .u32 xid, .int .i64 xlen, .int .u32 xrouter, .int .i64 xseq, .int .i64 xage, .int .i64 xsum, .bool xborder, .bool xboundary, .slice xla xln xlc, .slice xaa xan xac, .int .i64 xcost, .bool xsecond, .int .u32 xfwd, .int .i64 xtag] 42 (0, 0)) := by rw [← hW0]; exact (alloc_get _ _ _ (by simp)).trans (alloc_new w _)
  have b1 : W0.heap[w.heap.size + 1]? = some (.cells #[.int .i64 ytyp, .int .u32 yid, .int .i64 ylen, .int .u32 yrouter, .int .i64 yseq, .int .i64 yage, .int .i64 ysum, .bool xborder, .bool yboundary, .slice yla yln ylc, .slice yaa yan yac, .int .i64 ycost, .bool ysecond, .int .u32 yfwd, .int .i64 ytag] 42 (0, 0)) := by rw [← hW0]; exact blk_new2 w _ _
  have G0 : Hid (Gr w W0) := Lib.hid (by rw [← hW0]; exact ((Gr.refl _).alloc _).alloc _)
  have HW0 := Lib.hid hW0
  clear hW0
  clear hl1 hl2 ha1 ha2
  obtain ⟨⟨⟨d0, d1, d2, d3, d4⟩, ⟨d5, d6, d7, d8, d9⟩, ⟨d10, d11, d12, d13, d14⟩⟩, -⟩ := blk15 b0
  obtain ⟨⟨⟨e0, e1, e2, e3, e4⟩, ⟨e5, e6, e7, e8, e9⟩, ⟨e10, e11, e12, e13, e14⟩⟩, -⟩ := blk15 b1
  clear b0 b1
  have p0 := gCl d0
  have q0 := gCl e0
  have p1 := gCl d1
  have q1 := gCl e1
  have p2 := gCl d2
  have q2 := gCl e2
  have p3 := gCl d3
  have q3 := gCl e3
  have p4 := gCl d4
  have q4 := gCl e4
  have p5 := gCl d5
  have q5 := gCl e5
  have p6 := gCl d6
  have q6 := gCl e6
  have p7 := gCl d7
  have q7 := gCl e7
  have p8 := gCl d8
  have q8 := gCl e8
  have p9 := gCl d9
  have q9 := gCl e9
  have p10 := gCl d10
  have q10 := gCl e10
  have p11 := gCl d11
  have q11 := gCl e11
  have p12 := gCl d12
  have q12 := gCl e12
  have p13 := gCl d13
  have q13 := gCl e13
  have p14 := gCl d14
  have q14 := gCl e14
  clear d0 e0 d1 e1 d2 e2 d3 e3 d4 e4 d5 e5 d6 e6 d7 e7 d8 e8 d9 e9 d10 e10 d11 e11 d12 e12 d13 e13 d14 e14
  go_enter Tryz.func54, Tryz.ntmps54
  go_upto_region 1 with fail
  rw [HW0.out]
  clear HW0
  refine wp_region_quiet_grown (by assumption) (by kernel_rfl) ?_
  repeat (go_big_quiet_step (first
    | (go_at_call 53; with_reducible first | exact Calls.grown_of (K1.out _) | exact Calls.grown_of (K2.out _))))
  refine wpQuiet_nil ?_
  intro _ hw'
  obtain ⟨⟨nq, osq⟩, hw''⟩ := hw'
  subst hw''
  have FIN : Hid (Gr w (Go.Sort.grow (W0.drewN nq) osq)) := Lib.hid (G0.out.trans (Gr.of_grow nq osq))
  clear p0 q0 p1 q1 p2 q2 p3 q3 p4 q4 p5 q5 p6 q6 p7 q7 p8 q8 p9 q9 p10 q10 p11 q11 p12 q12 p13 q13 p14 q14 K1 K2
  go_wp2_with fail
  go_ret
  exact ⟨rfl, FIN.out⟩

set_option maxHeartbeats 8000000 in
set_option maxRecDepth 100000 in
theorem lsb_3 (x y : Lsa) (l1 l2 : List Lnk) (a1 a2 : List Int) (w : World) (hl1 : LnksAt w (.slice x.la x.ln x.lc) l1) (hl2 : LnksAt w (.slice y.la y.ln y.lc) l2) (ha1 : WordsAt w (.slice x.aa x.an x.ac) a1) (ha2 : WordsAt w (.slice y.aa y.an y.ac) a2) (hkey : lkOf x = lkOf y) (hborder : x.border = y.border) (hboundary : x.boundary = y.boundary) (hL : l1 ≠ l2) : Calls Tryz.prog 54 #[.agg (lsaE x).toArray, .agg (lsaE y).toArray] w (EqPost w false) := by
  obtain ⟨xtyp, xid, xlen, xrouter, xseq, xage, xsum, xborder, xboundary, xla, xln, xlc, xaa, xan, xac, xcost, xsecond, xfwd, xtag⟩ := x
  obtain ⟨ytyp, yid, ylen, yrouter, yseq, yage, ysum, yborder, yboundary, yla, yln, ylc, yaa, yan, yac, ycost, ysecond, yfwd, ytag⟩ := y
  simp only [lkOf] at hkey hborder hboundary
  simp only at hl1 hl2 ha1 ha2
  have NE := eqKk xtyp xid xlen xrouter ytyp yid ylen yrouter
  have hkb : decide ((⟨xtyp, xid, xlen, xrouter⟩ : Kk) = ⟨ytyp, yid, ylen, yrouter⟩) = true := by simpa using hkey
  simp only [hkb] at NE
  clear hkb hkey
  subst hborder
  subst hboundary
  have K1 := Lib.hid (fun W => (pkey_calls xtyp xid xlen xrouter xseq xage xsum W).mono fun _ _ h => (⟨h.1, h.2.grow⟩ : _ ∧ ∃ q os, _ = Go.Sort.grow (World.drewN W q) os))
  have K2 := Lib.hid (fun W => (pkey_calls ytyp yid ylen yrouter yseq yage ysum W).mono fun _ _ h => (⟨h.1, h.2.grow⟩ : _ ∧ ∃ q os, _ = Go.Sort.grow (World.drewN W q) os))
  have mixed : Tryz.prog.follows .mixedOrders = true := by kernel_rfl
  simp only [keyE] at K1 K2
  simp only [lsaE]
  obtain ⟨W0, hW0⟩ : ∃ W0, (w.alloc (.cells #[.int .i64 xtyp, .int .u32 xid, .int .i64 xlen, .int .u32 xrouter, .int .i64 xseq, .int .i64 xage, .int .i64 xsum, .bool xborder, .bool xboundary, .slice xla xln xlc, .slice xaa xan xac, .int .i64 xcost, .bool xsecond, .int .u32 xfwd, .int .i64 xtag] 42)).alloc (.cells #[.int .i64 ytyp, .int .u32 yid, .int .i64 ylen, .int .u32 yrouter, .int .i64 yseq, .int .i64 yage, .int .i64 ysum, .bool xborder, .bool xboundary, .slice yla yln ylc, .slice yaa yan yac, .int .i64 ycost, .bool ysecond, .int .u32 yfwd, .int .i64 ytag] 42) = W0 := ⟨_, rfl⟩
  have b0 : W0.heap[w.heap.size]? = some (.cells #[.int .i64 xtyp, .int .u32 xid, .int .i64 xlen, .int .u32 xrouter, .int .i64 xseq, .int .i64 xage, .int .i64 xsum, .bool xborder, .bool xboundary, .slice xla xln xlc, .slice xaa xan xac, .int .i64 xcost, .bool xsecond, .int .u32 xfwd, .int .i64 xtag] 42 (0, 0)) := by rw [← hW0]; exact (alloc_get _ _ _ (by simp)).trans (alloc_new w _)
  have b1 : W0.heap[w.heap.size + 1]? = some (.cells #[.int .i64 ytyp, .int .u32 yid, .int .i64 ylen, .int .u32 yrouter, .int .i64 yseq, .int .i64 yage, .int .i64 ysum, .bool xborder, .bool xboundary, .slice yla yln ylc, .slice yaa yan yac, .int .i64 ycost, .bool ysecond, .int .u32 yfwd, .int .i64 ytag] 42 (0, 0)) := by rw [← hW0]; exact blk_new2 w _ _
  have G0 : Hid (Gr w W0) := Lib.hid (by rw [← hW0]; exact ((Gr.refl _).alloc _).alloc _)
  have HW0 := Lib.hid hW0
  clear hW0
  have EL := Lib.hid (fun n os => (eql_calls (Go.Sort.grow (W0.drewN n) os) _ _ l1 l2 ((hl1.below G0.out.b).below (Gr.of_grow n os).b) ((hl2.below G0.out.b).below (Gr.of_grow n os).b)).mono fun _ _ h => (⟨h.1, h.2.grow⟩ : _ ∧ ∃ q os', _ = Go.Sort.grow (World.drewN (Go.Sort.grow (W0.drewN n) os) q) os'))
  have hLb : decide (l1 = l2) = false := by simpa using hL
  simp only [hLb] at EL
  clear hl1 hl2 ha1 ha2 hLb hL
  obtain ⟨⟨⟨d0, d1, d2, d3, d4⟩, ⟨d5, d6, d7, d8, d9⟩, ⟨d10, d11, d12, d13, d14⟩⟩, -⟩ := blk15 b0
  obtain ⟨⟨⟨e0, e1, e2, e3, e4⟩, ⟨e5, e6, e7, e8, e9⟩, ⟨e10, e11, e12, e13, e14⟩⟩, -⟩ := blk15 b1
  clear b0 b1
  have p0 := gCl d0
  have q0 := gCl e0
  have p1 := gCl d1
  have q1 := gCl e1
  have p2 := gCl d2
  have q2 := gCl e2
  have p3 := gCl d3
  have q3 := gCl e3
  have p4 := gCl d4
  have q4 := gCl e4
  have p5 := gCl d5
  have q5 := gCl e5
  have p6 := gCl d6
  have q6 := gCl e6
  have p7 := gCl d7
  have q7 := gCl e7
  have p8 := gCl d8
  have q8 := gCl e8
  have p9 := gCl d9
  have q9 := gCl e9
  have p10 := gCl d10
  have q10 := gCl e10
  have p11 := gCl d11
  have q11 := gCl e11
  have p12 := gCl d12
  have q12 := gCl e12
  have p13 := gCl d13
  have q13 := gCl e13
  have p14 := gCl d14
  have q14 := gCl e14
  clear d0 e0 d1 e1 d2 e2 d3 e3 d4 e4 d5 e5 d6 e6 d7 e7 d8 e8 d9 e9 d10 e10 d11 e11 d12 e12 d13 e13 d14 e14
  go_enter Tryz.func54, Tryz.ntmps54
  go_upto_region 1 with fail
  rw [HW0.out]
  clear HW0
  refine wp_region_quiet_grown (by assumption) (by kernel_rfl) ?_
  repeat (go_big_quiet_step (first
    | (go_at_call 53; with_reducible first | exact Calls.grown_of (K1.out _) | exact Calls.grown_of (K2.out _))
    | (go_at_call 87; with_reducible exact Calls.grown_of (EL.out _ _))))
  refine wpQuiet_nil ?_
  intro _ hw'
  obtain ⟨⟨nq, osq⟩, hw''⟩ := hw'
  subst hw''
  have FIN : Hid (Gr w (Go.Sort.grow (W0.drewN nq) osq)) := Lib.hid (G0.out.trans (Gr.of_grow nq osq))
  clear p0 q0 p1 q1 p2 q2 p3 q3 p4 q4 p5 q5 p6 q6 p7 q7 p8 q8 p9 q9 p10 q10 p11 q11 p12 q12 p13 q13 p14 q14 K1 K2 EL
  go_wp2_with fail
  go_ret
  exact ⟨rfl, FIN.out⟩

set_option maxHeartbeats 8000000 in
set_option maxRecDepth 100000 in
theorem lsb_4 (x y : Lsa) (l1 l2 : List Lnk) (a1 a2 : List Int) (w : World) (hl1 : LnksAt w (.slice x.la x.ln x.lc) l1) (hl2 : LnksAt w (.slice y.la y.ln y.lc) l2) (ha1 : WordsAt w (.slice x.aa x.an x.ac) a1) (ha2 : WordsAt w (.slice y.aa y.an y.ac) a2) (hkey : lkOf x = lkOf y) (hborder : x.border = y.border) (hboundary : x.boundary = y.boundary) (hL : l1 = l2) (hA : a1 ≠ a2) : Calls Tryz.prog 54 #[.agg (lsaE x).toArray, .agg (lsaE y).toArray] w (EqPost w false) := by
  obtain ⟨xtyp, xid, xlen, xrouter, xseq, xage, xsum, xborder, xboundary, xla, xln, xlc, xaa, xan, xac, xcost, xsecond, xfwd, xtag⟩ := x
  obtain ⟨ytyp, yid, ylen, yrouter, yseq, yage, ysum, yborder, yboundary, yla, yln, ylc, yaa, yan, yac, ycost, ysecond, yfwd, ytag⟩ := y
  simp only [lkOf] at hkey hborder hboundary
  simp only at hl1 hl2 ha1 ha2
  have NE := eqKk xtyp xid xlen xrouter ytyp yid ylen yrouter
  have hkb : decide ((⟨xtyp, xid, xlen, xrouter⟩ : Kk) = ⟨ytyp, yid, ylen, yrouter⟩) = true := by simpa using hkey
  simp only [hkb] at NE
  clear hkb hkey
  subst hborder
  subst hboundary
  have K1 := Lib.hid (fun W => (pkey_calls xtyp xid xlen xrouter xseq xage xsum W).mono fun _ _ h => (⟨h.1, h.2.grow⟩ : _ ∧ ∃ q os, _ = Go.Sort.grow (World.drewN W q) os))
  have K2 := Lib.hid (fun W => (pkey_calls ytyp yid ylen yrouter yseq yage ysum W).mono fun _ _ h => (⟨h.1, h.2.grow⟩ : _ ∧ ∃ q os, _ = Go.Sort.grow (World.drewN W q) os))
  have mixed : Tryz.prog.follows .mixedOrders = true := by kernel_rfl
  simp only [keyE] at K1 K2
  simp only [lsaE]
  obtain ⟨W0, hW0⟩ : ∃ W0, (w.alloc (.cells #[.int .i64 xtyp, .int .u32 xid, .int .i64 xlen, .int .u32 xrouter, .int .i64 xseq, .int .i64 xage, .int .i64 xsum, .bool xborder, .bool xboundary, .slice xla xln xlc, .slice xaa xan xac, .int .i64 xcost, .bool xsecond, .int .u32 xfwd, .int .i64 xtag] 42)).alloc (.cells #[.int .i64 ytyp, .int .u32 yid, .int .i64 ylen, .int .u32 yrouter, .int .i64 yseq, .int .i64 yage, .int .i64 ysum, .bool xborder, .bool xboundary, .slice yla yln ylc, .slice yaa yan yac, .int .i64 ycost, .bool ysecond, .int .u32 yfwd, .int .i64 ytag] 42) = W0 := ⟨_, rfl⟩
  have b0 : W0.heap[w.heap.size]? = some (.cells #[.int .i64 xtyp, .int .u32 xid, .int .i64 xlen, .int .u32 xrouter, .int .i64 xseq, .int .i64 xage, .int .i64 xsum, .bool xborder, .bool xboundary, .slice xla xln xlc, .slice xaa xan xac, .int .i64 xcost, .bool xsecond, .int .u32 xfwd, .int .i64 xtag] 42 (0, 0)) := by rw [← hW0]; exact (alloc_get _ _ _ (by simp)).trans (alloc_new w _)
  have b1 : W0.heap[w.heap.size + 1]? = some (.cells #[.int .i64 ytyp, .int .u32 yid, .int .i64 ylen, .int .u32 yrouter, .int .i64 yseq, .int .i64 yage, .int .i64 ysum, .bool xborder, .bool xboundary, .slice yla yln ylc, .slice yaa yan yac, .int .i64 ycost, .bool ysecond, .int .u32 yfwd, .int .i64 ytag] 42 (0, 0)) := by rw [← hW0]; exact blk_new2 w _ _
  have G0 : Hid (Gr w W0) := Lib.hid (by rw [← hW0]; exact ((Gr.refl _).alloc _).alloc _)
  have HW0 := Lib.hid hW0
  clear hW0
  have EL := Lib.hid (fun n os => (eql_calls (Go.Sort.grow (W0.drewN n) os) _ _ l1 l2 ((hl1.below G0.out.b).below (Gr.of_grow n os).b) ((hl2.below G0.out.b).below (Gr.of_grow n os).b)).mono fun _ _ h => (⟨h.1, h.2.grow⟩ : _ ∧ ∃ q os', _ = Go.Sort.grow (World.drewN (Go.Sort.grow (W0.drewN n) os) q) os'))
  have hLb : decide (l1 = l2) = true := by simpa using hL
  simp only [hLb] at EL
  have EA := Lib.hid (fun n os => (eqw_calls (Go.Sort.grow (W0.drewN n) os) _ _ a1 a2 ((ha1.below G0.out.b).below (Gr.of_grow n os).b) ((ha2.below G0.out.b).below (Gr.of_grow n os).b)).mono fun _ _ h => (⟨h.1, h.2.grow⟩ : _ ∧ ∃ q os', _ = Go.Sort.grow (World.drewN (Go.Sort.grow (W0.drewN n) os) q) os'))
  have hAb : decide (a1 = a2) = false := by simpa using hA
  simp only [hAb] at EA
  clear hl1 hl2 ha1 ha2 hLb hL hAb hA
  obtain ⟨⟨⟨d0, d1, d2, d3, d4⟩, ⟨d5, d6, d7, d8, d9⟩, ⟨d10, d11, d12, d13, d14⟩⟩, -⟩ := blk15 b0
  obtain ⟨⟨⟨e0, e1, e2, e3, e4⟩, ⟨e5, e6, e7, e8, e9⟩, ⟨e10, e11, e12, e13, e14⟩⟩, -⟩ := blk15 b1
  clear b0 b1
  have p0 := gCl d0
  have q0 := gCl e0
  have p1 := gCl d1
  have q1 := gCl e1
  have p2 := gCl d2
  have q2 := gCl e2
  have p3 := gCl d3
  have q3 := gCl e3
  have p4 := gCl d4
  have q4 := gCl e4
  have p5 := gCl d5
  have q5 := gCl e5
  have p6 := gCl d6
  have q6 := gCl e6
  have p7 := gCl d7
  have q7 := gCl e7
  have p8 := gCl d8
  have q8 := gCl e8
  have p9 := gCl d9
  have q9 := gCl e9
  have p10 := gCl d10
  have q10 := gCl e10
  have p11 := gCl d11
  have q11 := gCl e11
  have p12 := gCl d12
  have q12 := gCl e12
  have p13 := gCl d13
  have q13 := gCl e13
  have p14 := gCl d14
  have q14 := gCl e14
  clear d0 e0 d1 e1 d2 e2 d3 e3 d4 e4 d5 e5 d6 e6 d7 e7 d8 e8 d9 e9 d10 e10 d11 e11 d12 e12 d13 e13 d14 e14
  go_enter Tryz.func54, Tryz.ntmps54
  go_upto_region 1 with fail
  rw [HW0.out]
  clear HW0
  refine wp_region_quiet_grown (by assumption) (by kernel_rfl) ?_
  repeat (go_big_quiet_step (first
    | (go_at_call 53; with_reducible first | exact Calls.grown_of (K1.out _) | exact Calls.grown_of (K2.out _))
    | (go_at_call 87; with_reducible exact Calls.grown_of (EL.out _ _))
    | (go_at_call 88; with_reducible exact Calls.grown_of (EA.out _ _))))
  refine wpQuiet_nil ?_
  intro _ hw'
  obtain ⟨⟨nq, osq⟩, hw''⟩ := hw'
  subst hw''
  have FIN : Hid (Gr w (Go.Sort.grow (W0.drewN nq) osq)) := Lib.hid (G0.out.trans (Gr.of_grow nq osq))
  clear p0 q0 p1 q1 p2 q2 p3 q3 p4 q4 p5 q5 p6 q6 p7 q7 p8 q8 p9 q9 p10 q10 p11 q11 p12 q12 p13 q13 p14 q14 K1 K2 EL EA
  go_wp2_with fail
  go_ret
  exact ⟨rfl, FIN.out⟩

set_option maxHeartbeats 8000000 in
set_option maxRecDepth 100000 in
theorem lsb_5 (x y : Lsa) (l1 l2 : List Lnk) (a1 a2 : List Int) (w : World) (hl1 : LnksAt w (.slice x.la x.ln x.lc) l1) (hl2 : LnksAt w (.slice y.la y.ln y.lc) l2) (ha1 : WordsAt w (.slice x.aa x.an x.ac) a1) (ha2 : WordsAt w (.slice y.aa y.an y.ac) a2) (hkey : lkOf x = lkOf y) (hborder : x.border = y.border) (hboundary : x.boundary = y.boundary) (hL : l1 = l2) (hA : a1 = a2) (hcost : x.cost ≠ y.cost) : Calls Tryz.prog 54 #[.agg (lsaE x).toArray, .agg (lsaE y).toArray] w (EqPost w false) := by
  obtain ⟨xtyp, xid, xlen, xrouter, xseq, xage, xsum, xborder, xboundary, xla, xln, xlc, xaa, xan, xac, xcost, xsecond, xfwd, xtag⟩ := x
  obtain ⟨ytyp, yid, ylen, yrouter, yseq, yage, ysum, yborder, yboundary, yla, yln, ylc, yaa, yan, yac, ycost, ysecond, yfwd, ytag⟩ := y
  simp only [lkOf] at hkey hborder hboundary hcost
  simp only at hl1 hl2 ha1 ha2
  have NE := eqKk xtyp xid xlen xrouter ytyp yid ylen yrouter
  have hkb : decide ((⟨xtyp, xid, xlen, xrouter⟩ : Kk) = ⟨ytyp, yid, ylen, yrouter⟩) = true := by simpa using hkey
  simp only [hkb] at NE
  clear hkb hkey
  subst hborder
  subst hboundary
  have qcost : (xcost == ycost) = false := beq_eq_false_iff_ne.2 hcost
  clear hcost
  have K1 := Lib.hid (fun W => (pkey_calls xtyp xid xlen xrouter xseq xage xsum W).mono fun _ _ h => (⟨h.1, h.2.grow⟩ : _ ∧ ∃ q os, _ = Go.Sort.grow (World.drewN W q) os))
  have K2 := Lib.hid (fun W => (pkey_calls ytyp yid ylen yrouter yseq yage ysum W).mono fun _ _ h => (⟨h.1, h.2.grow⟩ : _ ∧ ∃ q os, _ = Go.Sort.grow (World.drewN W q) os))
  have mixed : Tryz.prog.follows .mixedOrders = true := by kernel_rfl
  simp only [keyE] at K1 K2
  simp only [lsaE]
  obtain ⟨W0, hW0⟩ : ∃ W0, (w.alloc (.cells #[.int .i64 xtyp, .int .u32 xid, .int .i64 xlen, .int .u32 xrouter, .int .i64 xseq, .int .i64 xage, .int .i64 xsum, .bool xborder, .bool xboundary, .slice xla xln xlc, .slice xaa xan xac, .int .i64 xcost, .bool xsecond, .int .u32 xfwd, .int .i64 xtag] 42)).alloc (.cells #[.int .i64 ytyp, .int .u32 yid, .int .i64 ylen, .int .u32 yrouter, .int .i64 yseq, .int .i64 yage, .int .i64 ysum, .bool xborder, .bool xboundary, .slice yla yln ylc, .slice yaa yan yac, .int .i64 ycost, .bool ysecond, .int .u32 yfwd, .int .i64 ytag] 42) = W0 := ⟨_, rfl⟩
  have b0 : W0.heap[w.heap.size]? = some (.cells #[.int .i64 xtyp, .int .u32 xid, .int .i64 xlen, .int .u32 xrouter, .int .i64 xseq, .int .i64 xage, .int .i64 xsum, .bool xborder, .bool xboundary, .slice xla xln xlc, .slice xaa xan xac, .int .i64 xcost, .bool xsecond, .int .u32 xfwd, .int .i64 xtag] 42 (0, 0)) := by rw [← hW0]; exact (alloc_get _ _ _ (by simp)).trans (alloc_new w _)
  have b1 : W0.heap[w.heap.size + 1]? = some (.cells #[.int .i64 ytyp, .int .u32 yid, .int .i64 ylen, .int .u32 yrouter, .int .i64 yseq, .int .i64 yage, .int .i64 ysum, .bool xborder, .bool xboundary, .slice yla yln ylc, .slice yaa yan yac, .int .i64 ycost, .bool ysecond, .int .u32 yfwd, .int .i64 ytag] 42 (0, 0)) := by rw [← hW0]; exact blk_new2 w _ _
  have G0 : Hid (Gr w W0) := Lib.hid (by rw [← hW0]; exact ((Gr.refl _).alloc _).alloc _)
  have HW0 := Lib.hid hW0
  clear hW0
  have EL := Lib.hid (fun n os => (eql_calls (Go.Sort.grow (W0.drewN n) os) _ _ l1 l2 ((hl1.below G0.out.b).below (Gr.of_grow n os).b) ((hl2.below G0.out.b).below (Gr.of_grow n os).b)).mono fun _ _ h => (⟨h.1, h.2.grow⟩ : _ ∧ ∃ q os', _ = Go.Sort.grow (World.drewN (Go.Sort.grow (W0.drewN n) os) q) os'))
  have hLb : decide (l1 = l2) = true := by simpa using hL
  simp only [hLb] at EL
  have EA := Lib.hid (fun n os => (eqw_calls (Go.Sort.grow (W0.drewN n) os) _ _ a1 a2 ((ha1.below G0.out.b).below (Gr.of_grow n os).b) ((ha2.below G0.out.b).below (Gr.of_grow n os).b)).mono fun _ _ h => (⟨h.1, h.2.grow⟩ : _ ∧ ∃ q os', _ = Go.Sort.grow (World.drewN (Go.Sort.grow (W0.drewN n) os) q) os'))
  have hAb : decide (a1 = a2) = true := by simpa using hA
  simp only [hAb] at EA
  clear hl1 hl2 ha1 ha2 hLb hL hAb hA
  obtain ⟨⟨⟨d0, d1, d2, d3, d4⟩, ⟨d5, d6, d7, d8, d9⟩, ⟨d10, d11, d12, d13, d14⟩⟩, -⟩ := blk15 b0
  obtain ⟨⟨⟨e0, e1, e2, e3, e4⟩, ⟨e5, e6, e7, e8, e9⟩, ⟨e10, e11, e12, e13, e14⟩⟩, -⟩ := blk15 b1
  clear b0 b1
  have p0 := gCl d0
  have q0 := gCl e0
  have p1 := gCl d1
  have q1 := gCl e1
  have p2 := gCl d2
  have q2 := gCl e2
  have p3 := gCl d3
  have q3 := gCl e3
  have p4 := gCl d4
  have q4 := gCl e4
  have p5 := gCl d5
  have q5 := gCl e5
  have p6 := gCl d6
  have q6 := gCl e6
  have p7 := gCl d7
  have q7 := gCl e7
  have p8 := gCl d8
  have q8 := gCl e8
  have p9 := gCl d9
  have q9 := gCl e9
  have p10 := gCl d10
  have q10 := gCl e10
  have p11 := gCl d11
  have q11 := gCl e11
  have p12 := gCl d12
  have q12 := gCl e12
  have p13 := gCl d13
  have q13 := gCl e13
  have p14 := gCl d14
  have q14 := gCl e14
  clear d0 e0 d1 e1 d2 e2 d3 e3 d4 e4 d5 e5 d6 e6 d7 e7 d8 e8 d9 e9 d10 e10 d11 e11 d12 e12 d13 e13 d14 e14
  go_enter Tryz.func54, Tryz.ntmps54
  go_upto_region 1 with fail
  rw [HW0.out]
  clear HW0
  refine wp_region_quiet_grown (by assumption) (by kernel_rfl) ?_
  repeat (go_big_quiet_step (first
    | (go_at_call 53; with_reducible first | exact Calls.grown_of (K1.out _) | exact Calls.grown_of (K2.out _))
    | (go_at_call 87; with_reducible exact Calls.grown_of (EL.out _ _))
    | (go_at_call 88; with_reducible exact Calls.grown_of (EA.out _ _))))
  refine wpQuiet_nil ?_
  intro _ hw'
  obtain ⟨⟨nq, osq⟩, hw''⟩ := hw'
  subst hw''
  have FIN : Hid (Gr w (Go.Sort.grow (W0.drewN nq) osq)) := Lib.hid (G0.out.trans (Gr.of_grow nq osq))
  clear p0 q0 p1 q1 p2 q2 p3 q3 p4 q4 p5 q5 p6 q6 p7 q7 p8 q8 p9 q9 p10 q10 p11 q11 p12 q12 p13 q13 p14 q14 K1 K2 EL EA
  go_wp2_with fail
  go_ret
  exact ⟨rfl, FIN.out⟩

set_option maxHeartbeats 8000000 in
set_option maxRecDepth 100000 in
theorem lsb_6 (x y : Lsa) (l1 l2 : List Lnk) (a1 a2 : List Int) (w : World) (hl1 : LnksAt w (.slice x.la x.ln x.lc) l1) (hl2 : LnksAt w (.slice y.la y.ln y.lc) l2) (ha1 : WordsAt w (.slice x.aa x.an x.ac) a1) (ha2 : WordsAt w (.slice y.aa y.an y.ac) a2) (hkey : lkOf x = lkOf y) (hborder : x.border = y.border) (hboundary : x.boundary = y.boundary) (hL : l1 = l2) (hA : a1 = a2) (hcost : x.cost = y.cost) (hsecond : x.second ≠ y.second) : Calls Tryz.prog 54 #[.agg (lsaE x).toArray, .agg (lsaE y).toArray] w (EqPost w false) := by
  obtain ⟨xtyp, xid, xlen, xrouter, xseq, xage, xsum, xborder, xboundary, xla, xln, xlc, xaa, xan, xac, xcost, xsecond, xfwd, xtag⟩ := x
  obtain ⟨ytyp, yid, ylen, yrouter, yseq, yage, ysum, yborder, yboundary, yla, yln, ylc, yaa, yan, yac, ycost, ysecond, yfwd, ytag⟩ := y
  simp only [lkOf] at hkey hborder hboundary hcost hsecond
  simp only at hl1 hl2 ha1 ha2
  have NE := eqKk xtyp xid xlen xrouter ytyp yid ylen yrouter
  have hkb : decide ((⟨xtyp, xid, xlen, xrouter⟩ : Kk) = ⟨ytyp, yid, ylen, yrouter⟩) = true := by simpa using hkey
  simp only [hkb] at NE
  clear hkb hkey
  subst hborder
  subst hboundary
  subst hcost
  have qsecond : (xsecond == ysecond) = false := beq_eq_false_iff_ne.2 hsecond
  clear hsecond
  have K1 := Lib.hid (fun W => (pkey_calls xtyp xid xlen xrouter xseq xage xsum W).mono fun _ _ h => (⟨h.1, h.2.grow⟩ : _ ∧ ∃ q os, _ = Go.Sort.grow (World.drewN W q) os))
  have K2 := Lib.hid (fun W => (pkey_calls ytyp yid ylen yrouter yseq yage ysum W).mono fun _ _ h => (⟨h.1, h.2.grow⟩ : _ ∧ ∃ q os, _ = Go.Sort.grow (World.drewN W q) os))
  have mixed : Tryz.prog.follows .mixedOrders = true := by kernel_rfl
  simp only [keyE] at K1 K2
  simp only [lsaE]
  obtain ⟨W0, hW0⟩ : ∃ W0, (w.alloc (.cells #[.int .i64 xtyp, .int .u32 xid, .int .i64 xlen, .int .u32 xrouter, .int .i64 xseq, .int .i64 xage, .int .i64 xsum, .bool xborder, .bool xboundary, .slice xla xln xlc, .slice xaa xan xac, .int .i64 xcost, .bool xsecond, .int .u32 xfwd, .int .i64 xtag] 42)).alloc (.cells #[.int .i64 ytyp, .int .u32 yid, .int .i64 ylen, .int .u32 yrouter, .int .i64 yseq, .int .i64 yage, .int .i64 ysum, .bool xborder, .bool xboundary, .slice yla yln ylc, .slice yaa yan yac, .int .i64 xcost, .bool ysecond, .int .u32 yfwd, .int .i64 ytag] 42) = W0 := ⟨_, rfl⟩
  have b0 : W0.heap[w.heap.size]? = some (.cells #[.int .i64 xtyp, .int .u32 xid, .int .i64 xlen, .int .u32 xrouter, .int .i64 xseq, .int .i64 xage, .int .i64 xsum, .bool xborder, .bool xboundary, .slice xla xln xlc, .slice xaa xan xac, .int .i64 xcost, .bool xsecond, .int .u32 xfwd, .int .i64 xtag] 42 (0, 0)) := by rw [← hW0]; exact (alloc_get _ _ _ (by simp)).trans (alloc_new w _)
  have b1 : W0.heap[w.heap.size + 1]? = some (.cells #[.int .i64 ytyp, .int .u32 yid, .int .i64 ylen, .int .u32 yrouter, .int .i64 yseq, .int .i64 yage, .int .i64 ysum, .bool xborder, .bool xboundary, .slice yla yln ylc, .slice yaa yan yac, .int .i64 xcost, .bool ysecond, .int .u32 yfwd, .int .i64 ytag] 42 (0, 0)) := by rw [← hW0]; exact blk_new2 w _ _
  have G0 : Hid (Gr w W0) := Lib.hid (by rw [← hW0]; exact ((Gr.refl _).alloc _).alloc _)
  have HW0 := Lib.hid hW0
  clear hW0
  have EL := Lib.hid (fun n os => (eql_calls (Go.Sort.grow (W0.drewN n) os) _ _ l1 l2 ((hl1.below G0.out.b).below (Gr.of_grow n os).b) ((hl2.below G0.out.b).below (Gr.of_grow n os).b)).mono fun _ _ h => (⟨h.1, h.2.grow⟩ : _ ∧ ∃ q os', _ = Go.Sort.grow (World.drewN (Go.Sort.grow (W0.drewN n) os) q) os'))
  have hLb : decide (l1 = l2) = true := by simpa using hL
  simp only [hLb] at EL
  have EA := Lib.hid (fun n os => (eqw_calls (Go.Sort.grow (W0.drewN n) os) _ _ a1 a2 ((ha1.below G0.out.b).below (Gr.of_grow n os).b) ((ha2.below G0.out.b).below (Gr.of_grow n os).b)).mono fun _ _ h => (⟨h.1, h.2.grow⟩ : _ ∧ ∃ q os', _ = Go.Sort.grow (World.drewN (Go.Sort.grow (W0.drewN n) os) q) os'))
  have hAb : decide (a1 = a2) = true := by simpa using hA
  simp only [hAb] at EA
  clear hl1 hl2 ha1 ha2 hLb hL hAb hA
  obtain ⟨⟨⟨d0, d1, d2, d3, d4⟩, ⟨d5, d6, d7, d8, d9⟩, ⟨d10, d11, d12, d13, d14⟩⟩, -⟩ := blk15 b0
  obtain ⟨⟨⟨e0, e1, e2, e3, e4⟩, ⟨e5, e6, e7, e8, e9⟩, ⟨e10, e11, e12, e13, e14⟩⟩, -⟩ := blk15 b1
  clear b0 b1
  have p0 := gCl d0
  have q0 := gCl e0
  have p1 := gCl d1
  have q1 := gCl e1
  have p2 := gCl d2
  have q2 := gCl e2
  have p3 := gCl d3
  have q3 := gCl e3
  have p4 := gCl d4
  have q4 := gCl e4
  have p5 := gCl d5
  have q5 := gCl e5
  have p6 := gCl d6
  have q6 := gCl e6
  have p7 := gCl d7
  have q7 := gCl e7
  have p8 := gCl d8
  have q8 := gCl e8
  have p9 := gCl d9
  have q9 := gCl e9
  have p10 := gCl d10
  have q10 := gCl e10
  have p11 := gCl d11
  have q11 := gCl e11
  have p12 := gCl d12
  have q12 := gCl e12
  have p13 := gCl d13
  have q13 := gCl e13
  have p14 := gCl d14
  have q14 := gCl e14
  clear d0 e0 d1 e1 d2 e2 d3 e3 d4 e4 d5 e5 d6 e6 d7 e7 d8 e8 d9 e9 d10 e10 d11 e11 d12 e12 d13 e13 d14 e14
  go_enter Tryz.func54, Tryz.ntmps54
  go_upto_region 1 with fail
  rw [HW0.out]
  clear HW0
  refine wp_region_quiet_grown (by assumption) (by kernel_rfl) ?_
  repeat (go_big_quiet_step (first
    | (go_at_call 53; with_reducible first | exact Calls.grown_of (K1.out _) | exact Calls.grown_of (K2.out _))
    | (go_at_call 87; with_reducible exact Calls.grown_of (EL.out _ _))
    | (go_at_call 88; with_reducible exact Calls.grown_of (EA.out _ _))))
  refine wpQuiet_nil ?_
  intro _ hw'
  obtain ⟨⟨nq, osq⟩, hw''⟩ := hw'
  subst hw''
  have FIN : Hid (Gr w (Go.Sort.grow (W0.drewN nq) osq)) := Lib.hid (G0.out.trans (Gr.of_grow nq osq))
  clear p0 q0 p1 q1 p2 q2 p3 q3 p4 q4 p5 q5 p6 q6 p7 q7 p8 q8 p9 q9 p10 q10 p11 q11 p12 q12 p13 q13 p14 q14 K1 K2 EL EA
  go_wp2_with fail
  go_ret
  exact ⟨rfl, FIN.out⟩

set_option maxHeartbeats 8000000 in
set_option maxRecDepth 100000 in
theorem lsb_7 (x y : Lsa) (l1 l2 : List Lnk) (a1 a2 : List Int) (w : World) (hl1 : LnksAt w (.slice x.la x.ln x.lc) l1) (hl2 : LnksAt w (.slice y.la y.ln y.lc) l2) (ha1 : WordsAt w (.slice x.aa x.an x.ac) a1) (ha2 : WordsAt w (.slice y.aa y.an y.ac) a2) (hkey : lkOf x = lkOf y) (hborder : x.border = y.border) (hboundary : x.boundary = y.boundary) (hL : l1 = l2) (hA : a1 = a2) (hcost : x.cost = y.cost) (hsecond : x.second = y.second) (hfwd : x.fwd ≠ y.fwd) : Calls Tryz.prog 54 #[.agg (lsaE x).toArray, .agg (lsaE y).toArray] w (EqPost w false) := by
  obtain ⟨xtyp, xid, xlen, xrouter, xseq, xage, xsum, xborder, xboundary, xla, xln, xlc, xaa, xan, xac, xcost, xsecond, xfwd, xtag⟩ := x
  obtain ⟨ytyp, yid, ylen, yrouter, yseq, yage, ysum, yborder, yboundary, yla, yln, ylc, yaa, yan, yac, ycost, ysecond, yfwd, ytag⟩ := y
  simp only [lkOf] at hkey hborder hboundary hcost hsecond hfwd
  simp only at hl1 hl2 ha1 ha2
  have NE := eqKk xtyp xid xlen xrouter ytyp yid ylen yrouter
  have hkb : decide ((⟨xtyp, xid, xlen, xrouter⟩ : Kk) = ⟨ytyp, yid, ylen, yrouter⟩) = true := by simpa using hkey
  simp only [hkb] at NE
  clear hkb hkey
  subst hborder
  subst hboundary
  subst hcost
  subst hsecond
  have qfwd : (xfwd == yfwd) = false := beq_eq_false_iff_ne.2 hfwd
  clear hfwd
  have K1 := Lib.hid (fun W => (pkey_calls xtyp xid xlen xrouter xseq xage xsum W).mono fun _ _ h => (⟨h.1, h.2.grow⟩ : _ ∧ ∃ q os, _ = Go.Sort.grow (World.drewN W q) os))
  have K2 := Lib.hid (fun W => (pkey_calls ytyp yid ylen yrouter yseq yage ysum W).mono fun _ _ h => (⟨h.1, h.2.grow⟩ : _ ∧ ∃ q os, _ = Go.Sort.grow (World.drewN W q) os))
  have mixed : Tryz.prog.follows .mixedOrders = true := by kernel_rfl
  simp only [keyE] at K1 K2
  simp only [lsaE]
  obtain ⟨W0, hW0⟩ : ∃ W0, (w.alloc (.cells #[.int .i64 xtyp, .int .u32 xid, .int .i64 xlen, .int .u32 xrouter, .int .i64 xseq, .int .i64 xage, .int .i64 xsum, .bool xborder, .bool xboundary, .slice xla xln xlc, .slice xaa xan xac, .int .i64 xcost, .bool xsecond, .int .u32 xfwd, .int .i64 xtag] 42)).alloc (.cells #[.int .i64 ytyp, .int .u32 yid, .int .i64 ylen, .int .u32 yrouter, .int .i64 yseq, .int .i64 yage, .int .i64 ysum, .bool xborder, .bool xboundary, .slice yla yln ylc, .slice yaa yan yac, .int .i64 xcost, .bool xsecond, .int .u32 yfwd, .int .i64 ytag] 42) = W0 := ⟨_, rfl⟩
  have b0 : W0.heap[w.heap.size]? = some (.cells #[.int .i64 xtyp, .int .u32 xid, .int .i64 xlen, .int .u32 xrouter, .int .i64 xseq, .int .i64 xage, .int .i64 xsum, .bool xborder, .bool xboundary, .slice xla xln xlc, .slice xaa xan xac, .int .i64 xcost, .bool xsecond, .int .u32 xfwd, .int .i64 xtag] 42 (0, 0)) := by rw [← hW0]; exact (alloc_get _ _ _ (by simp)).trans (alloc_new w _)
  have b1 : W0.heap[w.heap.size + 1]? = some (.cells #[.int .i64 ytyp, .int .u32 yid, .int .i64 ylen, .int .u32 yrouter, .int .i64 yseq, .int .i64 yage, .int .i64 ysum, .bool xborder, .bool xboundary, .slice yla yln ylc, .slice yaa yan yac, .int .i64 xcost, .bool xsecond, .int .u32 yfwd, .int .i64 ytag] 42 (0, 0)) := by rw [← hW0]; exact blk_new2 w _ _
  have G0 : Hid (Gr w W0) := Lib.hid (by rw [← hW0]; exact ((Gr.refl _).alloc _).alloc _)
  have HW0 := Lib.hid hW0
  clear hW0
  have EL := Lib.hid (fun n os => (eql_calls (Go.Sort.grow (W0.drewN n) os) _ _ l1 l2 ((hl1.below G0.out.b).below (Gr.of_grow n os).b) ((hl2.below G0.out.b).below (Gr.of_grow n os).b)).mono fun _ _ h => (⟨h.1, h.2.grow⟩ : _ ∧ ∃ q os', _ = Go.Sort.grow (World.drewN (Go.Sort.grow (W0.drewN n) os) q) os'))
  have hLb : decide (l1 = l2) = true := by simpa using hL
  simp only [hLb] at EL
  have EA := Lib.hid (fun n os => (eqw_calls (Go.Sort.grow (W0.drewN n) os) _ _ a1 a2 ((ha1.below G0.out.b).below (Gr.of_grow n os).b) ((ha2.below G0.out.b).below (Gr.of_grow n os).b)).mono fun _ _ h => (⟨h.1, h.2.grow⟩ : _ ∧ ∃ q os', _ = Go.Sort.grow (World.drewN (Go.Sort.grow (W0.drewN n) os) q) os'))
  have hAb : decide (a1 = a2) = true := by simpa using hA
  simp only [hAb] at EA
  clear hl1 hl2 ha1 ha2 hLb hL hAb hA
  obtain ⟨⟨⟨d0, d1, d2, d3, d4⟩, ⟨d5, d6, d7, d8, d9⟩, ⟨d10, d11, d12, d13, d14⟩⟩, -⟩ := blk15 b0
  obtain ⟨⟨⟨e0, e1, e2, e3, e4⟩, ⟨e5, e6, e7, e8, e9⟩, ⟨e10, e11, e12, e13, e14⟩⟩, -⟩ := blk15 b1
  clear b0 b1
  have p0 := gCl d0
  have q0 := gCl e0
  have p1 := gCl d1
  have q1 := gCl e1
  have p2 := gCl d2
  have q2 := gCl e2
  have p3 := gCl d3
  have q3 := gCl e3
  have p4 := gCl d4
  have q4 := gCl e4
  have p5 := gCl d5
  have q5 := gCl e5
  have p6 := gCl d6
  have q6 := gCl e6
  have p7 := gCl d7
  have q7 := gCl e7
  have p8 := gCl d8
  have q8 := gCl e8
  have p9 := gCl d9
  have q9 := gCl e9
  have p10 := gCl d10
  have q10 := gCl e10
  have p11 := gCl d11
  have q11 := gCl e11
  have p12 := gCl d12
  have q12 := gCl e12
  have p13 := gCl d13
  have q13 := gCl e13
  have p14 := gCl d14
  have q14 := gCl e14
  clear d0 e0 d1 e1 d2 e2 d3 e3 d4 e4 d5 e5 d6 e6 d7 e7 d8 e8 d9 e9 d10 e10 d11 e11 d12 e12 d13 e13 d14 e14
  go_enter Tryz.func54, Tryz.ntmps54
  go_upto_region 1 with fail
  rw [HW0.out]
  clear HW0
  refine wp_region_quiet_grown (by assumption) (by kernel_rfl) ?_
  repeat (go_big_quiet_step (first
    | (go_at_call 53; with_reducible first | exact Calls.grown_of (K1.out _) | exact Calls.grown_of (K2.out _))
    | (go_at_call 87; with_reducible exact Calls.grown_of (EL.out _ _))
    | (go_at_call 88; with_reducible exact Calls.grown_of (EA.out _ _))))
  refine wpQuiet_nil ?_
  intro _ hw'
  obtain ⟨⟨nq, osq⟩, hw''⟩ := hw'
  subst hw''
  have FIN : Hid (Gr w (Go.Sort.grow (W0.drewN nq) osq)) := Lib.hid (G0.out.trans (Gr.of_grow nq osq))
  clear p0 q0 p1 q1 p2 q2 p3 q3 p4 q4 p5 q5 p6 q6 p7 q7 p8 q8 p9 q9 p10 q10 p11 q11 p12 q12 p13 q13 p14 q14 K1 K2 EL EA
  go_wp2_with fail
  go_ret
  exact ⟨rfl, FIN.out⟩

set_option maxHeartbeats 8000000 in
set_option maxRecDepth 100000 in
theorem lsb_8 (x y : Lsa) (l1 l2 : List Lnk) (a1 a2 : List Int) (w : World) (hl1 : LnksAt w (.slice x.la x.ln x.lc) l1) (hl2 : LnksAt w (.slice y.la y.ln y.lc) l2) (ha1 : WordsAt w (.slice x.aa x.an x.ac) a1) (ha2 : WordsAt w (.slice y.aa y.an y.ac) a2) (hkey : lkOf x = lkOf y) (hborder : x.border = y.border) (hboundary : x.boundary = y.boundary) (hL : l1 = l2) (hA : a1 = a2) (hcost : x.cost = y.cost) (hsecond : x.second = y.second) (hfwd : x.fwd = y.fwd) (htag : x.tag ≠ y.tag) : Calls Tryz.prog 54 #[.agg (lsaE x).toArray, .agg (lsaE y).toArray] w (EqPost w false) := by
  obtain ⟨xtyp, xid, xlen, xrouter, xseq, xage, xsum, xborder, xboundary, xla, xln, xlc, xaa, xan, xac, xcost, xsecond, xfwd, xtag⟩ := x
  obtain ⟨ytyp, yid, ylen, yrouter, yseq, yage, ysum, yborder, yboundary, yla, yln, ylc, yaa, yan, yac, ycost, ysecond, yfwd, ytag⟩ := y
  simp only [lkOf] at hkey hborder hboundary hcost hsecond hfwd htag
  simp only at hl1 hl2 ha1 ha2
  have NE := eqKk xtyp xid xlen xrouter ytyp yid ylen yrouter
  have hkb : decide ((⟨xtyp, xid, xlen, xrouter⟩ : Kk) = ⟨ytyp, yid, ylen, yrouter⟩) = true := by simpa using hkey
  simp only [hkb] at NE
  clear hkb hkey
  subst hborder
  subst hboundary
  subst hcost
  subst hsecond
  subst hfwd
  have qtag : (xtag == ytag) = false := beq_eq_false_iff_ne.2 htag
  clear htag
  have K1 := Lib.hid (fun W => (pkey_calls xtyp xid xlen xrouter xseq xage xsum W).mono fun _ _ h => (⟨h.1, h.2.grow⟩ : _ ∧ ∃ q os, _ = Go.Sort.grow (World.drewN W q) os))
  have K2 := Lib.hid (fun W => (pkey_calls ytyp yid ylen yrouter yseq yage ysum W).mono fun _ _ h => (⟨h.1, h.2.grow⟩ : _ ∧ ∃ q os, _ = Go.Sort.grow (World.drewN W q) os))
  have mixed : Tryz.prog.follows .mixedOrders = true := by kernel_rfl
  simp only [keyE] at K1 K2
  simp only [lsaE]
  obtain ⟨W0, hW0⟩ : ∃ W0, (w.alloc (.cells #[.int .i64 xtyp, .int .u32 xid, .int .i64 xlen, .int .u32 xrouter, .int .i64 xseq, .int .i64 xage, .int .i64 xsum, .bool xborder, .bool xboundary, .slice xla xln xlc, .slice xaa xan xac, .int .i64 xcost, .bool xsecond, .int .u32 xfwd, .int .i64 xtag] 42)).alloc (.cells #[.int .i64 ytyp, .int .u32 yid, .int .i64 ylen, .int .u32 yrouter, .int .i64 yseq, .int .i64 yage, .int .i64 ysum, .bool xborder, .bool xboundary, .slice yla yln ylc, .slice yaa yan yac, .int .i64 xcost, .bool xsecond, .int .u32 xfwd, .int .i64 ytag] 42) = W0 := ⟨_, rfl⟩
  have b0 : W0.heap[w.heap.size]? = some (.cells #[.int .i64 xtyp, .int .u32 xid, .int .i64 xlen, .int .u32 xrouter, .int .i64 xseq, .int .i64 xage, .int .i64 xsum, .bool xborder, .bool xboundary, .slice xla xln xlc, .slice xaa xan xac, .int .i64 xcost, .bool xsecond, .int .u32 xfwd, .int .i64 xtag] 42 (0, 0)) := by rw [← hW0]; exact (alloc_get _ _ _ (by simp)).trans (alloc_new w _)
  have b1 : W0.heap[w.heap.size + 1]? = some (.cells #[.int .i64 ytyp, .int .u32 yid, .int .i64 ylen, .int .u32 yrouter, .int .i64 yseq, .int .i64 yage, .int .i64 ysum, .bool xborder, .bool xboundary, .slice yla yln ylc, .slice yaa yan yac, .int .i64 xcost, .bool xsecond, .int .u32 xfwd, .int .i64 ytag] 42 (0, 0)) := by rw [← hW0]; exact blk_new2 w _ _
  have G0 : Hid (Gr w W0) := Lib.hid (by rw [← hW0]; exact ((Gr.refl _).alloc _).alloc _)
  have HW0 := Lib.hid hW0
  clear hW0
  have EL := Lib.hid (fun n os => (eql_calls (Go.Sort.grow (W0.drewN n) os) _ _ l1 l2 ((hl1.below G0.out.b).below (Gr.of_grow n os).b) ((hl2.below G0.out.b).below (Gr.of_grow n os).b)).mono fun _ _ h => (⟨h.1, h.2.grow⟩ : _ ∧ ∃ q os', _ = Go.Sort.grow (World.drewN (Go.Sort.grow (W0.drewN n) os) q) os'))
  have hLb : decide (l1 = l2) = true := by simpa using hL
  simp only [hLb] at EL
  have EA := Lib.hid (fun n os => (eqw_calls (Go.Sort.grow (W0.drewN n) os) _ _ a1 a2 ((ha1.below G0.out.b).below (Gr.of_grow n os).b) ((ha2.below G0.out.b).below (Gr.of_grow n os).b)).mono fun _ _ h => (⟨h.1, h.2.grow⟩ : _ ∧ ∃ q os', _ = Go.Sort.grow (World.drewN (Go.Sort.grow (W0.drewN n) os) q) os'))
  have hAb : decide (a1 = a2) = true := by simpa using hA
  simp only [hAb] at EA
  clear hl1 hl2 ha1 ha2 hLb hL hAb hA
  obtain ⟨⟨⟨d0, d1, d2, d3, d4⟩, ⟨d5, d6, d7, d8, d9⟩, ⟨d10, d11, d12, d13, d14⟩⟩, -⟩ := blk15 b0
  obtain ⟨⟨⟨e0, e1, e2, e3, e4⟩, ⟨e5, e6, e7, e8, e9⟩, ⟨e10, e11, e12, e13, e14⟩⟩, -⟩ := blk15 b1
  clear b0 b1
  have p0 := gCl d0
  have q0 := gCl e0
  have p1 := gCl d1
  have q1 := gCl e1
  have p2 := gCl d2
  have q2 := gCl e2
  have p3 := gCl d3
  have q3 := gCl e3
  have p4 := gCl d4
  have q4 := gCl e4
  have p5 := gCl d5
  have q5 := gCl e5
  have p6 := gCl d6
  have q6 := gCl e6
  have p7 := gCl d7
  have q7 := gCl e7
  have p8 := gCl d8
  have q8 := gCl e8
  have p9 := gCl d9
  have q9 := gCl e9
  have p10 := gCl d10
  have q10 := gCl e10
  have p11 := gCl d11
  have q11 := gCl e11
  have p12 := gCl d12
  have q12 := gCl e12
  have p13 := gCl d13
  have q13 := gCl e13
  have p14 := gCl d14
  have q14 := gCl e14
  clear d0 e0 d1 e1 d2 e2 d3 e3 d4 e4 d5 e5 d6 e6 d7 e7 d8 e8 d9 e9 d10 e10 d11 e11 d12 e12 d13 e13 d14 e14
  go_enter Tryz.func54, Tryz.ntmps54
  go_upto_region 1 with fail
  rw [HW0.out]
  clear HW0
  refine wp_region_quiet_grown (by assumption) (by kernel_rfl) ?_
  repeat (go_big_quiet_step (first
    | (go_at_call 53; with_reducible first | exact Calls.grown_of (K1.out _) | exact Calls.grown_of (K2.out _))
    | (go_at_call 87; with_reducible exact Calls.grown_of (EL.out _ _))
    | (go_at_call 88; with_reducible exact Calls.grown_of (EA.out _ _))))
  refine wpQuiet_nil ?_
  intro _ hw'
  obtain ⟨⟨nq, osq⟩, hw''⟩ := hw'
  subst hw''
  have FIN : Hid (Gr w (Go.Sort.grow (W0.drewN nq) osq)) := Lib.hid (G0.out.trans (Gr.of_grow nq osq))
  clear p0 q0 p1 q1 p2 q2 p3 q3 p4 q4 p5 q5 p6 q6 p7 q7 p8 q8 p9 q9 p10 q10 p11 q11 p12 q12 p13 q13 p14 q14 K1 K2 EL EA
  go_wp2_with fail
  go_ret
  exact ⟨rfl, FIN.out⟩

set_option maxHeartbeats 8000000 in
set_option maxRecDepth 100000 in
theorem lsb_9 (x y : Lsa) (l1 l2 : List Lnk) (a1 a2 : List Int) (w : World) (hl1 : LnksAt w (.slice x.la x.ln x.lc) l1) (hl2 : LnksAt w (.slice y.la y.ln y.lc) l2) (ha1 : WordsAt w (.slice x.aa x.an x.ac) a1) (ha2 : WordsAt w (.slice y.aa y.an y.ac) a2) (hkey : lkOf x = lkOf y) (hborder : x.border = y.border) (hboundary : x.boundary = y.boundary) (hL : l1 = l2) (hA : a1 = a2) (hcost : x.cost = y.cost) (hsecond : x.second = y.second) (hfwd : x.fwd = y.fwd) (htag : x.tag = y.tag) : Calls Tryz.prog 54 #[.agg (lsaE x).toArray, .agg (lsaE y).toArray] w (EqPost w true) := by
  obtain ⟨xtyp, xid, xlen, xrouter, xseq, xage, xsum, xborder, xboundary, xla, xln, xlc, xaa, xan, xac, xcost, xsecond, xfwd, xtag⟩ := x
  obtain ⟨ytyp, yid, ylen, yrouter, yseq, yage, ysum, yborder, yboundary, yla, yln, ylc, yaa, yan, yac, ycost, ysecond, yfwd, ytag⟩ := y
  simp only [lkOf] at hkey hborder hboundary hcost hsecond hfwd htag
  simp only at hl1 hl2 ha1 ha2
  have NE := eqKk xtyp xid xlen xrouter ytyp yid ylen yrouter
  have hkb : decide ((⟨xtyp, xid, xlen, xrouter⟩ : Kk) = ⟨ytyp, yid, ylen, yrouter⟩) = true := by simpa using hkey
  simp only [hkb] at NE
  clear hkb hkey
  subst hborder
  subst hboundary
  subst hcost
  subst hsecond
  subst hfwd
  subst htag
  have K1 := Lib.hid (fun W => (pkey_calls xtyp xid xlen xrouter xseq xage xsum W).mono fun _ _ h => (⟨h.1, h.2.grow⟩ : _ ∧ ∃ q os, _ = Go.Sort.grow (World.drewN W q) os))
  have K2 := Lib.hid (fun W => (pkey_calls ytyp yid ylen yrouter yseq yage ysum W).mono fun _ _ h => (⟨h.1, h.2.grow⟩ : _ ∧ ∃ q os, _ = Go.Sort.grow (World.drewN W q) os))
  have mixed : Tryz.prog.follows .mixedOrders = true := by kernel_rfl
  simp only [keyE] at K1 K2
  simp only [lsaE]
  obtain ⟨W0, hW0⟩ : ∃ W0, (w.alloc (.cells #[.int .i64 xtyp, .int .u32 xid, .int .i64 xlen, .int .u32 xrouter, .int .i64 xseq, .int .i64 xage, .int .i64 xsum, .bool xborder, .bool xboundary, .slice xla xln xlc, .slice xaa xan xac, .int .i64 xcost, .bool xsecond, .int .u32 xfwd, .int .i64 xtag] 42)).alloc (.cells #[.int .i64 ytyp, .int .u32 yid, .int .i64 ylen, .int .u32 yrouter, .int .i64 yseq, .int .i64 yage, .int .i64 ysum, .bool xborder, .bool xboundary, .slice yla yln ylc, .slice yaa yan yac, .int .i64 xcost, .bool xsecond, .int .u32 xfwd, .int .i64 xtag] 42) = W0 := ⟨_, rfl⟩
  have b0 : W0.heap[w.heap.size]? = some (.cells #[.int .i64 xtyp, .int .u32 xid, .int .i64 xlen, .int .u32 xrouter, .int .i64 xseq, .int .i64 xage, .int .i64 xsum, .bool xborder, .bool xboundary, .slice xla xln xlc, .slice xaa xan xac, .int .i64 xcost, .bool xsecond, .int .u32 xfwd, .int .i64 xtag] 42 (0, 0)) := by rw [← hW0]; exact (alloc_get _ _ _ (by simp)).trans (alloc_new w _)
  have b1 : W0.heap[w.heap.size + 1]? = some (.cells #[.int .i64 ytyp, .int .u32 yid, .int .i64 ylen, .int .u32 yrouter, .int .i64 yseq, .int .i64 yage, .int .i64 ysum, .bool xborder, .bool xboundary, .slice yla yln ylc, .slice yaa yan yac, .int .i64 xcost, .bool xsecond, .int .u32 xfwd, .int .i64 xtag] 42 (0, 0)) := by rw [← hW0]; exact blk_new2 w _ _
  have G0 : Hid (Gr w W0) := Lib.hid (by rw [← hW0]; exact ((Gr.refl _).alloc _).alloc _)
  have HW0 := Lib.hid hW0
  clear hW0
  have EL := Lib.hid (fun n os => (eql_calls (Go.Sort.grow (W0.drewN n) os) _ _ l1 l2 ((hl1.below G0.out.b).below (Gr.of_grow n os).b) ((hl2.below G0.out.b).below (Gr.of_grow n os).b)).mono fun _ _ h => (⟨h.1, h.2.grow⟩ : _ ∧ ∃ q os', _ = Go.Sort.grow (World.drewN (Go.Sort.grow (W0.drewN n) os) q) os'))
  have hLb : decide (l1 = l2) = true := by simpa using hL
  simp only [hLb] at EL
  have EA := Lib.hid (fun n os => (eqw_calls (Go.Sort.grow (W0.drewN n) os) _ _ a1 a2 ((ha1.below G0.out.b).below (Gr.of_grow n os).b) ((ha2.below G0.out.b).below (Gr.of_grow n os).b)).mono fun _ _ h => (⟨h.1, h.2.grow⟩ : _ ∧ ∃ q os', _ = Go.Sort.grow (World.drewN (Go.Sort.grow (W0.drewN n) os) q) os'))
  have hAb : decide (a1 = a2) = true := by simpa using hA
  simp only [hAb] at EA
  clear hl1 hl2 ha1 ha2 hLb hL hAb hA
  obtain ⟨⟨⟨d0, d1, d2, d3, d4⟩, ⟨d5, d6, d7, d8, d9⟩, ⟨d10, d11, d12, d13, d14⟩⟩, -⟩ := blk15 b0
  obtain ⟨⟨⟨e0, e1, e2, e3, e4⟩, ⟨e5, e6, e7, e8, e9⟩, ⟨e10, e11, e12, e13, e14⟩⟩, -⟩ := blk15 b1
  clear b0 b1
  have p0 := gCl d0
  have q0 := gCl e0
  have p1 := gCl d1
  have q1 := gCl e1
  have p2 := gCl d2
  have q2 := gCl e2
  have p3 := gCl d3
  have q3 := gCl e3
  have p4 := gCl d4
  have q4 := gCl e4
  have p5 := gCl d5
  have q5 := gCl e5
  have p6 := gCl d6
  have q6 := gCl e6
  have p7 := gCl d7
  have q7 := gCl e7
  have p8 := gCl d8
  have q8 := gCl e8
  have p9 := gCl d9
  have q9 := gCl e9
  have p10 := gCl d10
  have q10 := gCl e10
  have p11 := gCl d11
  have q11 := gCl e11
  have p12 := gCl d12
  have q12 := gCl e12
  have p13 := gCl d13
  have q13 := gCl e13
  have p14 := gCl d14
  have q14 := gCl e14
  clear d0 e0 d1 e1 d2 e2 d3 e3 d4 e4 d5 e5 d6 e6 d7 e7 d8 e8 d9 e9 d10 e10 d11 e11 d12 e12 d13 e13 d14 e14
  go_enter Tryz.func54, Tryz.ntmps54
  go_upto_region 1 with fail
  rw [HW0.out]
  clear HW0
  refine wp_region_quiet_grown (by assumption) (by kernel_rfl) ?_
  repeat (go_big_quiet_step (first
    | (go_at_call 53; with_reducible first | exact Calls.grown_of (K1.out _) | exact Calls.grown_of (K2.out _))
    | (go_at_call 87; with_reducible exact Calls.grown_of (EL.out _ _))
    | (go_at_call 88; with_reducible exact Calls.grown_of (EA.out _ _))))
  refine wpQuiet_nil ?_
  intro _ hw'
  obtain ⟨⟨nq, osq⟩, hw''⟩ := hw'
  subst hw''
  have FIN : Hid (Gr w (Go.Sort.grow (W0.drewN nq) osq)) := Lib.hid (G0.out.trans (Gr.of_grow nq osq))
  clear p0 q0 p1 q1 p2 q2 p3 q3 p4 q4 p5 q5 p6 q6 p7 q7 p8 q8 p9 q9 p10 q10 p11 q11 p12 q12 p13 q13 p14 q14 K1 K2 EL EA
  go_wp2_with fail
  go_ret
  exact ⟨rfl, FIN.out⟩

theorem lsb_calls (x y : Lsa) (l1 l2 : List Lnk) (a1 a2 : List Int) (w : World) (hl1 : LnksAt w (.slice x.la x.ln x.lc) l1) (hl2 : LnksAt w (.slice y.la y.ln y.lc) l2) (ha1 : WordsAt w (.slice x.aa x.an x.ac) a1) (ha2 : WordsAt w (.slice y.aa y.an y.ac) a2) : Calls Tryz.prog 54 #[.agg (lsaE x).toArray, .agg (lsaE y).toArray] w (EqPost w (decide (SameB x y l1 l2 a1 a2))) := by
  by_cases hkey : lkOf x = lkOf y
  case neg => rw [show decide (SameB x y l1 l2 a1 a2) = false from decide_eq_false (fun h => hkey h.1)]; exact lsb_0 x y l1 l2 a1 a2 w hl1 hl2 ha1 ha2 hkey
  by_cases hborder : x.border = y.border
  case neg => rw [show decide (SameB x y l1 l2 a1 a2) = false from decide_eq_false (fun h => hborder h.2.1)]; exact lsb_1 x y l1 l2 a1 a2 w hl1 hl2 ha1 ha2 hkey hborder
  by_cases hboundary : x.boundary = y.boundary
  case neg => rw [show decide (SameB x y l1 l2 a1 a2) = false from decide_eq_false (fun h => hboundary h.2.2.1)]; exact lsb_2 x y l1 l2 a1 a2 w hl1 hl2 ha1 ha2 hkey hborder hboundary
  by_cases hL : l1 = l2
  case neg => rw [show decide (SameB x y l1 l2 a1 a2) = false from decide_eq_false (fun h => hL h.2.2.2.1)]; exact lsb_3 x y l1 l2 a1 a2 w hl1 hl2 ha1 ha2 hkey hborder hboundary hL
  by_cases hA : a1 = a2
  case neg => rw [show decide (SameB x y l1 l2 a1 a2) = false from decide_eq_false (fun h => hA h.2.2.2.2.1)]; exact lsb_4 x y l1 l2 a1 a2 w hl1 hl2 ha1 ha2 hkey hborder hboundary hL hA
  by_cases hcost : x.cost = y.cost
  case neg => rw [show decide (SameB x y l1 l2 a1 a2) = false from decide_eq_false (fun h => hcost h.2.2.2.2.2.1)]; exact lsb_5 x y l1 l2 a1 a2 w hl1 hl2 ha1 ha2 hkey hborder hboundary hL hA hcost
  by_cases hsecond : x.second = y.second
  case neg => rw [show decide (SameB x y l1 l2 a1 a2) = false from decide_eq_false (fun h => hsecond h.2.2.2.2.2.2.1)]; exact lsb_6 x y l1 l2 a1 a2 w hl1 hl2 ha1 ha2 hkey hborder hboundary hL hA hcost hsecond
  by_cases hfwd : x.fwd = y.fwd
  case neg => rw [show decide (SameB x y l1 l2 a1 a2) = false from decide_eq_false (fun h => hfwd h.2.2.2.2.2.2.2.1)]; exact lsb_7 x y l1 l2 a1 a2 w hl1 hl2 ha1 ha2 hkey hborder hboundary hL hA hcost hsecond hfwd
  by_cases htag : x.tag = y.tag
  case neg => rw [show decide (SameB x y l1 l2 a1 a2) = false from decide_eq_false (fun h => htag h.2.2.2.2.2.2.2.2)]; exact lsb_8 x y l1 l2 a1 a2 w hl1 hl2 ha1 ha2 hkey hborder hboundary hL hA hcost hsecond hfwd htag
  rw [show decide (SameB x y l1 l2 a1 a2) = true from decide_eq_true ⟨hkey, hborder, hboundary, hL, hA, hcost, hsecond, hfwd, htag⟩]
  exact lsb_9 x y l1 l2 a1 a2 w hl1 hl2 ha1 ha2 hkey hborder hboundary hL hA hcost hsecond hfwd htag

end Go.Proofs.YtddageahmgaigaaGreat
