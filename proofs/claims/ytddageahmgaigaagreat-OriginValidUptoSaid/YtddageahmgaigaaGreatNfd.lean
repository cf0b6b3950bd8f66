import Derived.Test.YtddageahmgaigaaGreatNxt
namespace Go.Proofs.YtddageahmgaigaaGreat
open Go.RowKit

def MidN (w : World) (c : Array Value) (wx : World) : Prop := wx.heap[w.heap.size]? = some (.cells c 42 (0, 0)) ∧ wx.heap[w.heap.size + 1]? = some (.cells #[.int .i64 0, .int .u32 0, .int .i64 0, .int .u32 0, .int .i64 0, .int .i64 0, .int .i64 0, .bool false, .bool false, .slice none 0 0, .slice none 0 0, .int .i64 0, .bool false, .int .u32 0, .int .i64 0] 42 (0, 0)) ∧ Below w.heap.size w wx

set_option maxHeartbeats 16000000 in
set_option maxRecDepth 100000 in
theorem next_oD0 (w : World) (v : Value) (db : List LsaD) (h : LsasAt w v (db.map LsaD.x)) (hd : ∀ d ∈ db, LL w d.x d.lk d.att) (x : Lsa) (lk : List Lnk) (att : List Int) (hx : DIn w ⟨x, lk, att⟩) (nl : lk.length ≤ 1048576) (na : att.length ≤ 1048576) (d : LsaD) (hdm : d ∈ db) (hk : lkOf d.x = lkOf x) (un : ∀ d' ∈ db, lkOf d'.x = lkOf x → d' = d) (hs : SameB d.x x d.lk lk d.att att) (ha : ¬ d.x.age < 1800) (hq : d.x.seq < 2147483647) (hq1 : 1 ≤ d.x.seq) (hz : LsaIs { x with seq := d.x.seq + 1, age := 0, sum := 0 } lk att 0) :
    Calls Tryz.prog 20 #[v, .agg (lsaE x).toArray] w (NxSeal w { x with seq := d.x.seq + 1, age := 0, sum := 0 } lk att) := by
  have GC : Hid (∀ W, Below w.heap.size w W → Calls Tryz.prog 52 #[v, .agg #[.int .i64 x.typ, .int .u32 x.id, .int .i64 x.len, .int .u32 x.router]] W fun e w' => ∃ a1 c1 a2 c2, e = .returned (.tuple #[.agg (lsaE (atL d.x a1 c1 a2 c2)).toArray, .bool true]) ∧ LnksAt w' (.slice a1 d.x.ln c1) d.lk ∧ WordsAt w' (.slice a2 d.x.an c2) d.att ∧ Below W.heap.size W w') := Lib.hid (fun W hb => (lget_calls W v db (h.below hb) (fun d hm => (hd d hm).below hb) x.typ x.id x.len x.router).mono fun e w' hp => by
    rcases hp with ⟨h1, _⟩ | ⟨d', h1, h2, a1, c1, a2, c2, h3, h4, h5, h6, _⟩
    · exact absurd hk (h1 d hdm)
    · obtain rfl := un d' h1 h2
      exact ⟨a1, c1, a2, c2, h3, h4, h5, h6⟩)
  have SBC : Hid (∀ W a1 c1 a2 c2, Below w.heap.size w W → LnksAt W (.slice a1 d.x.ln c1) d.lk → WordsAt W (.slice a2 d.x.an c2) d.att → Calls Tryz.prog 54 #[.agg (lsaE (atL d.x a1 c1 a2 c2)).toArray, .agg (lsaE x).toArray] W (EqPost W true)) := Lib.hid (fun W a1 c1 a2 c2 hb h1 h2 => by
    have hc := lsb_calls (atL d.x a1 c1 a2 c2) x d.lk lk d.att att W h1 (hx.lk.below hb) h2 (hx.att.below hb)
    rw [show decide (SameB (atL d.x a1 c1 a2 c2) x d.lk lk d.att att) = true from decide_eq_true hs] at hc
    exact hc)
  have SC := Lib.hid (fun W (hb : Below w.heap.size w W) => lseal_ok { x with seq := d.x.seq + 1, age := 0, sum := 0 } lk att W ((DIn.mk (d := ⟨{ x with seq := d.x.seq + 1, age := 0, sum := 0 }, lk, att⟩) ⟨hx.ok.id0, hx.ok.id1, hx.ok.r0, hx.ok.r1, hx.ok.f0, hx.ok.f1⟩ hx.lk hx.lr hx.att hx.ar).below hb) nl na hz)
  have HZ := Lib.hid hz
  clear hz
  obtain ⟨a0, c0, rfl, hlen, -⟩ := h.get
  obtain ⟨nv, hnv⟩ : ∃ nv, (db.map LsaD.x).length = nv := ⟨_, rfl⟩
  rw [hnv] at GC ⊢
  clear h hd hx nl na hlen hnv hdm hk un hs
  obtain ⟨y, dlk, datt⟩ := d
  obtain ⟨ytyp, yid, ylen, yrouter, yseq, yage, ysum, yborder, yboundary, yla, yln, ylc, yaa, yan, yac, ycost, ysecond, yfwd, ytag⟩ := y
  obtain ⟨xtyp, xid, xlen, xrouter, xseq, xage, xsum, xborder, xboundary, xla, xln, xlc, xaa, xan, xac, xcost, xsecond, xfwd, xtag⟩ := x
  simp only [lsaE, atL] at SBC GC ⊢
  simp only [lsaE] at SC
  simp only at ha
  have ga : decide (yage < 1800) = false := decide_eq_false ha
  simp only at hq hq1
  have gq : decide (2147483647 ≤ yseq) = false := decide_eq_false (by omega)
  obtain ⟨W0, hW0⟩ : ∃ W0, (w.alloc (.cells #[.int .i64 xtyp, .int .u32 xid, .int .i64 xlen, .int .u32 xrouter, .int .i64 xseq, .int .i64 xage, .int .i64 xsum, .bool xborder, .bool xboundary, .slice xla xln xlc, .slice xaa xan xac, .int .i64 xcost, .bool xsecond, .int .u32 xfwd, .int .i64 xtag] 42)).alloc (.cells #[.int .i64 0, .int .u32 0, .int .i64 0, .int .u32 0, .int .i64 0, .int .i64 0, .int .i64 0, .bool false, .bool false, .slice none 0 0, .slice none 0 0, .int .i64 0, .bool false, .int .u32 0, .int .i64 0] 42) = W0 := ⟨_, rfl⟩
  have B0 : Hid (Below w.heap.size w W0) := Lib.hid (by rw [← hW0]; exact ((Below.refl _ _).alloc (Nat.le_refl _) _).alloc (by simp) _)
  have X0 : Hid (W0.heap[w.heap.size]? = some (.cells #[.int .i64 xtyp, .int .u32 xid, .int .i64 xlen, .int .u32 xrouter, .int .i64 xseq, .int .i64 xage, .int .i64 xsum, .bool xborder, .bool xboundary, .slice xla xln xlc, .slice xaa xan xac, .int .i64 xcost, .bool xsecond, .int .u32 xfwd, .int .i64 xtag] 42 (0, 0))) := Lib.hid (by rw [← hW0]; exact (alloc_get _ _ _ (by simp)).trans (alloc_new _ _))
  have Z0 : Hid (W0.heap[w.heap.size + 1]? = some (.cells #[.int .i64 0, .int .u32 0, .int .i64 0, .int .u32 0, .int .i64 0, .int .i64 0, .int .i64 0, .bool false, .bool false, .slice none 0 0, .slice none 0 0, .int .i64 0, .bool false, .int .u32 0, .int .i64 0] 42 (0, 0))) := Lib.hid (by rw [← hW0]; exact blk_new2 w _ _)
  have HW0 := Lib.hid hW0
  clear hW0
  have KC := Lib.hid (pkey_calls xtyp xid xlen xrouter xseq xage xsum W0)
  obtain ⟨⟨⟨d0, d1, d2, d3, d4⟩, ⟨d5, d6, d7, d8, d9⟩, ⟨d10, d11, d12, d13, d14⟩⟩, -⟩ := blk15 X0.out
  simp only [keyE] at KC
  go_enter Tryz.func20, Tryz.ntmps20
  go_upto_region 1 with fail
  rw [HW0.out]
  go_wp2_with fail
  refine KC.out.mono ?_
  rintro e w1 ⟨rfl, G1⟩
  have HB1 := Lib.hid (B0.out.trans (G1.b.mono B0.out.size))
  have X1 := Lib.hid ((G1.b.block _ (blk_lt X0.out)).trans X0.out)
  have Z1 := Lib.hid ((G1.b.block _ (blk_lt Z0.out)).trans Z0.out)
  have GC1 := Lib.hid (GC.out w1 HB1.out)
  clear GC KC G1 d0 d1 d2 d3 d4 d5 d6 d7 d8 d9 d10 d11 d12 d13 d14
  go_wp2_with fail
  refine GC1.out.mono ?_
  rintro e w2 ⟨a1, c1, a2, c2, rfl, SL0, SA0, B2⟩
  have HB2 := Lib.hid (HB1.out.trans (B2.mono HB1.out.size))
  have X2 := Lib.hid ((B2.block _ (blk_lt X1.out)).trans X1.out)
  have Z2 := Lib.hid ((B2.block _ (blk_lt Z1.out)).trans Z1.out)
  clear GC1 B2
  obtain ⟨W3, hW3⟩ : ∃ W3, w2.alloc (.cells #[.int .i64 ytyp, .int .u32 yid, .int .i64 ylen, .int .u32 yrouter, .int .i64 yseq, .int .i64 yage, .int .i64 ysum, .bool yborder, .bool yboundary, .slice a1 yln c1, .slice a2 yan c2, .int .i64 ycost, .bool ysecond, .int .u32 yfwd, .int .i64 ytag] 42) = W3 := ⟨_, rfl⟩
  have B3 : Below w2.heap.size w2 W3 := by rw [← hW3]; exact (Below.refl _ _).alloc (Nat.le_refl _) _
  have HB3 := Lib.hid (HB2.out.trans (B3.mono HB2.out.size))
  have X3 := Lib.hid ((B3.block _ (blk_lt X2.out)).trans X2.out)
  have Z3 := Lib.hid ((B3.block _ (blk_lt Z2.out)).trans Z2.out)
  have T3 : Hid (W3.heap[w2.heap.size]? = some (.cells #[.int .i64 ytyp, .int .u32 yid, .int .i64 ylen, .int .u32 yrouter, .int .i64 yseq, .int .i64 yage, .int .i64 ysum, .bool yborder, .bool yboundary, .slice a1 yln c1, .slice a2 yan c2, .int .i64 ycost, .bool ysecond, .int .u32 yfwd, .int .i64 ytag] 42 (0, 0))) := Lib.hid (by rw [← hW3]; exact alloc_new _ _)
  have SB3 := Lib.hid (SBC.out W3 a1 c1 a2 c2 HB3.out (SL0.below B3) (SA0.below B3))
  have n3 : ¬ w2.heap.size = w.heap.size := by have := blk_lt X2.out; omega
  have n3' : ¬ w.heap.size = w2.heap.size := by have := blk_lt X2.out; omega
  have HW3 := Lib.hid hW3
  clear hW3 B3 SBC SL0 SA0
  go_upto_region 2 with fail
  rw [HW3.out]
  obtain ⟨⟨⟨d0, d1, d2, d3, d4⟩, ⟨d5, d6, d7, d8, d9⟩, ⟨d10, d11, d12, d13, d14⟩⟩, -⟩ := blk15 X3.out
  obtain ⟨⟨⟨p0, p1, p2, p3, p4⟩, ⟨p5, p6, p7, p8, p9⟩, ⟨p10, p11, p12, p13, p14⟩⟩, -⟩ := blk15 T3.out
  go_wp2_with fail
  refine SB3.out.mono ?_
  rintro e w4 ⟨rfl, G4⟩
  have HB4 := Lib.hid (HB3.out.trans (G4.b.mono HB3.out.size))
  have X4 := Lib.hid ((G4.b.block _ (blk_lt X3.out)).trans X3.out)
  have Z4 := Lib.hid ((G4.b.block _ (blk_lt Z3.out)).trans Z3.out)
  have T4 := Lib.hid ((G4.b.block _ (blk_lt T3.out)).trans T3.out)
  clear SB3 G4 d0 d1 d2 d3 d4 d5 d6 d7 d8 d9 d10 d11 d12 d13 d14 p0 p1 p2 p3 p4 p5 p6 p7 p8 p9 p10 p11 p12 p13 p14
  have t4 : w4.cell? ⟨w2.heap.size, 4, none⟩ = some (.int .i64 yseq) := blk_cell T4.out rfl
  have t5 : w4.cell? ⟨w2.heap.size, 5, none⟩ = some (.int .i64 yage) := blk_cell T4.out rfl
  obtain ⟨WS, hWS⟩ : ∃ WS, ((((w4.setCell ⟨w.heap.size, 5, none⟩ (.int .i64 0)).setCell ⟨w.heap.size, 4, none⟩ (.int .i64 1)).setCell ⟨w.heap.size, 4, none⟩ (.int .i64 (yseq + 1))).setCell ⟨w.heap.size, 6, none⟩ (.int .i64 0)) = WS := ⟨_, rfl⟩
  have XS : Hid (WS.heap[w.heap.size]? = some (.cells #[.int .i64 xtyp, .int .u32 xid, .int .i64 xlen, .int .u32 xrouter, .int .i64 (yseq + 1), .int .i64 0, .int .i64 0, .bool xborder, .bool xboundary, .slice xla xln xlc, .slice xaa xan xac, .int .i64 xcost, .bool xsecond, .int .u32 xfwd, .int .i64 xtag] 42 (0, 0))) := Lib.hid (by
    rw [← hWS]
    have h1 := (blk_set (blk_set (blk_set (blk_set X4.out 5 (.int .i64 0)) 4 (.int .i64 1)) 4 (.int .i64 (yseq + 1))) 6 (.int .i64 0))
    simp only [List.setIfInBounds_toArray, List.set_cons_zero, List.set_cons_succ] at h1
    exact h1)
  have ZS : Hid (WS.heap[w.heap.size + 1]? = some (.cells #[.int .i64 0, .int .u32 0, .int .i64 0, .int .u32 0, .int .i64 0, .int .i64 0, .int .i64 0, .bool false, .bool false, .slice none 0 0, .slice none 0 0, .int .i64 0, .bool false, .int .u32 0, .int .i64 0] 42 (0, 0))) := Lib.hid (by
    rw [← hWS, blk_other _ _ _ _ (by simp), blk_other _ _ _ _ (by simp), blk_other _ _ _ _ (by simp), blk_other _ _ _ _ (by simp)]; exact Z4.out)
  have BS : Hid (Below w.heap.size w WS) := Lib.hid (by
    rw [← hWS]
    exact ((((HB4.out.setCell (p := ⟨w.heap.size, 5, none⟩) (Nat.le_refl _) _).setCell (p := ⟨w.heap.size, 4, none⟩) (Nat.le_refl _) _).setCell (p := ⟨w.heap.size, 4, none⟩) (Nat.le_refl _) _).setCell (p := ⟨w.heap.size, 6, none⟩) (Nat.le_refl _) _))
  have HWS := Lib.hid hWS
  clear hWS
  have k4 : w4.cell? ⟨w.heap.size, 4, none⟩ = some (.int .i64 xseq) := blk_cell X4.out rfl
  have k5 : w4.cell? ⟨w.heap.size, 5, none⟩ = some (.int .i64 xage) := blk_cell X4.out rfl
  have k6 : w4.cell? ⟨w.heap.size, 6, none⟩ = some (.int .i64 xsum) := blk_cell X4.out rfl
  have kf4 := blk_free X4.out 4
  have kf5 := blk_free X4.out 5
  have kf6 := blk_free X4.out 6
  go_upto_region 9 with fail
  have MID : Hid (MidN w #[.int .i64 xtyp, .int .u32 xid, .int .i64 xlen, .int .u32 xrouter, .int .i64 (yseq + 1), .int .i64 0, .int .i64 0, .bool xborder, .bool xboundary, .slice xla xln xlc, .slice xaa xan xac, .int .i64 xcost, .bool xsecond, .int .u32 xfwd, .int .i64 xtag] WS) := Lib.hid ⟨XS.out, ZS.out, BS.out⟩
  clear XS ZS BS t4 t5 kf4 kf5 k4 k5 T4 X4 Z4 HB4
  go_cut [] (fun wx => MidN w #[.int .i64 xtyp, .int .u32 xid, .int .i64 xlen, .int .u32 xrouter, .int .i64 (yseq + 1), .int .i64 0, .int .i64 0, .bool xborder, .bool xboundary, .slice xla xln xlc, .slice xaa xan xac, .int .i64 xcost, .bool xsecond, .int .u32 xfwd, .int .i64 xtag] wx)
  case first =>
    clear SC
    go_wp2_with fail
    go_meet
    rw [HWS.out]
    exact MID.out
  case rest =>
    clear MID HWS k6 kf6
    obtain ⟨XS0, ZS0, BS0⟩ := hcut
    have XS := Lib.hid XS0
    have ZS := Lib.hid ZS0
    have BS := Lib.hid BS0
    clear XS0 ZS0 BS0
    have SC1 := Lib.hid (SC.out wc BS.out)
    clear SC
    obtain ⟨⟨⟨e0, e1, e2, e3, e4⟩, ⟨e5, e6, e7, e8, e9⟩, ⟨e10, e11, e12, e13, e14⟩⟩, -⟩ := blk15 XS.out
    go_wp2_with fail
    refine SC1.out.mono ?_
    clear SC1 e0 e1 e2 e3 e4 e5 e6 e7 e8 e9 e10 e11 e12 e13 e14
    rintro e w5 ⟨b1, j1, b2, j2, rfl, SL0, SA0, B5, FL, FA⟩
    have HC := HZ
    obtain ⟨sm, hsm⟩ : ∃ sm, sumD ⟨⟨xtyp, xid, xlen, xrouter, yseq + 1, 0, 0, xborder, xboundary, xla, xln, xlc, xaa, xan, xac, xcost, xsecond, xfwd, xtag⟩, lk, att⟩ = sm := ⟨_, rfl⟩
    have HSM := Lib.hid hsm
    simp only [lsaE, atL]
    simp only [hsm]
    clear hsm
    obtain ⟨W6, hW6⟩ : ∃ W6, w5.alloc (.cells #[.int .i64 xtyp, .int .u32 xid, .int .i64 xlen, .int .u32 xrouter, .int .i64 (yseq + 1), .int .i64 0, .int .i64 sm, .bool xborder, .bool xboundary, .slice b1 xln j1, .slice b2 xan j2, .int .i64 xcost, .bool xsecond, .int .u32 xfwd, .int .i64 xtag] 42) = W6 := ⟨_, rfl⟩
    have b6 : W6.heap[w5.heap.size]? = some (.cells #[.int .i64 xtyp, .int .u32 xid, .int .i64 xlen, .int .u32 xrouter, .int .i64 (yseq + 1), .int .i64 0, .int .i64 sm, .bool xborder, .bool xboundary, .slice b1 xln j1, .slice b2 xan j2, .int .i64 xcost, .bool xsecond, .int .u32 xfwd, .int .i64 xtag] 42 (0, 0)) := by rw [← hW6]; exact alloc_new _ _
    have B6 : Below w5.heap.size w5 W6 := by rw [← hW6]; exact (Below.refl _ _).alloc (Nat.le_refl _) _
    have HB6 := Lib.hid ((BS.out.trans (B5.mono BS.out.size)).trans (B6.mono (Nat.le_trans BS.out.size B5.size)))
    have Z6 := Lib.hid ((B6.block _ (Nat.lt_of_lt_of_le (blk_lt ZS.out) B5.size)).trans ((B5.block _ (blk_lt ZS.out)).trans ZS.out))
    have HW6 := Lib.hid hW6
    have bs := blk_lt ZS.out
    have bne : ¬ w5.heap.size = w.heap.size + 1 := by have := B5.size; omega
    have SL6 := Lib.hid (SL0.below B6)
    have SA6 := Lib.hid (SA0.below B6)
    have HFL := Lib.hid FL
    have HFA := Lib.hid FA
    clear hW6 B5 B6 SL0 SA0 FL FA
    go_upto_region 11 with fail
    rw [HW6.out]
    obtain ⟨⟨⟨f0, f1, f2, f3, f4⟩, ⟨f5, f6, f7, f8, f9⟩, ⟨f10, f11, f12, f13, f14⟩⟩, -⟩ := blk15 b6
    obtain ⟨W', hW'⟩ : ∃ W', setLsa W6 (w.heap.size + 1) ⟨xtyp, xid, xlen, xrouter, yseq + 1, 0, sm, xborder, xboundary, b1, xln, j1, b2, xan, j2, xcost, xsecond, xfwd, xtag⟩ = W' := ⟨_, rfl⟩
    have bk' : W'.heap[w.heap.size + 1]? = some (.cells #[.int .i64 xtyp, .int .u32 xid, .int .i64 xlen, .int .u32 xrouter, .int .i64 (yseq + 1), .int .i64 0, .int .i64 sm, .bool xborder, .bool xboundary, .slice b1 xln j1, .slice b2 xan j2, .int .i64 xcost, .bool xsecond, .int .u32 xfwd, .int .i64 xtag] 42 (0, 0)) := by rw [← hW']; exact setLsa_blk Z6.out _
    have BW' : Below w.heap.size w W' := by rw [← hW']; exact setLsa_below HB6.out (Nat.le_add_right _ _) _
    have BN : W6.grownBy W' (some (w.heap.size + 1)) := by rw [← hW']; exact setLsa_grown _ _ _
    have SL : LnksAt W' (.slice b1 xln j1) lk := SL6.out.far HFL.out bs BN
    have SA : WordsAt W' (.slice b2 xan j2) att := SA6.out.far HFA.out bs BN
    have FIN : Hid (NxSeal w ⟨xtyp, xid, xlen, xrouter, yseq + 1, 0, 0, xborder, xboundary, xla, xln, xlc, xaa, xan, xac, xcost, xsecond, xfwd, xtag⟩ lk att (.returned (.tuple #[.agg #[.int .i64 xtyp, .int .u32 xid, .int .i64 xlen, .int .u32 xrouter, .int .i64 (yseq + 1), .int .i64 0, .int .i64 sm, .bool xborder, .bool xboundary, .slice b1 xln j1, .slice b2 xan j2, .int .i64 xcost, .bool xsecond, .int .u32 xfwd, .int .i64 xtag], .bool true, .int .i64 0])) W') := Lib.hid ⟨0, HC.out, .inr ⟨rfl, b1, j1, b2, j2, by rw [← HSM.out]; rfl, SL, SA, BW', HFL.out.mono (by omega), HFA.out.mono (by omega)⟩⟩
    unfold setLsa at hW'
    simp only at hW'
    have HW' := Lib.hid hW'
    obtain ⟨⟨⟨z0, z1, z2, z3, z4⟩, ⟨z5, z6, z7, z8, z9⟩, ⟨z10, z11, z12, z13, z14⟩⟩, hfz⟩ := blk15 Z6.out
    have zf0 := hfz 0
    have zf1 := hfz 1
    have zf2 := hfz 2
    have zf3 := hfz 3
    have zf4 := hfz 4
    have zf5 := hfz 5
    have zf6 := hfz 6
    have zf7 := hfz 7
    have zf8 := hfz 8
    have zf9 := hfz 9
    have zf10 := hfz 10
    have zf11 := hfz 11
    have zf12 := hfz 12
    have zf13 := hfz 13
    have zf14 := hfz 14
    obtain ⟨⟨⟨g0, g1, g2, g3, g4⟩, ⟨g5, g6, g7, g8, g9⟩, ⟨g10, g11, g12, g13, g14⟩⟩, -⟩ := blk15 bk'
    have G := Lib.hid (And.intro g0 (And.intro g1 (And.intro g2 (And.intro g3 (And.intro g4 (And.intro g5 (And.intro g6 (And.intro g7 (And.intro g8 (And.intro g9 (And.intro g10 (And.intro g11 (And.intro g12 (And.intro g13 g14))))))))))))))
    clear hW' bk' BW' BN hfz g0 g1 g2 g3 g4 g5 g6 g7 g8 g9 g10 g11 g12 g13 g14 SL SA
    go_wp2_with fail
    rw [HW'.out]
    obtain ⟨g0, g1, g2, g3, g4, g5, g6, g7, g8, g9, g10, g11, g12, g13, g14⟩ := G.out
    exact bodyPost_ret (v := .tuple #[.agg #[.int .i64 xtyp, .int .u32 xid, .int .i64 xlen, .int .u32 xrouter, .int .i64 (yseq + 1), .int .i64 0, .int .i64 sm, .bool xborder, .bool xboundary, .slice b1 xln j1, .slice b2 xan j2, .int .i64 xcost, .bool xsecond, .int .u32 xfwd, .int .i64 xtag], .bool true, .int .i64 0]) (by simp [results, Tryz.results20, go_sem, g0, g1, g2, g3, g4, g5, g6, g7, g8, g9, g10, g11, g12, g13, g14]) rfl FIN.out

end Go.Proofs.YtddageahmgaigaaGreat
