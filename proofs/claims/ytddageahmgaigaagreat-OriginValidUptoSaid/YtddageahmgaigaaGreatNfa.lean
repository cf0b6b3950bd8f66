import Derived.Test.YtddageahmgaigaaGreatNxt
namespace Go.Proofs.YtddageahmgaigaaGreat
open Go.RowKit

def NxStop (w : World) (c : Int) (e : Ending) (w' : World) : Prop := e = .returned (.tuple #[.agg (lsaE lsaZ).toArray, .bool false, .int .i64 c]) ∧ Below w.heap.size w w'

set_option maxHeartbeats 16000000 in
set_option maxRecDepth 100000 in
theorem next_A (w : World) (v : Value) (db : List LsaD) (h : LsasAt w v (db.map LsaD.x)) (hd : ∀ d ∈ db, LL w d.x d.lk d.att) (x : Lsa) (lk : List Lnk) (att : List Int) (hx : DIn w ⟨x, lk, att⟩) (d : LsaD) (hdm : d ∈ db) (hk : lkOf d.x = lkOf x) (un : ∀ d' ∈ db, lkOf d'.x = lkOf x → d' = d) (hs : SameB d.x x d.lk lk d.att att) (ha : d.x.age < 1800) :
    Calls Tryz.prog 20 #[v, .agg (lsaE x).toArray] w (NxStop w 0) := by
  have GC : Hid (∀ W, Below w.heap.size w W → Calls Tryz.prog 52 #[v, .agg #[.int .i64 x.typ, .int .u32 x.id, .int .i64 x.len, .int .u32 x.router]] W fun e w' => ∃ a1 c1 a2 c2, e = .returned (.tuple #[.agg (lsaE (atL d.x a1 c1 a2 c2)).toArray, .bool true]) ∧ LnksAt w' (.slice a1 d.x.ln c1) d.lk ∧ WordsAt w' (.slice a2 d.x.an c2) d.att ∧ Below W.heap.size W w') := Lib.hid (fun W hb => (lget_calls W v db (h.below hb) (fun d hm => (hd d hm).below hb) x.typ x.id x.len x.router).mono fun e w' hp => by
    rcases hp with ⟨h1, _⟩ | ⟨d', h1, h2, a1, c1, a2, c2, h3, h4, h5, h6, _⟩
    · exact absurd hk (h1 d hdm)
    · obtain rfl := un d' h1 h2
      exact ⟨a1, c1, a2, c2, h3, h4, h5, h6⟩)
  have SBC : Hid (∀ W a1 c1 a2 c2, Below w.heap.size w W → LnksAt W (.slice a1 d.x.ln c1) d.lk → WordsAt W (.slice a2 d.x.an c2) d.att → Calls Tryz.prog 54 #[.agg (lsaE (atL d.x a1 c1 a2 c2)).toArray, .agg (lsaE x).toArray] W (EqPost W true)) := Lib.hid (fun W a1 c1 a2 c2 hb h1 h2 => by
    have hc := lsb_calls (atL d.x a1 c1 a2 c2) x d.lk lk d.att att W h1 (hx.lk.below hb) h2 (hx.att.below hb)
    rw [show decide (SameB (atL d.x a1 c1 a2 c2) x d.lk lk d.att att) = true from decide_eq_true hs] at hc
    exact hc)
  obtain ⟨a0, c0, rfl, hlen, -⟩ := h.get
  obtain ⟨nv, hnv⟩ : ∃ nv, (db.map LsaD.x).length = nv := ⟨_, rfl⟩
  rw [hnv] at GC ⊢
  clear h hd hx hlen hnv hdm hk un hs
  obtain ⟨y, dlk, datt⟩ := d
  obtain ⟨ytyp, yid, ylen, yrouter, yseq, yage, ysum, yborder, yboundary, yla, yln, ylc, yaa, yan, yac, ycost, ysecond, yfwd, ytag⟩ := y
  obtain ⟨xtyp, xid, xlen, xrouter, xseq, xage, xsum, xborder, xboundary, xla, xln, xlc, xaa, xan, xac, xcost, xsecond, xfwd, xtag⟩ := x
  simp only [lsaE, atL] at SBC GC ⊢
  simp only at ha
  have ga : decide (yage < 1800) = true := decide_eq_true ha
  obtain ⟨W0, hW0⟩ : ∃ W0, (w.alloc (.cells #[.int .i64 xtyp, .int .u32 xid, .int .i64 xlen, .int .u32 xrouter, .int .i64 xseq, .int .i64 xage, .int .i64 xsum, .bool xborder, .bool xboundary, .slice xla xln xlc, .slice xaa xan xac, .int .i64 xcost, .bool xsecond, .int .u32 xfwd, .int .i64 xtag] 42)).alloc (.cells #[.int .i64 0, .int .u32 0, .int .i64 0, .int .u32 0, .int .i64 0, .int .i64 0, .int .i64 0, .bool false, .bool false, .slice none 0 0, .slice none 0 0, .int .i64 0, .bool false, .int .u32 0, .int .i64 0] 42) = W0 := ⟨_, rfl⟩
  have B0 : Hid (Below w.heap.size w W0) := Lib.hid (by rw [← hW0]; exact ((Below.refl _ _).alloc (Nat.le_refl _) _).alloc (by simp) _)
  have X0 : Hid (W0.heap[w.heap.size]? = some (.cells #[.int .i64 xtyp, .int .u32 xid, .int .i64 xlen, .int .u32 xrouter, .int .i64 xseq, .int .i64 xage, .int .i64 xsum, .bool xborder, .bool xboundary, .slice xla xln xlc, .slice xaa xan xac, .int .i64 xcost, .bool xsecond, .int .u32 xfwd, .int .i64 xtag] 42 (0, 0))) := Lib.hid (by rw [← hW0]; exact (alloc_get _ _ _ (by simp)).trans (alloc_new _ _))
  have Z0 : Hid (W0.heap[w.heap.size + 1]? = some (.cells #[.int .i64 0, .int .u32 0, .int .i64 0, .int .u32 0, .int .i64 0, .int .i64 0, .int .i64 0, .bool false, .bool false, .slice none 0 0, .slice none 0 0, .int .i64 0, .bool false, .int .u32 0, .int .i64 0] 42 (0, 0))) := Lib.hid (by rw [← hW0]; exact blk_new2 w _ _)
  have HW0 := Lib.hid hW0
  clear hW0
  have KC := Lib.hid (pkey_calls xtyp xid xlen xrouter xseq xage xsum W0)
  obtain ⟨⟨⟨d0, d1, d2, d3, d4⟩, ⟨d5, d6, d7, d8, d9⟩, ⟨d10, d11, d12, d13, d14⟩⟩, -⟩ := blk15 X0.out
  simp only [keyE] at KC
  go_enter Tryz.func20, Tryz.ntmps20
  go_upto_region 1 with fail
  rw [HW0.out]
  go_wp2_with fail
  refine KC.out.mono ?_
  rintro e w1 ⟨rfl, G1⟩
  have HB1 := Lib.hid (B0.out.trans (G1.b.mono B0.out.size))
  have X1 := Lib.hid ((G1.b.block _ (blk_lt X0.out)).trans X0.out)
  have Z1 := Lib.hid ((G1.b.block _ (blk_lt Z0.out)).trans Z0.out)
  have GC1 := Lib.hid (GC.out w1 HB1.out)
  clear GC KC G1 d0 d1 d2 d3 d4 d5 d6 d7 d8 d9 d10 d11 d12 d13 d14
  go_wp2_with fail
  refine GC1.out.mono ?_
  rintro e w2 ⟨a1, c1, a2, c2, rfl, SL0, SA0, B2⟩
  have HB2 := Lib.hid (HB1.out.trans (B2.mono HB1.out.size))
  have X2 := Lib.hid ((B2.block _ (blk_lt X1.out)).trans X1.out)
  have Z2 := Lib.hid ((B2.block _ (blk_lt Z1.out)).trans Z1.out)
  clear GC1 B2
  obtain ⟨W3, hW3⟩ : ∃ W3, w2.alloc (.cells #[.int .i64 ytyp, .int .u32 yid, .int .i64 ylen, .int .u32 yrouter, .int .i64 yseq, .int .i64 yage, .int .i64 ysum, .bool yborder, .bool yboundary, .slice a1 yln c1, .slice a2 yan c2, .int .i64 ycost, .bool ysecond, .int .u32 yfwd, .int .i64 ytag] 42) = W3 := ⟨_, rfl⟩
  have B3 : Below w2.heap.size w2 W3 := by rw [← hW3]; exact (Below.refl _ _).alloc (Nat.le_refl _) _
  have HB3 := Lib.hid (HB2.out.trans (B3.mono HB2.out.size))
  have X3 := Lib.hid ((B3.block _ (blk_lt X2.out)).trans X2.out)
  have Z3 := Lib.hid ((B3.block _ (blk_lt Z2.out)).trans Z2.out)
  have T3 : Hid (W3.heap[w2.heap.size]? = some (.cells #[.int .i64 ytyp, .int .u32 yid, .int .i64 ylen, .int .u32 yrouter, .int .i64 yseq, .int .i64 yage, .int .i64 ysum, .bool yborder, .bool yboundary, .slice a1 yln c1, .slice a2 yan c2, .int .i64 ycost, .bool ysecond, .int .u32 yfwd, .int .i64 ytag] 42 (0, 0))) := Lib.hid (by rw [← hW3]; exact alloc_new _ _)
  have SB3 := Lib.hid (SBC.out W3 a1 c1 a2 c2 HB3.out (SL0.below B3) (SA0.below B3))
  have n3 : ¬ w2.heap.size = w.heap.size := by have := blk_lt X2.out; omega
  have n3' : ¬ w.heap.size = w2.heap.size := by have := blk_lt X2.out; omega
  have HW3 := Lib.hid hW3
  clear hW3 B3 SBC SL0 SA0
  go_upto_region 2 with fail
  rw [HW3.out]
  obtain ⟨⟨⟨d0, d1, d2, d3, d4⟩, ⟨d5, d6, d7, d8, d9⟩, ⟨d10, d11, d12, d13, d14⟩⟩, -⟩ := blk15 X3.out
  obtain ⟨⟨⟨p0, p1, p2, p3, p4⟩, ⟨p5, p6, p7, p8, p9⟩, ⟨p10, p11, p12, p13, p14⟩⟩, -⟩ := blk15 T3.out
  go_wp2_with fail
  refine SB3.out.mono ?_
  rintro e w4 ⟨rfl, G4⟩
  have HB4 := Lib.hid (HB3.out.trans (G4.b.mono HB3.out.size))
  have X4 := Lib.hid ((G4.b.block _ (blk_lt X3.out)).trans X3.out)
  have Z4 := Lib.hid ((G4.b.block _ (blk_lt Z3.out)).trans Z3.out)
  have T4 := Lib.hid ((G4.b.block _ (blk_lt T3.out)).trans T3.out)
  clear SB3 G4 d0 d1 d2 d3 d4 d5 d6 d7 d8 d9 d10 d11 d12 d13 d14 p0 p1 p2 p3 p4 p5 p6 p7 p8 p9 p10 p11 p12 p13 p14
  have t4 : w4.cell? ⟨w2.heap.size, 4, none⟩ = some (.int .i64 yseq) := blk_cell T4.out rfl
  have t5 : w4.cell? ⟨w2.heap.size, 5, none⟩ = some (.int .i64 yage) := blk_cell T4.out rfl
  obtain ⟨W', hW'⟩ : ∃ W', setLsa w4 (w.heap.size + 1) ⟨0, 0, 0, 0, 0, 0, 0, false, false, none, 0, 0, none, 0, 0, 0, false, 0, 0⟩ = W' := ⟨_, rfl⟩
  have bk' : W'.heap[w.heap.size + 1]? = some (.cells #[.int .i64 0, .int .u32 0, .int .i64 0, .int .u32 0, .int .i64 0, .int .i64 0, .int .i64 0, .bool false, .bool false, .slice none 0 0, .slice none 0 0, .int .i64 0, .bool false, .int .u32 0, .int .i64 0] 42 (0, 0)) := by rw [← hW']; exact setLsa_blk Z4.out _
  have BW' : Below w.heap.size w W' := by rw [← hW']; exact setLsa_below HB4.out (Nat.le_add_right _ _) _
  have BN : w4.grownBy W' (some (w.heap.size + 1)) := by rw [← hW']; exact setLsa_grown _ _ _
  have FIN : Hid (NxStop w 0 (.returned (.tuple #[.agg #[.int .i64 0, .int .u32 0, .int .i64 0, .int .u32 0, .int .i64 0, .int .i64 0, .int .i64 0, .bool false, .bool false, .slice none 0 0, .slice none 0 0, .int .i64 0, .bool false, .int .u32 0, .int .i64 0], .bool false, .int .i64 0])) W') := Lib.hid ⟨rfl, BW'⟩
  unfold setLsa at hW'
  simp only at hW'
  have HW' := Lib.hid hW'
  obtain ⟨⟨⟨z0, z1, z2, z3, z4⟩, ⟨z5, z6, z7, z8, z9⟩, ⟨z10, z11, z12, z13, z14⟩⟩, hfz⟩ := blk15 Z4.out
  have zf0 := hfz 0
  have zf1 := hfz 1
  have zf2 := hfz 2
  have zf3 := hfz 3
  have zf4 := hfz 4
  have zf5 := hfz 5
  have zf6 := hfz 6
  have zf7 := hfz 7
  have zf8 := hfz 8
  have zf9 := hfz 9
  have zf10 := hfz 10
  have zf11 := hfz 11
  have zf12 := hfz 12
  have zf13 := hfz 13
  have zf14 := hfz 14
  obtain ⟨⟨⟨g0, g1, g2, g3, g4⟩, ⟨g5, g6, g7, g8, g9⟩, ⟨g10, g11, g12, g13, g14⟩⟩, -⟩ := blk15 bk'
  have G := Lib.hid (And.intro g0 (And.intro g1 (And.intro g2 (And.intro g3 (And.intro g4 (And.intro g5 (And.intro g6 (And.intro g7 (And.intro g8 (And.intro g9 (And.intro g10 (And.intro g11 (And.intro g12 (And.intro g13 g14))))))))))))))
  clear hW' bk' BW' BN hfz g0 g1 g2 g3 g4 g5 g6 g7 g8 g9 g10 g11 g12 g13 g14
  go_wp2_with fail
  rw [HW'.out]
  obtain ⟨g0, g1, g2, g3, g4, g5, g6, g7, g8, g9, g10, g11, g12, g13, g14⟩ := G.out
  exact bodyPost_ret (v := .tuple #[.agg #[.int .i64 0, .int .u32 0, .int .i64 0, .int .u32 0, .int .i64 0, .int .i64 0, .int .i64 0, .bool false, .bool false, .slice none 0 0, .slice none 0 0, .int .i64 0, .bool false, .int .u32 0, .int .i64 0], .bool false, .int .i64 0]) (by simp [results, Tryz.results20, go_sem, g0, g1, g2, g3, g4, g5, g6, g7, g8, g9, g10, g11, g12, g13, g14]) rfl FIN.out

end Go.Proofs.YtddageahmgaigaaGreat
