/-
  routingref25.Get.
-/
import Derived.Test.YtogdconliofblaaGreatFnd
import Derived.Test.YtogdconliofblaaGreatSel
namespace Go.Proofs.YtogdconliofblaaGreat
open Go.RowKit

/-- what Get tells: nothing has the key, or x is the first that has it -/
def GetIs (l : List Lsa) (k : Kk) (x : Lsa) (b : Bool) : Prop := (b = false ∧ ∀ y ∈ l, lkOf y ≠ k) ∨ (b = true ∧ lkOf x = k ∧ x ∈ l)
def GetPost (w : World) (l : List Lsa) (k : Kk) (e : Ending) (w' : World) : Prop := ∃ x b, e = .returned (.tuple #[.agg (lsaE x).toArray, .bool b]) ∧ Below w.heap.size w w' ∧ GetIs l k x b

set_option maxHeartbeats 8000000 in
set_option maxRecDepth 100000 in
theorem get_calls (w : World) (v : Value) (l : List Lsa) (h : LsasAt w v l) (t id len r : Int) :
    Calls Tryz.prog 22 #[v, .agg #[.int .i64 t, .int .u32 id, .int .i64 len, .int .u32 r]] w (GetPost w l ⟨t, id, len, r⟩) := by
  have FC := Lib.hid (fun W (hb : Below w.heap.size w W) => find_calls W v l (h.below hb) t id len r)
  obtain ⟨a1, c1, rfl, hlen, hc1⟩ := h.get
  have HC1 := Lib.hid hc1
  clear h hc1
  obtain ⟨W0, hW0⟩ : ∃ W0, (w.alloc (.cells #[.int .i64 t, .int .u32 id, .int .i64 len, .int .u32 r] 66)).alloc (.cells #[.int .i64 0, .int .u32 0, .int .i64 0, .int .u32 0, .int .i64 0, .int .i64 0, .int .i64 0, .bool false, .bool false, .slice none 0 0, .slice none 0 0, .int .i64 0, .bool false, .int .u32 0, .int .i64 0] 47) = W0 := ⟨_, rfl⟩
  have b0 : W0.heap[w.heap.size]? = some (.cells #[.int .i64 t, .int .u32 id, .int .i64 len, .int .u32 r] 66 (0, 0)) := by rw [← hW0]; exact (alloc_get _ _ _ (by simp)).trans (alloc_new w _)
  have bz : W0.heap[w.heap.size + 1]? = some (.cells #[.int .i64 0, .int .u32 0, .int .i64 0, .int .u32 0, .int .i64 0, .int .i64 0, .int .i64 0, .bool false, .bool false, .slice none 0 0, .slice none 0 0, .int .i64 0, .bool false, .int .u32 0, .int .i64 0] 47 (0, 0)) := by rw [← hW0]; exact blk_new2 w _ _
  have B0 : Below w.heap.size w W0 := by rw [← hW0]; exact ((Below.refl _ _).alloc (Nat.le_refl _) _).alloc (by simp) _
  have y0 := blk_cell (i := 0) b0 rfl
  have y1 := blk_cell (i := 1) b0 rfl
  have y2 := blk_cell (i := 2) b0 rfl
  have y3 := blk_cell (i := 3) b0 rfl
  have F1 := Lib.hid (FC.out W0 B0)
  have HB0 := Lib.hid B0
  have HBZ := Lib.hid bz
  have HW0 := Lib.hid hW0
  clear hW0 b0 bz B0 FC
  go_enter Tryz.func22, Tryz.ntmps22
  go_upto_region 1 with fail
  rw [HW0.out]
  go_wp2_with fail
  refine F1.out.mono ?_
  rintro e w1 ⟨i, rfl, G1, FI⟩
  have HB1 := Lib.hid (HB0.out.trans (G1.b.mono HB0.out.size))
  have HZ1 := Lib.hid ((G1.b.block _ (blk_lt HBZ.out)).trans HBZ.out)
  clear G1 F1 y0 y1 y2 y3 HBZ HW0
  rcases FI with ⟨rfl, NO⟩ | ⟨j, rfl, hj, hk, -⟩
  · have HNO := Lib.hid NO
    clear NO
    obtain ⟨W', hW'⟩ : ∃ W', setLsa w1 (w.heap.size + 1) ⟨0, 0, 0, 0, 0, 0, 0, false, false, none, 0, 0, none, 0, 0, 0, false, 0, 0⟩ = W' := ⟨_, rfl⟩
    have bk' : W'.heap[w.heap.size + 1]? = some (.cells #[.int .i64 0, .int .u32 0, .int .i64 0, .int .u32 0, .int .i64 0, .int .i64 0, .int .i64 0, .bool false, .bool false, .slice none 0 0, .slice none 0 0, .int .i64 0, .bool false, .int .u32 0, .int .i64 0] 47 (0, 0)) := by rw [← hW']; exact setLsa_blk HZ1.out _
    have BW' : Below w.heap.size w W' := by rw [← hW']; exact setLsa_below HB1.out (Nat.le_succ _) _
    have FIN : Hid (GetPost w l ⟨t, id, len, r⟩ (.returned (.tuple #[.agg #[.int .i64 0, .int .u32 0, .int .i64 0, .int .u32 0, .int .i64 0, .int .i64 0, .int .i64 0, .bool false, .bool false, .slice none 0 0, .slice none 0 0, .int .i64 0, .bool false, .int .u32 0, .int .i64 0], .bool false])) W') := Lib.hid ⟨⟨0, 0, 0, 0, 0, 0, 0, false, false, none, 0, 0, none, 0, 0, 0, false, 0, 0⟩, false, rfl, BW', .inl ⟨rfl, HNO.out⟩⟩
    unfold setLsa at hW'
    simp only at hW'
    have HW' := Lib.hid hW'
    obtain ⟨⟨⟨z0, z1, z2, z3, z4⟩, ⟨z5, z6, z7, z8, z9⟩, ⟨z10, z11, z12, z13, z14⟩⟩, hfz⟩ := blk15 HZ1.out
    have zf0 := hfz 0
    have zf1 := hfz 1
    have zf2 := hfz 2
    have zf3 := hfz 3
    have zf4 := hfz 4
    have zf5 := hfz 5
    have zf6 := hfz 6
    have zf7 := hfz 7
    have zf8 := hfz 8
    have zf9 := hfz 9
    have zf10 := hfz 10
    have zf11 := hfz 11
    have zf12 := hfz 12
    have zf13 := hfz 13
    have zf14 := hfz 14
    obtain ⟨⟨⟨g0, g1, g2, g3, g4⟩, ⟨g5, g6, g7, g8, g9⟩, ⟨g10, g11, g12, g13, g14⟩⟩, -⟩ := blk15 bk'
    have G := Lib.hid (And.intro g0 (And.intro g1 (And.intro g2 (And.intro g3 (And.intro g4 (And.intro g5 (And.intro g6 (And.intro g7 (And.intro g8 (And.intro g9 (And.intro g10 (And.intro g11 (And.intro g12 (And.intro g13 g14))))))))))))))
    clear hW' bk' BW' hfz g0 g1 g2 g3 g4 g5 g6 g7 g8 g9 g10 g11 g12 g13 g14
    go_wp2_with fail
    rw [HW'.out]
    obtain ⟨g0, g1, g2, g3, g4, g5, g6, g7, g8, g9, g10, g11, g12, g13, g14⟩ := G.out
    exact bodyPost_ret (v := .tuple #[.agg #[.int .i64 0, .int .u32 0, .int .i64 0, .int .u32 0, .int .i64 0, .int .i64 0, .int .i64 0, .bool false, .bool false, .slice none 0 0, .slice none 0 0, .int .i64 0, .bool false, .int .u32 0, .int .i64 0], .bool false]) (by simp [results, Tryz.results22, go_sem, g0, g1, g2, g3, g4, g5, g6, g7, g8, g9, g10, g11, g12, g13, g14]) rfl FIN.out
  · obtain ⟨b1, o1, rfl, hb1, hcc1⟩ := HC1.out (by omega)
    have MEM := Lib.hid (List.getElem_mem hj)
    obtain ⟨⟨d0, d1, d2, d3, d4⟩, ⟨d5, d6, d7, d8, d9⟩, ⟨d10, d11, d12, d13, d14⟩⟩ := (hcc1 j hj).below HB1.out hb1
    have HK := Lib.hid hk
    have g0 : decide ((j : Int) < 0) = false := decide_eq_false (by omega)
    have i0 : (0 : Int) ≤ (j : Int) := by omega
    have i1 : (j : Int) < (l.length : Int) := by omega
    have s3 : ((j : Int)).toNat = j := by omega
    clear hcc1 hk
    generalize l[j] = x at *
    clear hj
    obtain ⟨xtyp, xid, xlen, xrouter, xseq, xage, xsum, xborder, xboundary, xla, xln, xlc, xaa, xan, xac, xcost, xsecond, xfwd, xtag⟩ := x
    simp only at d0 d1 d2 d3 d4 d5 d6 d7 d8 d9 d10 d11 d12 d13 d14
    obtain ⟨W', hW'⟩ : ∃ W', setLsa w1 (w.heap.size + 1) ⟨xtyp, xid, xlen, xrouter, xseq, xage, xsum, xborder, xboundary, xla, xln, xlc, xaa, xan, xac, xcost, xsecond, xfwd, xtag⟩ = W' := ⟨_, rfl⟩
    have bk' : W'.heap[w.heap.size + 1]? = some (.cells #[.int .i64 xtyp, .int .u32 xid, .int .i64 xlen, .int .u32 xrouter, .int .i64 xseq, .int .i64 xage, .int .i64 xsum, .bool xborder, .bool xboundary, .slice xla xln xlc, .slice xaa xan xac, .int .i64 xcost, .bool xsecond, .int .u32 xfwd, .int .i64 xtag] 47 (0, 0)) := by rw [← hW']; exact setLsa_blk HZ1.out _
    have BW' : Below w.heap.size w W' := by rw [← hW']; exact setLsa_below HB1.out (Nat.le_succ _) _
    have FIN : Hid (GetPost w l ⟨t, id, len, r⟩ (.returned (.tuple #[.agg #[.int .i64 xtyp, .int .u32 xid, .int .i64 xlen, .int .u32 xrouter, .int .i64 xseq, .int .i64 xage, .int .i64 xsum, .bool xborder, .bool xboundary, .slice xla xln xlc, .slice xaa xan xac, .int .i64 xcost, .bool xsecond, .int .u32 xfwd, .int .i64 xtag], .bool true])) W') := Lib.hid ⟨⟨xtyp, xid, xlen, xrouter, xseq, xage, xsum, xborder, xboundary, xla, xln, xlc, xaa, xan, xac, xcost, xsecond, xfwd, xtag⟩, true, rfl, BW', .inr ⟨rfl, HK.out, MEM.out⟩⟩
    unfold setLsa at hW'
    simp only at hW'
    have HW' := Lib.hid hW'
    obtain ⟨⟨⟨z0, z1, z2, z3, z4⟩, ⟨z5, z6, z7, z8, z9⟩, ⟨z10, z11, z12, z13, z14⟩⟩, hfz⟩ := blk15 HZ1.out
    have zf0 := hfz 0
    have zf1 := hfz 1
    have zf2 := hfz 2
    have zf3 := hfz 3
    have zf4 := hfz 4
    have zf5 := hfz 5
    have zf6 := hfz 6
    have zf7 := hfz 7
    have zf8 := hfz 8
    have zf9 := hfz 9
    have zf10 := hfz 10
    have zf11 := hfz 11
    have zf12 := hfz 12
    have zf13 := hfz 13
    have zf14 := hfz 14
    obtain ⟨⟨⟨g0, g1, g2, g3, g4⟩, ⟨g5, g6, g7, g8, g9⟩, ⟨g10, g11, g12, g13, g14⟩⟩, -⟩ := blk15 bk'
    have G := Lib.hid (And.intro g0 (And.intro g1 (And.intro g2 (And.intro g3 (And.intro g4 (And.intro g5 (And.intro g6 (And.intro g7 (And.intro g8 (And.intro g9 (And.intro g10 (And.intro g11 (And.intro g12 (And.intro g13 g14))))))))))))))
    clear hW' bk' BW' hfz g0 g1 g2 g3 g4 g5 g6 g7 g8 g9 g10 g11 g12 g13 g14
    go_wp2_with fail
    rw [HW'.out]
    obtain ⟨g0, g1, g2, g3, g4, g5, g6, g7, g8, g9, g10, g11, g12, g13, g14⟩ := G.out
    exact bodyPost_ret (v := .tuple #[.agg #[.int .i64 xtyp, .int .u32 xid, .int .i64 xlen, .int .u32 xrouter, .int .i64 xseq, .int .i64 xage, .int .i64 xsum, .bool xborder, .bool xboundary, .slice xla xln xlc, .slice xaa xan xac, .int .i64 xcost, .bool xsecond, .int .u32 xfwd, .int .i64 xtag], .bool true]) (by simp [results, Tryz.results22, go_sem, g0, g1, g2, g3, g4, g5, g6, g7, g8, g9, g10, g11, g12, g13, g14]) rfl FIN.out

end Go.Proofs.YtogdconliofblaaGreat
