/-
  routingref23.Seal of valid summaries, boundaries and external advertisements.
-/
import Derived.Test.YtiemmejpaahbpaaCop
namespace Go.Proofs.Ytiemmejpaahbpaa
open Go.RowKit

def SealPost (w : World) (x : Lsa) (e : Ending) (w' : World) : Prop := ∃ s la lc aa ac, e = .returned (.tuple #[.agg (lsaE { x with sum := s, la := la, ln := 0, lc := lc, aa := aa, an := 0, ac := ac }).toArray, .int .i64 0]) ∧ Below w.heap.size w w'

set_option maxHeartbeats 4000000 in
set_option maxRecDepth 100000 in
theorem seal_calls (x : Lsa) (ok : OkL x) (oh : OkH x) (ht : x.typ = 3 ∨ x.typ = 4 ∨ x.typ = 5) (hc : chkP x = 0) (w : World) (hx : NoLists w x) : Calls Try.prog 16 #[.agg (lsaE x).toArray] w (SealPost w x) := by
  have CC := Lib.hid (fun W => check_calls x ok (by omega) (by omega) W)
  rw [hc] at CC
  have SC := Lib.hid (fun W => sum_calls x ok oh ht W)
  have HX := Lib.hid hx
  clear ok oh ht hc hx
  obtain ⟨typ, id, len, router, seq, age, sum, border, boundary, la, ln, lc, aa, an, ac, cost, second, fwd, tag⟩ := x
  have CP := Lib.hid (fun n W h => copy_calls ⟨typ, id, len, router, seq, age, n, border, boundary, la, ln, lc, aa, an, ac, cost, second, fwd, tag⟩ W h)
  simp only [lsaE] at *
  obtain ⟨W0, hW0⟩ : ∃ W0, (w.alloc (.cells #[.int .i64 typ, .int .u32 id, .int .i64 len, .int .u32 router, .int .i64 seq, .int .i64 age, .int .i64 sum, .bool border, .bool boundary, .slice la ln lc, .slice aa an ac, .int .i64 cost, .bool second, .int .u32 fwd, .int .i64 tag] 43)).alloc (.cells #[.int .i64 0, .int .u32 0, .int .i64 0, .int .u32 0, .int .i64 0, .int .i64 0, .int .i64 0, .bool false, .bool false, .slice none 0 0, .slice none 0 0, .int .i64 0, .bool false, .int .u32 0, .int .i64 0] 43) = W0 := ⟨_, rfl⟩
  have hs0 : W0.heap.size = w.heap.size + 2 := by rw [← hW0]; simp
  have B0 : Below w.heap.size w W0 := by rw [← hW0]; exact ((Below.refl _ _).alloc (Nat.le_refl _) _).alloc (by simp) _
  have bx : W0.heap[w.heap.size]? = some (.cells #[.int .i64 typ, .int .u32 id, .int .i64 len, .int .u32 router, .int .i64 seq, .int .i64 age, .int .i64 sum, .bool border, .bool boundary, .slice la ln lc, .slice aa an ac, .int .i64 cost, .bool second, .int .u32 fwd, .int .i64 tag] 43 (0, 0)) := by rw [← hW0]; exact (alloc_get _ _ _ (by simp)).trans (alloc_new _ _)
  have bz : W0.heap[w.heap.size + 1]? = some (.cells #[.int .i64 0, .int .u32 0, .int .i64 0, .int .u32 0, .int .i64 0, .int .i64 0, .int .i64 0, .bool false, .bool false, .slice none 0 0, .slice none 0 0, .int .i64 0, .bool false, .int .u32 0, .int .i64 0] 43 (0, 0)) := by rw [← hW0]; exact blk_new2 w _ _
  have HB0 := Lib.hid B0
  have HBX := Lib.hid bx
  have HBZ := Lib.hid bz
  have HW0 := Lib.hid hW0
  clear hs0 B0 bx bz hW0
  go_enter Try.func16, Try.ntmps16
  go_wp2_with fail
  rw [HW0.out]
  refine (CC.out _).mono ?_
  rintro e w1 ⟨rfl, G1⟩
  have b1 := (G1.b.block w.heap.size (blk_lt HBX.out)).trans HBX.out
  obtain ⟨⟨⟨e0, e1, e2, e3, e4⟩, ⟨e5, e6, e7, e8, e9⟩, ⟨e10, e11, e12, e13, e14⟩⟩, -⟩ := blk15 b1
  have HX1 := Lib.hid b1
  have HZ1 := Lib.hid ((G1.b.block (w.heap.size + 1) (blk_lt HBZ.out)).trans HBZ.out)
  have HB1 := Lib.hid (HB0.out.trans (G1.b.mono HB0.out.size))
  clear b1 G1 CC HB0 HBX HBZ HW0
  go_wp2_with fail
  refine (SC.out _).mono ?_
  rintro e w2 ⟨n, rfl, B2⟩
  have b2 := (B2.block w.heap.size (blk_lt HX1.out)).trans HX1.out
  have f6 := blk_free b2 6
  have HX2 := Lib.hid b2
  have HZ2 := Lib.hid ((B2.block (w.heap.size + 1) (blk_lt HZ1.out)).trans HZ1.out)
  have HB2 := Lib.hid (HB1.out.trans (B2.mono HB1.out.size))
  clear e0 e1 e2 e3 e4 e5 e6 e7 e8 e9 e10 e11 e12 e13 e14 SC HB1 HX1 HZ1 B2
  have e6 : w2.cell? ⟨w.heap.size, 6, none⟩ = some (.int .i64 sum) := blk_cell b2 rfl
  clear b2
  obtain ⟨w3, hw3⟩ : ∃ w3, w2.setCell ⟨w.heap.size, 6, none⟩ (.int .i64 n) = w3 := ⟨_, rfl⟩
  have b3 : w3.heap[w.heap.size]? = some (.cells #[.int .i64 typ, .int .u32 id, .int .i64 len, .int .u32 router, .int .i64 seq, .int .i64 age, .int .i64 n, .bool border, .bool boundary, .slice la ln lc, .slice aa an ac, .int .i64 cost, .bool second, .int .u32 fwd, .int .i64 tag] 43 (0, 0)) := by
    have h1 := blk_set HX2.out 6 (.int .i64 n)
    simp only [List.setIfInBounds_toArray, List.set_cons_zero, List.set_cons_succ] at h1
    rw [← hw3]; exact h1
  have bz3 : w3.heap[w.heap.size + 1]? = some (.cells #[.int .i64 0, .int .u32 0, .int .i64 0, .int .u32 0, .int .i64 0, .int .i64 0, .int .i64 0, .bool false, .bool false, .slice none 0 0, .slice none 0 0, .int .i64 0, .bool false, .int .u32 0, .int .i64 0] 43 (0, 0)) := by
    rw [← hw3, blk_other _ _ _ _ (by simp)]; exact HZ2.out
  have B3 : Below w.heap.size w w3 := by rw [← hw3]; exact HB2.out.setCell (Nat.le_refl _) _
  have C3 := Lib.hid (CP.out n w3 ⟨(HX.out.below B3).l, (HX.out.below B3).a⟩)
  have HB3 := Lib.hid B3
  have HZ3 := Lib.hid bz3
  have H3 := Lib.hid b3
  have HW3 := Lib.hid hw3
  clear b3 bz3 B3 hw3 HX2 HZ2 HB2
  go_upto_region 5 with fail
  rw [HW3.out]
  clear e6 f6
  obtain ⟨⟨⟨e0, e1, e2, e3, e4⟩, ⟨e5, e6, e7, e8, e9⟩, ⟨e10, e11, e12, e13, e14⟩⟩, -⟩ := blk15 H3.out
  go_wp2_with fail
  refine C3.out.mono ?_
  rintro e w4 ⟨a2, c2, a7, c7, rfl, B4⟩
  have bz4 := (B4.block (w.heap.size + 1) (blk_lt HZ3.out)).trans HZ3.out
  have B4' := HB3.out.trans (B4.mono HB3.out.size)
  obtain ⟨W', hW'⟩ : ∃ W', setLsa w4 (w.heap.size + 1) ⟨typ, id, len, router, seq, age, n, border, boundary, a2, 0, c2, a7, 0, c7, cost, second, fwd, tag⟩ = W' := ⟨_, rfl⟩
  have bk' : W'.heap[w.heap.size + 1]? = some (.cells #[.int .i64 typ, .int .u32 id, .int .i64 len, .int .u32 router, .int .i64 seq, .int .i64 age, .int .i64 n, .bool border, .bool boundary, .slice a2 0 c2, .slice a7 0 c7, .int .i64 cost, .bool second, .int .u32 fwd, .int .i64 tag] 43 (0, 0)) := by rw [← hW']; exact setLsa_blk bz4 _
  have BW' : Below w.heap.size w W' := by rw [← hW']; exact setLsa_below B4' (Nat.le_succ _) _
  have FIN : Hid (SealPost w ⟨typ, id, len, router, seq, age, sum, border, boundary, la, ln, lc, aa, an, ac, cost, second, fwd, tag⟩ (.returned (.tuple #[.agg #[.int .i64 typ, .int .u32 id, .int .i64 len, .int .u32 router, .int .i64 seq, .int .i64 age, .int .i64 n, .bool border, .bool boundary, .slice a2 0 c2, .slice a7 0 c7, .int .i64 cost, .bool second, .int .u32 fwd, .int .i64 tag], .int .i64 0])) W') := Lib.hid ⟨n, a2, c2, a7, c7, rfl, BW'⟩
  unfold setLsa at hW'
  simp only at hW'
  have HW' := Lib.hid hW'
  clear e0 e1 e2 e3 e4 e5 e6 e7 e8 e9 e10 e11 e12 e13 e14
  obtain ⟨⟨⟨z0, z1, z2, z3, z4⟩, ⟨z5, z6, z7, z8, z9⟩, ⟨z10, z11, z12, z13, z14⟩⟩, hfz⟩ := blk15 bz4
  have zf0 := hfz 0
  have zf1 := hfz 1
  have zf2 := hfz 2
  have zf3 := hfz 3
  have zf4 := hfz 4
  have zf5 := hfz 5
  have zf6 := hfz 6
  have zf7 := hfz 7
  have zf8 := hfz 8
  have zf9 := hfz 9
  have zf10 := hfz 10
  have zf11 := hfz 11
  have zf12 := hfz 12
  have zf13 := hfz 13
  have zf14 := hfz 14
  obtain ⟨⟨⟨g0, g1, g2, g3, g4⟩, ⟨g5, g6, g7, g8, g9⟩, ⟨g10, g11, g12, g13, g14⟩⟩, -⟩ := blk15 bk'
  have G := Lib.hid (And.intro g0 (And.intro g1 (And.intro g2 (And.intro g3 (And.intro g4 (And.intro g5 (And.intro g6 (And.intro g7 (And.intro g8 (And.intro g9 (And.intro g10 (And.intro g11 (And.intro g12 (And.intro g13 g14))))))))))))))
  clear bz4 B4 B4' hW' bk' BW' hfz g0 g1 g2 g3 g4 g5 g6 g7 g8 g9 g10 g11 g12 g13 g14 C3 HB3 HZ3 H3 HW3 CP
  simp only [lsaE]
  go_wp2_with fail
  rw [HW'.out]
  obtain ⟨g0, g1, g2, g3, g4, g5, g6, g7, g8, g9, g10, g11, g12, g13, g14⟩ := G.out
  exact bodyPost_ret (v := .tuple #[.agg #[.int .i64 typ, .int .u32 id, .int .i64 len, .int .u32 router, .int .i64 seq, .int .i64 age, .int .i64 n, .bool border, .bool boundary, .slice a2 0 c2, .slice a7 0 c7, .int .i64 cost, .bool second, .int .u32 fwd, .int .i64 tag], .int .i64 0]) (by simp [results, Try.results16, go_sem, g0, g1, g2, g3, g4, g5, g6, g7, g8, g9, g10, g11, g12, g13, g14]) rfl FIN.out

end Go.Proofs.Ytiemmejpaahbpaa
