import Derived.Test.YtddageahmgaigaaGreatLcl
import Derived.Test.YtddageahmgaigaaGreatLcs
namespace Go.Proofs.YtddageahmgaigaaGreat
open Go.RowKit

set_option maxHeartbeats 8000000 in
set_option maxRecDepth 100000 in
theorem rcopy_calls (x : Lsa) (lk : List Lnk) (att : List Int) (w : World) (h : LL w x lk att) : Calls Tryz.prog 76 #[.agg (lsaE x).toArray] w (ClPost w x lk att) := by
  obtain ⟨i0, hi0, hz0, hz1, hz2⟩ := info_parts Tryz.infoLink
  have HI0 := Lib.hid hi0
  have HZ0 := Lib.hid hz0
  have HZ1 := Lib.hid hz1
  have HZ2 := Lib.hid hz2
  obtain ⟨j0, hj0, hy0, hy1, hy2⟩ := info_parts Tryz.infoU32
  have HJ0 := Lib.hid hj0
  have HY0 := Lib.hid hy0
  have HY1 := Lib.hid hy1
  have HY2 := Lib.hid hy2
  clear hi0 hz0 hz1 hz2 hj0 hy0 hy1 hy2
  obtain ⟨hl, ha, nl, na⟩ := h
  obtain ⟨typ, id, len, router, seq, age, sum, border, boundary, la, ln, lc, aa, an, ac, cost, second, fwd, tag⟩ := x
  simp only at hl ha
  obtain rfl := hl.ln
  obtain rfl := ha.ln
  simp only [lsaE]
  obtain ⟨W0, hW0⟩ : ∃ W0, (w.alloc (.cells #[.int .i64 typ, .int .u32 id, .int .i64 len, .int .u32 router, .int .i64 seq, .int .i64 age, .int .i64 sum, .bool border, .bool boundary, .slice la lk.length lc, .slice aa att.length ac, .int .i64 cost, .bool second, .int .u32 fwd, .int .i64 tag] 42)).alloc (.cells #[.int .i64 0, .int .u32 0, .int .i64 0, .int .u32 0, .int .i64 0, .int .i64 0, .int .i64 0, .bool false, .bool false, .slice none 0 0, .slice none 0 0, .int .i64 0, .bool false, .int .u32 0, .int .i64 0] 42) = W0 := ⟨_, rfl⟩
  have hs0 : W0.heap.size = w.heap.size + 1 + 1 := by rw [← hW0]; simp
  have B0 : Below w.heap.size w W0 := by rw [← hW0]; exact ((Below.refl _ _).alloc (Nat.le_refl _) _).alloc (by simp) _
  have bx : W0.heap[w.heap.size]? = some (.cells #[.int .i64 typ, .int .u32 id, .int .i64 len, .int .u32 router, .int .i64 seq, .int .i64 age, .int .i64 sum, .bool border, .bool boundary, .slice la lk.length lc, .slice aa att.length ac, .int .i64 cost, .bool second, .int .u32 fwd, .int .i64 tag] 42 (0, 0)) := by rw [← hW0]; exact (alloc_get _ _ _ (by simp)).trans (alloc_new _ _)
  have bz : W0.heap[w.heap.size + 1]? = some (.cells #[.int .i64 0, .int .u32 0, .int .i64 0, .int .u32 0, .int .i64 0, .int .i64 0, .int .i64 0, .bool false, .bool false, .slice none 0 0, .slice none 0 0, .int .i64 0, .bool false, .int .u32 0, .int .i64 0] 42 (0, 0)) := by rw [← hW0]; exact blk_new2 w _ _
  obtain ⟨W1, hW1⟩ : ∃ W1, W0.alloc (.cells #[] 82) = W1 := ⟨_, rfl⟩
  have B1 : Below W0.heap.size W0 W1 := by rw [← hW1]; exact (Below.refl _ _).alloc (Nat.le_refl _) _
  have O1 : Hid (W1.ownsRow W0.heap.size 82 4 (.slice (some ⟨w.heap.size + 1 + 1, 0, none⟩) 0 0) 0 []) := Lib.hid (by
    rw [← hW1, ← hs0]; exact made_zero W0 _ _)
  have S1 : Hid (SlV 4 W1 (.slice la lk.length lc) (lk.map lnkE)) := Lib.hid (hl.below (B0.trans (B1.mono B0.size)))
  have HA := Lib.hid ha
  have K1 : Hid (0 + (lk.map lnkE).length ≤ maxLen) := Lib.hid (by rw [List.length_map]; unfold maxLen; omega)
  have K2 : Hid ((0 + (lk.map lnkE).length) * 24 ≤ 140737488355328) := Lib.hid (by rw [List.length_map]; omega)
  have K3 : Hid (0 + (att.map u32E).length ≤ maxLen) := Lib.hid (by rw [List.length_map]; unfold maxLen; omega)
  have K4 : Hid ((0 + (att.map u32E).length) * 4 ≤ 140737488355328) := Lib.hid (by rw [List.length_map]; omega)
  have HB0 := Lib.hid B0
  have HB1 := Lib.hid B1
  have X0 := Lib.hid bx
  have Z0 := Lib.hid bz
  have HS0 := Lib.hid hs0
  have HW0 := Lib.hid hW0
  have HW1 := Lib.hid hW1
  clear hl ha nl na hs0 B0 B1 bx bz hW0 hW1
  go_enter Tryz.func76, Tryz.ntmps76
  go_upto_region 2 with (at_builtin; rw [HW0.out, HW1.out]; refine wpList_append_sl rfl _ _ _ rfl W0.heap.size 82 i0 _ 4 24 Tryz.underlying38 HI0.out HZ0.out HZ1.out HZ2.out rfl (by decide) _ 0 [] rfl O1.out _ (lk.map lnkE) rfl S1.out (clk_len lk) (clk_one lk) K1.out K2.out HB1.out.size ?_; intro v2 w2 O2 G2; obtain ⟨a1, c1, ev, L2, F2, B2⟩ := clk_post HB1.out O1.out O2 G2; obtain rfl := Ending.returned.inj ev; have HL2 := Lib.hid L2; have HF2 := Lib.hid F2; have HB2 := Lib.hid B2; have b2 := (HB2.out.block w.heap.size (blk_lt X0.out)).trans X0.out; have X2 := Lib.hid b2; have p9 : w2.cell? ⟨w.heap.size, 9, none⟩ = some (.slice la lk.length lc) := blk_cell b2 rfl; have pf9 := blk_free b2 9; clear O2 G2 ev L2 F2 B2 b2)
  obtain ⟨w5, hw5⟩ : ∃ w5, w2.setCell ⟨w.heap.size, 9, none⟩ (.slice a1 lk.length c1) = w5 := ⟨_, rfl⟩
  have g5 : w2.grownBy w5 (some w.heap.size) := by rw [← hw5]; exact grown_set w2 w.heap.size 9 _
  have b5 : w5.heap[w.heap.size]? = some (.cells #[.int .i64 typ, .int .u32 id, .int .i64 len, .int .u32 router, .int .i64 seq, .int .i64 age, .int .i64 sum, .bool border, .bool boundary, .slice a1 lk.length c1, .slice aa att.length ac, .int .i64 cost, .bool second, .int .u32 fwd, .int .i64 tag] 42 (0, 0)) := by
    rw [← hw5]
    have h1 := blk_set X2.out 9 (.slice a1 lk.length c1)
    simp only [List.setIfInBounds_toArray, List.set_cons_zero, List.set_cons_succ] at h1
    exact h1
  have sz5 : w5.heap.size = w2.heap.size := by rw [← hw5]; simp [World.setCell]
  have bz5 : w5.heap[w.heap.size + 1]? = some (.cells #[.int .i64 0, .int .u32 0, .int .i64 0, .int .u32 0, .int .i64 0, .int .i64 0, .int .i64 0, .bool false, .bool false, .slice none 0 0, .slice none 0 0, .int .i64 0, .bool false, .int .u32 0, .int .i64 0] 42 (0, 0)) := (g5.block _ (Nat.lt_of_lt_of_le (blk_lt Z0.out) HB2.out.size) (by simp)).trans ((HB2.out.block _ (blk_lt Z0.out)).trans Z0.out)
  have lt5 := blk_lt Z0.out
  have B5 : Below w.heap.size w w5 := (HB0.out.trans (HB2.out.mono HB0.out.size)).grown g5 (Nat.le_trans HB0.out.size HB2.out.size) (fun j hj => by cases hj; exact Nat.le_refl _)
  have L5 := Lib.hid (HL2.out.far HF2.out (by omega) g5)
  obtain ⟨W6, hW6⟩ : ∃ W6, w5.alloc (.cells #[] 22) = W6 := ⟨_, rfl⟩
  have B6 : Below w5.heap.size w5 W6 := by rw [← hW6]; exact (Below.refl _ _).alloc (Nat.le_refl _) _
  have O6 : Hid (W6.ownsRow w5.heap.size 22 1 (.slice (some ⟨w2.heap.size, 0, none⟩) 0 0) 0 []) := Lib.hid (by
    rw [← sz5, ← hW6]; exact made_zero w5 _ _)
  have S6 : Hid (SlV 1 W6 (.slice aa att.length ac) (att.map u32E)) := Lib.hid (HA.out.below (B5.trans (B6.mono B5.size)))
  have L6 := Lib.hid (L5.out.below B6)
  have HW5 := Lib.hid hw5
  have HW6 := Lib.hid hW6
  have HB5 := Lib.hid B5
  have HB6 := Lib.hid B6
  have X5 := Lib.hid b5
  have Z5 := Lib.hid bz5
  have HSZ := Lib.hid sz5
  have e10 : w2.cell? ⟨w.heap.size, 10, none⟩ = some (.slice aa att.length ac) := blk_cell X2.out rfl
  have lt2 : w.heap.size < w2.heap.size := blk_lt X2.out
  have ne2 : ¬ w.heap.size = w2.heap.size := by omega
  have q10 : ((w2.setCell ⟨w.heap.size, 9, none⟩ (.slice a1 lk.length c1)).alloc (.cells #[] 22)).cell? ⟨w.heap.size, 10, none⟩ = some (.slice aa att.length ac) := by
    rw [hw5, hW6]; exact blk_cell ((B6.block w.heap.size (blk_lt b5)).trans b5) rfl
  clear g5 b5 bz5 B5 B6 hw5 hW6 sz5 lt5
  go_upto_region 3 with (at_builtin; rw [HW5.out, HW6.out]; refine wpList_append_sl rfl _ _ _ rfl w5.heap.size 22 j0 _ 1 4 Tryz.underlying39 HJ0.out HY0.out HY1.out HY2.out rfl (by decide) _ 0 [] rfl O6.out _ (att.map u32E) rfl S6.out (cwd_len att) (cwd_one att) K3.out K4.out HB6.out.size ?_; intro v7 w7 O7 G7; obtain ⟨a2, c2, ev, A7, F7, B7⟩ := cwd_post HB6.out O6.out O7 G7; obtain rfl := Ending.returned.inj ev; have HA7 := Lib.hid A7; have HF7 := Lib.hid F7; have HB7 := Lib.hid B7; have b7 := (HB7.out.block w.heap.size (blk_lt X5.out)).trans X5.out; have X7 := Lib.hid b7; have f10 : w7.cell? ⟨w.heap.size, 10, none⟩ = some (.slice aa att.length ac) := blk_cell b7 rfl; have ff10 := blk_free b7 10; clear O7 G7 ev A7 F7 B7 b7)
  clear e10
  obtain ⟨wE, hWE⟩ : ∃ wE, w7.setCell ⟨w.heap.size, 10, none⟩ (.slice a2 att.length c2) = wE := ⟨_, rfl⟩
  have gS : w7.grownBy wE (some w.heap.size) := by rw [← hWE]; exact grown_set w7 w.heap.size 10 _
  have EB : wE.heap[w.heap.size]? = some (.cells #[.int .i64 typ, .int .u32 id, .int .i64 len, .int .u32 router, .int .i64 seq, .int .i64 age, .int .i64 sum, .bool border, .bool boundary, .slice a1 lk.length c1, .slice a2 att.length c2, .int .i64 cost, .bool second, .int .u32 fwd, .int .i64 tag] 42 (0, 0)) := by
    rw [← hWE]
    have h1 := blk_set X7.out 10 (.slice a2 att.length c2)
    simp only [List.setIfInBounds_toArray, List.set_cons_zero, List.set_cons_succ] at h1
    exact h1
  have EZ : wE.heap[w.heap.size + 1]? = some (.cells #[.int .i64 0, .int .u32 0, .int .i64 0, .int .u32 0, .int .i64 0, .int .i64 0, .int .i64 0, .bool false, .bool false, .slice none 0 0, .slice none 0 0, .int .i64 0, .bool false, .int .u32 0, .int .i64 0] 42 (0, 0)) := (gS.block _ (Nat.lt_of_lt_of_le (blk_lt Z5.out) HB7.out.size) (by simp)).trans ((HB7.out.block _ (blk_lt Z5.out)).trans Z5.out)
  have BE : Below w.heap.size w wE := (HB5.out.trans (HB7.out.mono HB5.out.size)).grown gS (Nat.le_trans HB5.out.size HB7.out.size) (fun j hj => by cases hj; exact Nat.le_refl _)
  have bs := blk_lt Z5.out
  have bs0 := blk_lt Z0.out
  have HWE := Lib.hid hWE
  have SL0 : LnksAt wE (.slice a1 lk.length c1) lk := (L5.out.below HB7.out).far HF2.out (by omega) gS
  have SA0 : WordsAt wE (.slice a2 att.length c2) att := HA7.out.far HF7.out (by omega) gS
  obtain ⟨W', hW'⟩ : ∃ W', setLsa wE (w.heap.size + 1) ⟨typ, id, len, router, seq, age, sum, border, boundary, a1, lk.length, c1, a2, att.length, c2, cost, second, fwd, tag⟩ = W' := ⟨_, rfl⟩
  have bk' : W'.heap[w.heap.size + 1]? = some (.cells #[.int .i64 typ, .int .u32 id, .int .i64 len, .int .u32 router, .int .i64 seq, .int .i64 age, .int .i64 sum, .bool border, .bool boundary, .slice a1 lk.length c1, .slice a2 att.length c2, .int .i64 cost, .bool second, .int .u32 fwd, .int .i64 tag] 42 (0, 0)) := by rw [← hW']; exact setLsa_blk EZ _
  have BW' : Below w.heap.size w W' := by rw [← hW']; exact setLsa_below BE (Nat.le_succ _) _
  have BN : wE.grownBy W' (some (w.heap.size + 1)) := by rw [← hW']; exact setLsa_grown _ _ _
  have SL : LnksAt W' (.slice a1 lk.length c1) lk := SL0.far HF2.out bs0 BN
  have SA : WordsAt W' (.slice a2 att.length c2) att := SA0.far HF7.out bs BN
  have FIN : Hid (ClPost w ⟨typ, id, len, router, seq, age, sum, border, boundary, la, lk.length, lc, aa, att.length, ac, cost, second, fwd, tag⟩ lk att (.returned (.agg #[.int .i64 typ, .int .u32 id, .int .i64 len, .int .u32 router, .int .i64 seq, .int .i64 age, .int .i64 sum, .bool border, .bool boundary, .slice a1 lk.length c1, .slice a2 att.length c2, .int .i64 cost, .bool second, .int .u32 fwd, .int .i64 tag])) W') := Lib.hid ⟨a1, c1, a2, c2, rfl, SL, SA, BW', HF2.out.mono (by omega), HF7.out.mono (by omega)⟩
  unfold setLsa at hW'
  simp only at hW'
  have HW' := Lib.hid hW'
  obtain ⟨⟨⟨e0, e1, e2, e3, e4⟩, ⟨e5, e6, e7, e8, e9⟩, ⟨e10, e11, e12, e13, e14⟩⟩, -⟩ := blk15 EB
  obtain ⟨⟨⟨z0, z1, z2, z3, z4⟩, ⟨z5, z6, z7, z8, z9⟩, ⟨z10, z11, z12, z13, z14⟩⟩, hfz⟩ := blk15 EZ
  have zf0 := hfz 0
  have zf1 := hfz 1
  have zf2 := hfz 2
  have zf3 := hfz 3
  have zf4 := hfz 4
  have zf5 := hfz 5
  have zf6 := hfz 6
  have zf7 := hfz 7
  have zf8 := hfz 8
  have zf9 := hfz 9
  have zf10 := hfz 10
  have zf11 := hfz 11
  have zf12 := hfz 12
  have zf13 := hfz 13
  have zf14 := hfz 14
  obtain ⟨⟨⟨g0, g1, g2, g3, g4⟩, ⟨g5, g6, g7, g8, g9⟩, ⟨g10, g11, g12, g13, g14⟩⟩, -⟩ := blk15 bk'
  have G := Lib.hid (And.intro g0 (And.intro g1 (And.intro g2 (And.intro g3 (And.intro g4 (And.intro g5 (And.intro g6 (And.intro g7 (And.intro g8 (And.intro g9 (And.intro g10 (And.intro g11 (And.intro g12 (And.intro g13 g14))))))))))))))
  clear hWE gS EB EZ BE bs bs0 SL0 SA0 hW' bk' BW' BN SL SA hfz g0 g1 g2 g3 g4 g5 g6 g7 g8 g9 g10 g11 g12 g13 g14 p9 pf9 f10 ff10 q10
  rw [HWE.out]
  go_wp2_with fail
  rw [HW'.out]
  obtain ⟨g0, g1, g2, g3, g4, g5, g6, g7, g8, g9, g10, g11, g12, g13, g14⟩ := G.out
  exact bodyPost_ret (v := .agg #[.int .i64 typ, .int .u32 id, .int .i64 len, .int .u32 router, .int .i64 seq, .int .i64 age, .int .i64 sum, .bool border, .bool boundary, .slice a1 lk.length c1, .slice a2 att.length c2, .int .i64 cost, .bool second, .int .u32 fwd, .int .i64 tag]) (by simp [results, Tryz.results76, go_sem, g0, g1, g2, g3, g4, g5, g6, g7, g8, g9, g10, g11, g12, g13, g14]) rfl FIN.out

end Go.Proofs.YtddageahmgaigaaGreat

namespace Go.Proofs.YtddageahmgaigaaGreat
open Go.RowKit

set_option maxHeartbeats 16000000 in
set_option maxRecDepth 100000 in
theorem rseal_ok (x : Lsa) (lk : List Lnk) (att : List Int) (w : World) (h : DIn w ⟨x, lk, att⟩) (nl : lk.length ≤ 1048576) (na : att.length ≤ 1048576) (hz : LsaIs x lk att 0) : Calls Tryz.prog 37 #[.agg (lsaE x).toArray] w (LsOk w x lk att (sumD ⟨x, lk, att⟩)) := by
  have HD := Lib.hid h
  have HLL : Hid (LL w x lk att) := Lib.hid ⟨h.lk, h.att, nl, na⟩
  have hl := h.lk
  have ha := h.att
  have CK : Hid (∀ W, Below w.heap.size w W → Calls Tryz.prog 35 #[.agg (lsaE x).toArray] W fun e w' => e = .returned (.int .i64 0) ∧ Gr W w') := Lib.hid (fun W g => (check_any x HD.out.ok lk att W (HD.out.below g).lk HD.out.lr (HD.out.below g).att).mono fun e w' ⟨c, he, hc, hg⟩ => ⟨by rw [he, hc.one hz], hg⟩)
  have SM := Lib.hid (fun W (g : Below w.heap.size w W) => rsum_calls ⟨x, lk, att⟩ W (HD.out.below g) (LsaOk.enc (d := ⟨x, lk, att⟩) hz HD.out))
  obtain ⟨sm, hsm⟩ : ∃ sm, sm = sumD ⟨x, lk, att⟩ := ⟨_, rfl⟩
  rw [← hsm]
  rw [← hsm] at SM
  clear h nl na hsm HD hz
  obtain ⟨typ, id, len, router, seq, age, sum, border, boundary, la, ln, lc, aa, an, ac, cost, second, fwd, tag⟩ := x
  simp only at hl ha
  obtain rfl := hl.ln
  obtain rfl := ha.ln
  simp only [lsaE] at CK SM ⊢
  clear hl ha
  obtain ⟨W0, hW0⟩ : ∃ W0, (w.alloc (.cells #[.int .i64 typ, .int .u32 id, .int .i64 len, .int .u32 router, .int .i64 seq, .int .i64 age, .int .i64 sum, .bool border, .bool boundary, .slice la lk.length lc, .slice aa att.length ac, .int .i64 cost, .bool second, .int .u32 fwd, .int .i64 tag] 42)).alloc (.cells #[.int .i64 0, .int .u32 0, .int .i64 0, .int .u32 0, .int .i64 0, .int .i64 0, .int .i64 0, .bool false, .bool false, .slice none 0 0, .slice none 0 0, .int .i64 0, .bool false, .int .u32 0, .int .i64 0] 42) = W0 := ⟨_, rfl⟩
  have B0 : Hid (Below w.heap.size w W0) := Lib.hid (by rw [← hW0]; exact ((Below.refl _ _).alloc (Nat.le_refl _) _).alloc (by simp) _)
  have X0 : Hid (W0.heap[w.heap.size]? = some (.cells #[.int .i64 typ, .int .u32 id, .int .i64 len, .int .u32 router, .int .i64 seq, .int .i64 age, .int .i64 sum, .bool border, .bool boundary, .slice la lk.length lc, .slice aa att.length ac, .int .i64 cost, .bool second, .int .u32 fwd, .int .i64 tag] 42 (0, 0))) := Lib.hid (by rw [← hW0]; exact (alloc_get _ _ _ (by simp)).trans (alloc_new _ _))
  have Z0 : Hid (W0.heap[w.heap.size + 1]? = some (.cells #[.int .i64 0, .int .u32 0, .int .i64 0, .int .u32 0, .int .i64 0, .int .i64 0, .int .i64 0, .bool false, .bool false, .slice none 0 0, .slice none 0 0, .int .i64 0, .bool false, .int .u32 0, .int .i64 0] 42 (0, 0))) := Lib.hid (by rw [← hW0]; exact blk_new2 w _ _)
  have HW0 := Lib.hid hW0
  clear hW0
  have CK0 := Lib.hid (CK.out W0 B0.out)
  obtain ⟨⟨⟨x0, x1, x2, x3, x4⟩, ⟨x5, x6, x7, x8, x9⟩, ⟨x10, x11, x12, x13, x14⟩⟩, -⟩ := blk15 X0.out
  go_enter Tryz.func37, Tryz.ntmps37
  go_wp2_with fail
  rw [HW0.out]
  refine CK0.out.mono ?_
  rintro e w1 ⟨rfl, g1⟩
  have K1 := Lib.hid (B0.out.trans (g1.b.mono B0.out.size))
  have X1 := Lib.hid ((g1.b.block _ (blk_lt X0.out)).trans X0.out)
  have Z1 := Lib.hid ((g1.b.block _ (blk_lt Z0.out)).trans Z0.out)
  clear g1 CK CK0 x0 x1 x2 x3 x4 x5 x6 x7 x8 x9 x10 x11 x12 x13 x14
  have SM1 := Lib.hid (SM.out w1 K1.out)
  clear SM
  obtain ⟨⟨⟨x0, x1, x2, x3, x4⟩, ⟨x5, x6, x7, x8, x9⟩, ⟨x10, x11, x12, x13, x14⟩⟩, -⟩ := blk15 X1.out
  go_wp2_with fail
  refine SM1.out.mono ?_
  rintro e w0 ⟨rfl, B2⟩
  have K2 := Lib.hid (K1.out.trans (B2.mono K1.out.size))
  have X2 := Lib.hid ((B2.block _ (blk_lt X1.out)).trans X1.out)
  have Z2 := Lib.hid ((B2.block _ (blk_lt Z1.out)).trans Z1.out)
  clear B2 SM1 x0 x1 x2 x3 x4 x5 x6 x7 x8 x9 x10 x11 x12 x13 x14
  obtain ⟨WB, hWB⟩ : ∃ WB, w0.setCell ⟨w.heap.size, 6, none⟩ (.int .i64 sm) = WB := ⟨_, rfl⟩
  have HB0 : Hid (Below w.heap.size w WB) := Lib.hid (by rw [← hWB]; exact K2.out.setCell (p := ⟨w.heap.size, 6, none⟩) (Nat.le_refl _) _)
  have XB : Hid (WB.heap[w.heap.size]? = some (.cells #[.int .i64 typ, .int .u32 id, .int .i64 len, .int .u32 router, .int .i64 seq, .int .i64 age, .int .i64 sm, .bool border, .bool boundary, .slice la lk.length lc, .slice aa att.length ac, .int .i64 cost, .bool second, .int .u32 fwd, .int .i64 tag] 42 (0, 0))) := Lib.hid (by
    rw [← hWB]
    have h1 := blk_set X2.out 6 (.int .i64 sm)
    simp only [List.setIfInBounds_toArray, List.set_cons_zero, List.set_cons_succ] at h1
    exact h1)
  have XZ : Hid (WB.heap[w.heap.size + 1]? = some (.cells #[.int .i64 0, .int .u32 0, .int .i64 0, .int .u32 0, .int .i64 0, .int .i64 0, .int .i64 0, .bool false, .bool false, .slice none 0 0, .slice none 0 0, .int .i64 0, .bool false, .int .u32 0, .int .i64 0] 42 (0, 0))) := Lib.hid (by rw [← hWB, blk_other _ _ _ _ (by simp)]; exact Z2.out)
  have HWB := Lib.hid hWB
  clear hWB
  have C3 := Lib.hid (rcopy_calls ⟨typ, id, len, router, seq, age, sm, border, boundary, la, lk.length, lc, aa, att.length, ac, cost, second, fwd, tag⟩ lk att WB (⟨HLL.out.l.below HB0.out, HLL.out.a.below HB0.out, HLL.out.nl, HLL.out.na⟩))
  have k6 : w0.cell? ⟨w.heap.size, 6, none⟩ = some (.int .i64 sum) := blk_cell X2.out rfl
  have kf6 := blk_free X2.out 6
  go_upto_region 5 with fail
  rw [HWB.out]
  clear k6 kf6
  obtain ⟨⟨⟨x0, x1, x2, x3, x4⟩, ⟨x5, x6, x7, x8, x9⟩, ⟨x10, x11, x12, x13, x14⟩⟩, -⟩ := blk15 XB.out
  go_wp2_with fail
  refine C3.out.mono ?_
  rintro e wc ⟨a1, c1, a2, c2, rfl, SL0, SA0, B4, FL, FA⟩
  have EZ := (B4.block (w.heap.size + 1) (blk_lt XZ.out)).trans XZ.out
  have BE := HB0.out.trans (B4.mono HB0.out.size)
  have bs := blk_lt XZ.out
  simp only [lsaE, atL]
  obtain ⟨W', hW'⟩ : ∃ W', setLsa wc (w.heap.size + 1) ⟨typ, id, len, router, seq, age, sm, border, boundary, a1, lk.length, c1, a2, att.length, c2, cost, second, fwd, tag⟩ = W' := ⟨_, rfl⟩
  have bk' : W'.heap[w.heap.size + 1]? = some (.cells #[.int .i64 typ, .int .u32 id, .int .i64 len, .int .u32 router, .int .i64 seq, .int .i64 age, .int .i64 sm, .bool border, .bool boundary, .slice a1 lk.length c1, .slice a2 att.length c2, .int .i64 cost, .bool second, .int .u32 fwd, .int .i64 tag] 42 (0, 0)) := by rw [← hW']; exact setLsa_blk EZ _
  have BW' : Below w.heap.size w W' := by rw [← hW']; exact setLsa_below BE (Nat.le_succ _) _
  have BN : wc.grownBy W' (some (w.heap.size + 1)) := by rw [← hW']; exact setLsa_grown _ _ _
  have SL : LnksAt W' (.slice a1 lk.length c1) lk := SL0.far FL bs BN
  have SA : WordsAt W' (.slice a2 att.length c2) att := SA0.far FA bs BN
  have FIN : Hid (LsOk w ⟨typ, id, len, router, seq, age, sum, border, boundary, la, lk.length, lc, aa, att.length, ac, cost, second, fwd, tag⟩ lk att sm (.returned (.tuple #[.agg #[.int .i64 typ, .int .u32 id, .int .i64 len, .int .u32 router, .int .i64 seq, .int .i64 age, .int .i64 sm, .bool border, .bool boundary, .slice a1 lk.length c1, .slice a2 att.length c2, .int .i64 cost, .bool second, .int .u32 fwd, .int .i64 tag], .int .i64 0])) W') := Lib.hid ⟨a1, c1, a2, c2, rfl, SL, SA, BW', FL.mono (by omega), FA.mono (by omega)⟩
  unfold setLsa at hW'
  simp only at hW'
  have HW' := Lib.hid hW'
  clear x0 x1 x2 x3 x4 x5 x6 x7 x8 x9 x10 x11 x12 x13 x14
  obtain ⟨⟨⟨z0, z1, z2, z3, z4⟩, ⟨z5, z6, z7, z8, z9⟩, ⟨z10, z11, z12, z13, z14⟩⟩, hfz⟩ := blk15 EZ
  have zf0 := hfz 0
  have zf1 := hfz 1
  have zf2 := hfz 2
  have zf3 := hfz 3
  have zf4 := hfz 4
  have zf5 := hfz 5
  have zf6 := hfz 6
  have zf7 := hfz 7
  have zf8 := hfz 8
  have zf9 := hfz 9
  have zf10 := hfz 10
  have zf11 := hfz 11
  have zf12 := hfz 12
  have zf13 := hfz 13
  have zf14 := hfz 14
  obtain ⟨⟨⟨g0, g1, g2, g3, g4⟩, ⟨g5, g6, g7, g8, g9⟩, ⟨g10, g11, g12, g13, g14⟩⟩, -⟩ := blk15 bk'
  have G := Lib.hid (And.intro g0 (And.intro g1 (And.intro g2 (And.intro g3 (And.intro g4 (And.intro g5 (And.intro g6 (And.intro g7 (And.intro g8 (And.intro g9 (And.intro g10 (And.intro g11 (And.intro g12 (And.intro g13 g14))))))))))))))
  clear EZ BE hW' bk' BW' SL SA SL0 SA0 B4 bs BN FL FA hfz g0 g1 g2 g3 g4 g5 g6 g7 g8 g9 g10 g11 g12 g13 g14
  go_wp2_with fail
  rw [HW'.out]
  obtain ⟨g0, g1, g2, g3, g4, g5, g6, g7, g8, g9, g10, g11, g12, g13, g14⟩ := G.out
  exact bodyPost_ret (v := .tuple #[.agg #[.int .i64 typ, .int .u32 id, .int .i64 len, .int .u32 router, .int .i64 seq, .int .i64 age, .int .i64 sm, .bool border, .bool boundary, .slice a1 lk.length c1, .slice a2 att.length c2, .int .i64 cost, .bool second, .int .u32 fwd, .int .i64 tag], .int .i64 0]) (by simp [results, Tryz.results37, go_sem, g0, g1, g2, g3, g4, g5, g6, g7, g8, g9, g10, g11, g12, g13, g14]) rfl FIN.out

end Go.Proofs.YtddageahmgaigaaGreat
