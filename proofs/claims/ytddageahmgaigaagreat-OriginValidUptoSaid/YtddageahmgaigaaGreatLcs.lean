import Derived.Test.YtddageahmgaigaaGreatLcl
import Derived.Test.YtddageahmgaigaaGreatLcf
namespace Go.Proofs.YtddageahmgaigaaGreat
open Go.RowKit

end Go.Proofs.YtddageahmgaigaaGreat

namespace Go.Proofs.YtddageahmgaigaaGreat
open Go.RowKit

def lsaZ : Lsa := ⟨0, 0, 0, 0, 0, 0, 0, false, false, none, 0, 0, none, 0, 0, 0, false, 0, 0⟩
def SealP (w : World) (x : Lsa) (lk : List Lnk) (att : List Int) (e : Ending) (w' : World) : Prop := ∃ c, LsaIs x lk att c ∧
  ((c ≠ 0 ∧ e = .returned (.tuple #[.agg (lsaE lsaZ).toArray, .int .i64 c]) ∧ Below w.heap.size w w') ∨
   (c = 0 ∧ ∃ la lc aa ac, e = .returned (.tuple #[.agg (lsaE (atL { x with sum := sumD ⟨x, lk, att⟩ } la lc aa ac)).toArray, .int .i64 0]) ∧ LnksAt w' (.slice la x.ln lc) lk ∧ WordsAt w' (.slice aa x.an ac) att ∧ Below w.heap.size w w' ∧ Fr w.heap.size (.slice la x.ln lc) ∧ Fr w.heap.size (.slice aa x.an ac)))

def LsOk (w : World) (x : Lsa) (lk : List Lnk) (att : List Int) (sm : Int) (e : Ending) (w' : World) : Prop := ∃ la lc aa ac, e = .returned (.tuple #[.agg (lsaE (atL { x with sum := sm } la lc aa ac)).toArray, .int .i64 0]) ∧ LnksAt w' (.slice la x.ln lc) lk ∧ WordsAt w' (.slice aa x.an ac) att ∧ Below w.heap.size w w' ∧ Fr w.heap.size (.slice la x.ln lc) ∧ Fr w.heap.size (.slice aa x.an ac)
def LsBad (w : World) (x : Lsa) (lk : List Lnk) (att : List Int) (e : Ending) (w' : World) : Prop := ∃ c, LsaIs x lk att c ∧ c ≠ 0 ∧ e = .returned (.tuple #[.agg (lsaE lsaZ).toArray, .int .i64 c]) ∧ Below w.heap.size w w'

def MidL (w : World) (x : Lsa) (lk : List Lnk) (att : List Int) (wx : World) : Prop := ∃ a1 c1 a2 c2, wx.heap[w.heap.size]? = some (.cells (lsaE (atL x a1 c1 a2 c2)).toArray 42 (0, 0)) ∧ wx.heap[w.heap.size + 1]? = some (.cells (lsaE lsaZ).toArray 42 (0, 0)) ∧
  LnksAt wx (.slice a1 x.ln c1) lk ∧ WordsAt wx (.slice a2 x.an c2) att ∧ Fr (w.heap.size + 2) (.slice a1 x.ln c1) ∧ Fr (w.heap.size + 2) (.slice a2 x.an c2) ∧ Below w.heap.size w wx

set_option maxHeartbeats 16000000 in
set_option maxRecDepth 100000 in
theorem lseal_ok (x : Lsa) (lk : List Lnk) (att : List Int) (w : World) (h : DIn w ⟨x, lk, att⟩) (nl : lk.length ≤ 1048576) (na : att.length ≤ 1048576) (hz : LsaIs x lk att 0) : Calls Tryz.prog 55 #[.agg (lsaE x).toArray] w (LsOk w x lk att (sumD ⟨x, lk, att⟩)) := by
  have HD := Lib.hid h
  have HLL : Hid (LL w x lk att) := Lib.hid ⟨h.lk, h.att, nl, na⟩
  have hl := h.lk
  have ha := h.att
  have CK : Hid (∀ W, Below w.heap.size w W → Calls Tryz.prog 89 #[.agg (lsaE x).toArray] W fun e w' => e = .returned (.int .i64 0) ∧ Gr W w') := Lib.hid (fun W g => (lcheck_calls ⟨x, lk, att⟩ W (HD.out.below g)).mono fun e w' ⟨c, he, hc, hg⟩ => ⟨by rw [he, hc.one hz], hg⟩)
  have SM := Lib.hid (fun W (g : Below w.heap.size w W) => lsum_calls ⟨x, lk, att⟩ W (HD.out.below g) (LsaOk.enc (d := ⟨x, lk, att⟩) hz HD.out))
  obtain ⟨sm, hsm⟩ : ∃ sm, sm = sumD ⟨x, lk, att⟩ := ⟨_, rfl⟩
  rw [← hsm]
  rw [← hsm] at SM
  clear h nl na hsm HD hz
  obtain ⟨typ, id, len, router, seq, age, sum, border, boundary, la, ln, lc, aa, an, ac, cost, second, fwd, tag⟩ := x
  simp only at hl ha
  obtain rfl := hl.ln
  obtain rfl := ha.ln
  simp only [lsaE] at CK SM ⊢
  clear hl ha
  obtain ⟨W0, hW0⟩ : ∃ W0, (w.alloc (.cells #[.int .i64 typ, .int .u32 id, .int .i64 len, .int .u32 router, .int .i64 seq, .int .i64 age, .int .i64 sum, .bool border, .bool boundary, .slice la lk.length lc, .slice aa att.length ac, .int .i64 cost, .bool second, .int .u32 fwd, .int .i64 tag] 42)).alloc (.cells #[.int .i64 0, .int .u32 0, .int .i64 0, .int .u32 0, .int .i64 0, .int .i64 0, .int .i64 0, .bool false, .bool false, .slice none 0 0, .slice none 0 0, .int .i64 0, .bool false, .int .u32 0, .int .i64 0] 42) = W0 := ⟨_, rfl⟩
  have B0 : Hid (Below w.heap.size w W0) := Lib.hid (by rw [← hW0]; exact ((Below.refl _ _).alloc (Nat.le_refl _) _).alloc (by simp) _)
  have X0 : Hid (W0.heap[w.heap.size]? = some (.cells #[.int .i64 typ, .int .u32 id, .int .i64 len, .int .u32 router, .int .i64 seq, .int .i64 age, .int .i64 sum, .bool border, .bool boundary, .slice la lk.length lc, .slice aa att.length ac, .int .i64 cost, .bool second, .int .u32 fwd, .int .i64 tag] 42 (0, 0))) := Lib.hid (by rw [← hW0]; exact (alloc_get _ _ _ (by simp)).trans (alloc_new _ _))
  have Z0 : Hid (W0.heap[w.heap.size + 1]? = some (.cells #[.int .i64 0, .int .u32 0, .int .i64 0, .int .u32 0, .int .i64 0, .int .i64 0, .int .i64 0, .bool false, .bool false, .slice none 0 0, .slice none 0 0, .int .i64 0, .bool false, .int .u32 0, .int .i64 0] 42 (0, 0))) := Lib.hid (by rw [← hW0]; exact blk_new2 w _ _)
  have HW0 := Lib.hid hW0
  clear hW0
  have CK0 := Lib.hid (CK.out W0 B0.out)
  obtain ⟨⟨⟨x0, x1, x2, x3, x4⟩, ⟨x5, x6, x7, x8, x9⟩, ⟨x10, x11, x12, x13, x14⟩⟩, -⟩ := blk15 X0.out
  go_enter Tryz.func55, Tryz.ntmps55
  go_upto_region 1 with fail
  rw [HW0.out]
  go_wp2_with fail
  refine CK0.out.mono ?_
  rintro e w1 ⟨rfl, g1⟩
  have K1 := Lib.hid (B0.out.trans (g1.b.mono B0.out.size))
  have X1 := Lib.hid ((g1.b.block _ (blk_lt X0.out)).trans X0.out)
  have Z1 := Lib.hid ((g1.b.block _ (blk_lt Z0.out)).trans Z0.out)
  clear g1 CK CK0 x0 x1 x2 x3 x4 x5 x6 x7 x8 x9 x10 x11 x12 x13 x14
  have SM1 := Lib.hid (SM.out w1 K1.out)
  clear SM
  obtain ⟨⟨⟨x0, x1, x2, x3, x4⟩, ⟨x5, x6, x7, x8, x9⟩, ⟨x10, x11, x12, x13, x14⟩⟩, -⟩ := blk15 X1.out
  go_upto_region 4 with fail
  go_wp2_with fail
  refine SM1.out.mono ?_
  rintro e w0 ⟨rfl, B2⟩
  have K2 := Lib.hid (K1.out.trans (B2.mono K1.out.size))
  have X2 := Lib.hid ((B2.block _ (blk_lt X1.out)).trans X1.out)
  have Z2 := Lib.hid ((B2.block _ (blk_lt Z1.out)).trans Z1.out)
  clear B2 SM1 x0 x1 x2 x3 x4 x5 x6 x7 x8 x9 x10 x11 x12 x13 x14
  obtain ⟨WB, hWB⟩ : ∃ WB, w0.setCell ⟨w.heap.size, 6, none⟩ (.int .i64 sm) = WB := ⟨_, rfl⟩
  have HB0 : Hid (Below w.heap.size w WB) := Lib.hid (by rw [← hWB]; exact K2.out.setCell (p := ⟨w.heap.size, 6, none⟩) (Nat.le_refl _) _)
  have XB : Hid (WB.heap[w.heap.size]? = some (.cells #[.int .i64 typ, .int .u32 id, .int .i64 len, .int .u32 router, .int .i64 seq, .int .i64 age, .int .i64 sm, .bool border, .bool boundary, .slice la lk.length lc, .slice aa att.length ac, .int .i64 cost, .bool second, .int .u32 fwd, .int .i64 tag] 42 (0, 0))) := Lib.hid (by
    rw [← hWB]
    have h1 := blk_set X2.out 6 (.int .i64 sm)
    simp only [List.setIfInBounds_toArray, List.set_cons_zero, List.set_cons_succ] at h1
    exact h1)
  have XZ : Hid (WB.heap[w.heap.size + 1]? = some (.cells #[.int .i64 0, .int .u32 0, .int .i64 0, .int .u32 0, .int .i64 0, .int .i64 0, .int .i64 0, .bool false, .bool false, .slice none 0 0, .slice none 0 0, .int .i64 0, .bool false, .int .u32 0, .int .i64 0] 42 (0, 0))) := Lib.hid (by rw [← hWB, blk_other _ _ _ _ (by simp)]; exact Z2.out)
  have HWB := Lib.hid hWB
  clear hWB
  have KC : Hid (∀ W, Below WB.heap.size WB W → Calls Tryz.prog 49 #[.slice la lk.length lc] W (ClkPost W lk)) := Lib.hid (fun W g => clk_calls W _ lk (HLL.out.l.below (HB0.out.trans (g.mono HB0.out.size))) HLL.out.nl)
  have AC : Hid (∀ W, Below WB.heap.size WB W → Calls Tryz.prog 50 #[.slice aa att.length ac] W (CwdPost W att)) := Lib.hid (fun W g => cwd_calls W _ att (HLL.out.a.below (HB0.out.trans (g.mono HB0.out.size))) HLL.out.na)
  have m9 : WB.cell? ⟨w.heap.size, 9, none⟩ = some (.slice la lk.length lc) := blk_cell XB.out rfl
  have m10 : WB.cell? ⟨w.heap.size, 10, none⟩ = some (.slice aa att.length ac) := blk_cell XB.out rfl
  have k6 : w0.cell? ⟨w.heap.size, 6, none⟩ = some (.int .i64 sum) := blk_cell X2.out rfl
  have kf6 := blk_free X2.out 6
  go_upto_region 5 with fail
  rw [HWB.out]
  clear k6 kf6
  go_cut [] (fun wx => MidL w ⟨typ, id, len, router, seq, age, sm, border, boundary, la, lk.length, lc, aa, att.length, ac, cost, second, fwd, tag⟩ lk att wx)
  case first =>
    go_region_with (first
      | (go_at_call 49; ((with_reducible refine (KC.out _ (by first | exact Below.refl _ _ | exact (Below.refl _ _).drew | exact R2.out)).mono ?_)); rintro e w1 ⟨a1, c1, rfl, L1, FR1, B1⟩; have R1 : Hid (Below WB.heap.size WB w1) := Lib.hid (by first | exact R2.out.trans (B1.mono R2.out.size) | exact B1 | exact (Below.refl _ WB).drew.trans B1); have HL1 := Lib.hid L1; have HB1 := Lib.hid B1; have HF1 : Hid (Fr WB.heap.size (.slice a1 lk.length c1)) := Lib.hid (by first | exact FR1 | exact FR1.mono R2.out.size); have b1 := (R1.out.block _ (blk_lt XB.out)).trans XB.out; have p9 : w1.cell? ⟨w.heap.size, 9, none⟩ = some (.slice la lk.length lc) := blk_cell b1 rfl; have p10 : w1.cell? ⟨w.heap.size, 10, none⟩ = some (.slice aa att.length ac) := blk_cell b1 rfl; have pf9 := blk_free b1 9; have pf10 := blk_free b1 10; clear L1 B1 b1 FR1)
      | (go_at_call 50; ((with_reducible refine (AC.out _ (by first | exact Below.refl _ _ | exact (Below.refl _ _).drew | exact R1.out)).mono ?_)); rintro e w2 ⟨a2, c2, rfl, A2, FR2, B2⟩; have R2 : Hid (Below WB.heap.size WB w2) := Lib.hid (by first | exact R1.out.trans (B2.mono R1.out.size) | exact B2 | exact (Below.refl _ WB).drew.trans B2); have HA2 := Lib.hid A2; have HB2 := Lib.hid B2; have HF2 : Hid (Fr WB.heap.size (.slice a2 att.length c2)) := Lib.hid (by first | exact FR2 | exact FR2.mono R1.out.size); have b2 := (R2.out.block _ (blk_lt XB.out)).trans XB.out; have q9 : w2.cell? ⟨w.heap.size, 9, none⟩ = some (.slice la lk.length lc) := blk_cell b2 rfl; have q10 : w2.cell? ⟨w.heap.size, 10, none⟩ = some (.slice aa att.length ac) := blk_cell b2 rfl; have qf9 := blk_free b2 9; have qf10 := blk_free b2 10; have QB2 := Lib.hid b2; clear A2 B2 b2 FR2))
    all_goals
      obtain ⟨wE, hWE⟩ : ∃ wE, (w2.setCell ⟨w.heap.size, 9, none⟩ (.slice a1 lk.length c1)).setCell ⟨w.heap.size, 10, none⟩ (.slice a2 att.length c2) = wE := ⟨_, rfl⟩
      have gS : w2.grownBy wE (some w.heap.size) := by rw [← hWE]; exact (grown_set w2 w.heap.size 9 _).andThen (grown_set _ w.heap.size 10 _) (fun j hj => .inr hj.symm.symm)
      have EB : wE.heap[w.heap.size]? = some (.cells #[.int .i64 typ, .int .u32 id, .int .i64 len, .int .u32 router, .int .i64 seq, .int .i64 age, .int .i64 sm, .bool border, .bool boundary, .slice a1 lk.length c1, .slice a2 att.length c2, .int .i64 cost, .bool second, .int .u32 fwd, .int .i64 tag] 42 (0, 0)) := by
        rw [← hWE]
        have h1 := blk_set (blk_set QB2.out 9 (.slice a1 lk.length c1)) 10 (.slice a2 att.length c2)
        simp only [List.setIfInBounds_toArray, List.set_cons_zero, List.set_cons_succ] at h1
        exact h1
      have EZ : wE.heap[w.heap.size + 1]? = some (.cells #[.int .i64 0, .int .u32 0, .int .i64 0, .int .u32 0, .int .i64 0, .int .i64 0, .int .i64 0, .bool false, .bool false, .slice none 0 0, .slice none 0 0, .int .i64 0, .bool false, .int .u32 0, .int .i64 0] 42 (0, 0)) := (gS.block _ (Nat.lt_of_lt_of_le (blk_lt XZ.out) R2.out.size) (by simp)).trans ((R2.out.block _ (blk_lt XZ.out)).trans XZ.out)
      have BE : Below w.heap.size w wE := (HB0.out.trans (R2.out.mono HB0.out.size)).grown gS (Nat.le_trans HB0.out.size R2.out.size) (fun j hj => by cases hj; exact Nat.le_refl _)
      have bs := blk_lt XZ.out
      have SL : LnksAt wE (.slice a1 lk.length c1) lk := (HL1.out.below HB2.out).far HF1.out (by omega) gS
      have SA : WordsAt wE (.slice a2 att.length c2) att := HA2.out.far HF2.out (by omega) gS
      have MID : Hid (MidL w ⟨typ, id, len, router, seq, age, sm, border, boundary, la, lk.length, lc, aa, att.length, ac, cost, second, fwd, tag⟩ lk att wE) := Lib.hid ⟨a1, c1, a2, c2, EB, EZ, SL, SA, HF1.out.mono (by omega), HF2.out.mono (by omega), BE⟩
      rw [hWE]
      clear hWE gS EB EZ BE bs SL SA p9 p10 pf9 pf10 q9 q10 qf9 qf10
      go_wp2_with fail
      go_meet
      exact MID.out
  case rest =>
    obtain ⟨a1, c1, a2, c2, EB, EZ, SL0, SA0, HF1, HF2, BE⟩ := hcut
    simp only [lsaE, atL, lsaZ] at EB EZ SL0 SA0 HF1 HF2
    obtain ⟨W', hW'⟩ : ∃ W', setLsa wc (w.heap.size + 1) ⟨typ, id, len, router, seq, age, sm, border, boundary, a1, lk.length, c1, a2, att.length, c2, cost, second, fwd, tag⟩ = W' := ⟨_, rfl⟩
    have bk' : W'.heap[w.heap.size + 1]? = some (.cells #[.int .i64 typ, .int .u32 id, .int .i64 len, .int .u32 router, .int .i64 seq, .int .i64 age, .int .i64 sm, .bool border, .bool boundary, .slice a1 lk.length c1, .slice a2 att.length c2, .int .i64 cost, .bool second, .int .u32 fwd, .int .i64 tag] 42 (0, 0)) := by rw [← hW']; exact setLsa_blk EZ _
    have BW' : Below w.heap.size w W' := by rw [← hW']; exact setLsa_below BE (Nat.le_succ _) _
    have BN : wc.grownBy W' (some (w.heap.size + 1)) := by rw [← hW']; exact setLsa_grown _ _ _
    have SL : LnksAt W' (.slice a1 lk.length c1) lk := SL0.far HF1 (by omega) BN
    have SA : WordsAt W' (.slice a2 att.length c2) att := SA0.far HF2 (by omega) BN
    have FIN : Hid (LsOk w ⟨typ, id, len, router, seq, age, sum, border, boundary, la, lk.length, lc, aa, att.length, ac, cost, second, fwd, tag⟩ lk att sm (.returned (.tuple #[.agg #[.int .i64 typ, .int .u32 id, .int .i64 len, .int .u32 router, .int .i64 seq, .int .i64 age, .int .i64 sm, .bool border, .bool boundary, .slice a1 lk.length c1, .slice a2 att.length c2, .int .i64 cost, .bool second, .int .u32 fwd, .int .i64 tag], .int .i64 0])) W') := Lib.hid ⟨a1, c1, a2, c2, rfl, SL, SA, BW', HF1.mono (by omega), HF2.mono (by omega)⟩
    unfold setLsa at hW'
    simp only at hW'
    have HW' := Lib.hid hW'
    obtain ⟨⟨⟨e0, e1, e2, e3, e4⟩, ⟨e5, e6, e7, e8, e9⟩, ⟨e10, e11, e12, e13, e14⟩⟩, -⟩ := blk15 EB
    obtain ⟨⟨⟨z0, z1, z2, z3, z4⟩, ⟨z5, z6, z7, z8, z9⟩, ⟨z10, z11, z12, z13, z14⟩⟩, hfz⟩ := blk15 EZ
    have zf0 := hfz 0
    have zf1 := hfz 1
    have zf2 := hfz 2
    have zf3 := hfz 3
    have zf4 := hfz 4
    have zf5 := hfz 5
    have zf6 := hfz 6
    have zf7 := hfz 7
    have zf8 := hfz 8
    have zf9 := hfz 9
    have zf10 := hfz 10
    have zf11 := hfz 11
    have zf12 := hfz 12
    have zf13 := hfz 13
    have zf14 := hfz 14
    obtain ⟨⟨⟨g0, g1, g2, g3, g4⟩, ⟨g5, g6, g7, g8, g9⟩, ⟨g10, g11, g12, g13, g14⟩⟩, -⟩ := blk15 bk'
    have G := Lib.hid (And.intro g0 (And.intro g1 (And.intro g2 (And.intro g3 (And.intro g4 (And.intro g5 (And.intro g6 (And.intro g7 (And.intro g8 (And.intro g9 (And.intro g10 (And.intro g11 (And.intro g12 (And.intro g13 g14))))))))))))))
    clear EB EZ BE hW' bk' BW' BN SL SA SL0 SA0 HF1 HF2 hfz g0 g1 g2 g3 g4 g5 g6 g7 g8 g9 g10 g11 g12 g13 g14
    go_wp2_with fail
    rw [HW'.out]
    obtain ⟨g0, g1, g2, g3, g4, g5, g6, g7, g8, g9, g10, g11, g12, g13, g14⟩ := G.out
    exact bodyPost_ret (v := .tuple #[.agg #[.int .i64 typ, .int .u32 id, .int .i64 len, .int .u32 router, .int .i64 seq, .int .i64 age, .int .i64 sm, .bool border, .bool boundary, .slice a1 lk.length c1, .slice a2 att.length c2, .int .i64 cost, .bool second, .int .u32 fwd, .int .i64 tag], .int .i64 0]) (by simp [results, Tryz.results55, go_sem, g0, g1, g2, g3, g4, g5, g6, g7, g8, g9, g10, g11, g12, g13, g14]) rfl FIN.out

end Go.Proofs.YtddageahmgaigaaGreat

namespace Go.Proofs.YtddageahmgaigaaGreat
open Go.RowKit

end Go.Proofs.YtddageahmgaigaaGreat

namespace Go.Proofs.YtddageahmgaigaaGreat
open Go.RowKit

def RfPost (w : World) (x : Lsa) (e : Ending) (w' : World) : Prop := e = .returned (.agg (lsaE { x with age := 3600 }).toArray) ∧ Below w.heap.size w w'

end Go.Proofs.YtddageahmgaigaaGreat
