/-
  hello.cloneNeighbor.
-/
/-
  hello.Find: the neighbor with a router.
-/
import Derived.Test.YtddageahmgaigaaGreatDsb
import Derived.Test.YtddageahmgaigaaGreatLhd
import Derived.Test.YtddageahmgaigaaGreatRtp
import Derived.Deep.DeepCutAuto
namespace Go.Proofs.YtddageahmgaigaaGreat
open Go.RowKit

theorem grown_grown0 {w w1 w2 : World} {r : Option Nat} (h : w.grownBy w1 r) (hb : w1.grownBy w2 r) : w.grownBy w2 r :=
  ⟨hb.os.trans h.os, hb.tape.trans h.tape, hb.output.trans h.output, Nat.le_trans h.size hb.size, fun j hj hn => (hb.block j (Nat.lt_of_lt_of_le hj h.size) hn).trans (h.block j hj hn)⟩

/-- the neighbor in its block, some of its lists replaced -/
def CnM (w : World) (c : Array Value) (wx : World) : Prop := wx.heap[w.heap.size]? = some (.cells c 72 (0, 0)) ∧ wx.heap[w.heap.size + 1]? = some (.cells #[.int .u32 0, .int .u32 0, .int .i64 0, .int .u32 0, .int .u32 0, .int .i64 0, .int .i64 0, .bool false, .int .i64 0, .slice none 0 0, .slice none 0 0, .bool false, .slice none 0 0, .slice none 0 0, .int .i64 0] 72 (0, 0)) ∧ Below w.heap.size w wx

def CnPost (w : World) (n : Nb) (e : Ending) (w' : World) : Prop := ∃ s9 sA sC sD : Sl, e = .returned (.agg (nbE { n with v9 := s9, v10 := sA, v12 := sC, v13 := sD }).toArray) ∧ Below w.heap.size w w'

set_option maxHeartbeats 16000000 in
set_option maxRecDepth 100000 in
theorem cloneNb_calls (n : Nb) (w : World) (h : NbIn w n) (h9 : n.v9.n ≤ 1048576) (hA : n.v10.n ≤ 1048576) (hC : n.v12.n ≤ 1048576) (hD : n.v13.n ≤ 1048576) : Calls Tryz.prog 144 #[.agg (nbE n).toArray] w (CnPost w n) := by
  obtain ⟨nr, na, nprio, ndr, nbdr, nst, ntil, nmas, nseq, ⟨v9a, v9n, v9c⟩, ⟨vAa, vAn, vAc⟩, nmore, ⟨vCa, vCn, vCc⟩, ⟨vDa, vDn, vDc⟩, nres⟩ := n
  simp only at h9 hA hC hD
  have K9 := Lib.hid (fun W (g : Below w.heap.size w W) => hclone_calls W v9a v9n v9c (h.h9.below g) h9)
  have KA := Lib.hid (fun W (g : Below w.heap.size w W) => hclone_calls W vAa vAn vAc (h.h10.below g) hA)
  have KC := Lib.hid (fun W (g : Below w.heap.size w W) => hclone_calls W vCa vCn vCc (h.h12.below g) hC)
  have KD := Lib.hid (fun W (g : Below w.heap.size w W) => hclone_calls W vDa vDn vDc (h.h13.below g) hD)
  clear h h9 hA hC hD
  obtain ⟨W0, hW0⟩ : ∃ W0, (w.alloc (.cells #[.int .u32 nr, .int .u32 na, .int .i64 nprio, .int .u32 ndr, .int .u32 nbdr, .int .i64 nst, .int .i64 ntil, .bool nmas, .int .i64 nseq, .slice v9a v9n v9c, .slice vAa vAn vAc, .bool nmore, .slice vCa vCn vCc, .slice vDa vDn vDc, .int .i64 nres] 72)).alloc (.cells #[.int .u32 0, .int .u32 0, .int .i64 0, .int .u32 0, .int .u32 0, .int .i64 0, .int .i64 0, .bool false, .int .i64 0, .slice none 0 0, .slice none 0 0, .bool false, .slice none 0 0, .slice none 0 0, .int .i64 0] 72) = W0 := ⟨_, rfl⟩
  have B0 : Hid (Below w.heap.size w W0) := Lib.hid (by rw [← hW0]; exact ((Below.refl _ _).alloc (Nat.le_refl _) _).alloc (by simp) _)
  have X0 : Hid (W0.heap[w.heap.size]? = some (.cells #[.int .u32 nr, .int .u32 na, .int .i64 nprio, .int .u32 ndr, .int .u32 nbdr, .int .i64 nst, .int .i64 ntil, .bool nmas, .int .i64 nseq, .slice v9a v9n v9c, .slice vAa vAn vAc, .bool nmore, .slice vCa vCn vCc, .slice vDa vDn vDc, .int .i64 nres] 72 (0, 0))) := Lib.hid (by rw [← hW0]; exact (alloc_get _ _ _ (by simp)).trans (alloc_new _ _))
  have Z0 : Hid (W0.heap[w.heap.size + 1]? = some (.cells #[.int .u32 0, .int .u32 0, .int .i64 0, .int .u32 0, .int .u32 0, .int .i64 0, .int .i64 0, .bool false, .int .i64 0, .slice none 0 0, .slice none 0 0, .bool false, .slice none 0 0, .slice none 0 0, .int .i64 0] 72 (0, 0))) := Lib.hid (by rw [← hW0]; exact blk_new2 w _ _)
  have HW0 := Lib.hid hW0
  clear hW0
  have C9 := Lib.hid (fun W (g : Below W0.heap.size W0 W) => K9.out W (B0.out.trans (g.mono B0.out.size)))
  have CA := Lib.hid (fun W (g : Below W0.heap.size W0 W) => KA.out W (B0.out.trans (g.mono B0.out.size)))
  have m9 : W0.cell? ⟨w.heap.size, 9, none⟩ = some (.slice v9a v9n v9c) := blk_cell X0.out rfl
  have m10 : W0.cell? ⟨w.heap.size, 10, none⟩ = some (.slice vAa vAn vAc) := blk_cell X0.out rfl
  simp only [nbE]
  go_enter Tryz.func144, Tryz.ntmps144
  go_upto_region 1 with fail
  rw [HW0.out]
  go_cut [] (fun wx => ∃ a9 n9 c9 aA nA cA, CnM w #[.int .u32 nr, .int .u32 na, .int .i64 nprio, .int .u32 ndr, .int .u32 nbdr, .int .i64 nst, .int .i64 ntil, .bool nmas, .int .i64 nseq, .slice a9 n9 c9, .slice aA nA cA, .bool nmore, .slice vCa vCn vCc, .slice vDa vDn vDc, .int .i64 nres] wx)
  case first =>
    clear KC KD
    go_region_with (first
      | (go_at_call 171; ((with_reducible refine (C9.out _ (by first | exact Below.refl _ _ | exact (Below.refl _ _).drew | exact R2.out)).mono ?_)); rintro e w1 ⟨a9, n9, c9, rfl, B1⟩; have R1 : Hid (Below W0.heap.size W0 w1) := Lib.hid (by first | exact R2.out.trans (B1.mono R2.out.size) | exact B1 | exact (Below.refl _ W0).drew.trans B1); have b1 := (R1.out.block _ (blk_lt X0.out)).trans X0.out; have p9 : w1.cell? ⟨w.heap.size, 9, none⟩ = some (.slice v9a v9n v9c) := blk_cell b1 rfl; have p10 : w1.cell? ⟨w.heap.size, 10, none⟩ = some (.slice vAa vAn vAc) := blk_cell b1 rfl; have pf9 := blk_free b1 9; have pf10 := blk_free b1 10; clear B1 b1)
      | (go_at_call 171; ((with_reducible refine (CA.out _ (by first | exact Below.refl _ _ | exact (Below.refl _ _).drew | exact R1.out)).mono ?_)); rintro e w2 ⟨aA, nA, cA, rfl, B2⟩; have R2 : Hid (Below W0.heap.size W0 w2) := Lib.hid (by first | exact R1.out.trans (B2.mono R1.out.size) | exact B2 | exact (Below.refl _ W0).drew.trans B2); have b2 := (R2.out.block _ (blk_lt X0.out)).trans X0.out; have q9 : w2.cell? ⟨w.heap.size, 9, none⟩ = some (.slice v9a v9n v9c) := blk_cell b2 rfl; have q10 : w2.cell? ⟨w.heap.size, 10, none⟩ = some (.slice vAa vAn vAc) := blk_cell b2 rfl; have qf9 := blk_free b2 9; have qf10 := blk_free b2 10; have QB2 := Lib.hid b2; clear B2 b2))
    all_goals
      obtain ⟨wE, hWE⟩ : ∃ wE, (w2.setCell ⟨w.heap.size, 9, none⟩ (.slice a9 n9 c9)).setCell ⟨w.heap.size, 10, none⟩ (.slice aA nA cA) = wE := ⟨_, rfl⟩
      have gS : w2.grownBy wE (some w.heap.size) := by rw [← hWE]; exact (grown_set w2 w.heap.size 9 _).andThen (grown_set _ w.heap.size 10 _) (fun j hj => .inr hj.symm.symm)
      have EB : wE.heap[w.heap.size]? = some (.cells #[.int .u32 nr, .int .u32 na, .int .i64 nprio, .int .u32 ndr, .int .u32 nbdr, .int .i64 nst, .int .i64 ntil, .bool nmas, .int .i64 nseq, .slice a9 n9 c9, .slice aA nA cA, .bool nmore, .slice vCa vCn vCc, .slice vDa vDn vDc, .int .i64 nres] 72 (0, 0)) := by
        rw [← hWE]
        have h1 := blk_set (blk_set QB2.out 9 (.slice a9 n9 c9)) 10 (.slice aA nA cA)
        simp only [List.setIfInBounds_toArray, List.set_cons_zero, List.set_cons_succ] at h1
        exact h1
      have EZ : wE.heap[w.heap.size + 1]? = some (.cells #[.int .u32 0, .int .u32 0, .int .i64 0, .int .u32 0, .int .u32 0, .int .i64 0, .int .i64 0, .bool false, .int .i64 0, .slice none 0 0, .slice none 0 0, .bool false, .slice none 0 0, .slice none 0 0, .int .i64 0] 72 (0, 0)) := (gS.block _ (Nat.lt_of_lt_of_le (blk_lt Z0.out) R2.out.size) (by simp)).trans ((R2.out.block _ (blk_lt Z0.out)).trans Z0.out)
      have BE : Below w.heap.size w wE := (B0.out.trans (R2.out.mono B0.out.size)).grown gS (Nat.le_trans B0.out.size R2.out.size) (fun j hj => by cases hj; exact Nat.le_refl _)
      have MID := Lib.hid ((show ∃ a9 n9 c9 aA nA cA, CnM w #[.int .u32 nr, .int .u32 na, .int .i64 nprio, .int .u32 ndr, .int .u32 nbdr, .int .i64 nst, .int .i64 ntil, .bool nmas, .int .i64 nseq, .slice a9 n9 c9, .slice aA nA cA, .bool nmore, .slice vCa vCn vCc, .slice vDa vDn vDc, .int .i64 nres] wE from ⟨a9, n9, c9, aA, nA, cA, EB, EZ, BE⟩))
      rw [hWE]
      clear hWE gS EB EZ BE p9 p10 pf9 pf10 q9 q10 qf9 qf10
      go_wp2_with fail
      go_meet
      exact MID.out
  case rest =>
    clear K9 KA C9 CA m9 m10 X0 Z0 B0 HW0
    obtain ⟨b9, x9, y9, bA, xA, yA, XH, ZH, BH⟩ := hcut
    obtain ⟨wc1, ewc⟩ : ∃ wc1, wc1 = wc := ⟨_, rfl⟩
    subst ewc
    have X1 := Lib.hid XH
    have Z1 := Lib.hid ZH
    have B1 := Lib.hid BH
    clear XH ZH BH
    have CC := Lib.hid (fun W (g : Below wc1.heap.size wc1 W) => KC.out W (B1.out.trans (g.mono B1.out.size)))
    have CD := Lib.hid (fun W (g : Below wc1.heap.size wc1 W) => KD.out W (B1.out.trans (g.mono B1.out.size)))
    have m9 : wc1.cell? ⟨w.heap.size, 12, none⟩ = some (.slice vCa vCn vCc) := blk_cell X1.out rfl
    have m10 : wc1.cell? ⟨w.heap.size, 13, none⟩ = some (.slice vDa vDn vDc) := blk_cell X1.out rfl
    go_upto_region 2 with fail
    go_cut [] (fun wx => ∃ aC nC cC aD nD cD, CnM w #[.int .u32 nr, .int .u32 na, .int .i64 nprio, .int .u32 ndr, .int .u32 nbdr, .int .i64 nst, .int .i64 ntil, .bool nmas, .int .i64 nseq, .slice b9 x9 y9, .slice bA xA yA, .bool nmore, .slice aC nC cC, .slice aD nD cD, .int .i64 nres] wx)
    case first =>
      go_region_with (first
        | (go_at_call 171; ((with_reducible refine (CC.out _ (by first | exact Below.refl _ _ | exact (Below.refl _ _).drew | exact R2.out)).mono ?_)); rintro e w1 ⟨a9, n9, c9, rfl, B1⟩; have R1 : Hid (Below wc1.heap.size wc1 w1) := Lib.hid (by first | exact R2.out.trans (B1.mono R2.out.size) | exact B1 | exact (Below.refl _ wc1).drew.trans B1); have b1 := (R1.out.block _ (blk_lt X1.out)).trans X1.out; have p9 : w1.cell? ⟨w.heap.size, 12, none⟩ = some (.slice vCa vCn vCc) := blk_cell b1 rfl; have p10 : w1.cell? ⟨w.heap.size, 13, none⟩ = some (.slice vDa vDn vDc) := blk_cell b1 rfl; have pf9 := blk_free b1 12; have pf10 := blk_free b1 13; clear B1 b1)
        | (go_at_call 171; ((with_reducible refine (CD.out _ (by first | exact Below.refl _ _ | exact (Below.refl _ _).drew | exact R1.out)).mono ?_)); rintro e w2 ⟨aA, nA, cA, rfl, B2⟩; have R2 : Hid (Below wc1.heap.size wc1 w2) := Lib.hid (by first | exact R1.out.trans (B2.mono R1.out.size) | exact B2 | exact (Below.refl _ wc1).drew.trans B2); have b2 := (R2.out.block _ (blk_lt X1.out)).trans X1.out; have q9 : w2.cell? ⟨w.heap.size, 12, none⟩ = some (.slice vCa vCn vCc) := blk_cell b2 rfl; have q10 : w2.cell? ⟨w.heap.size, 13, none⟩ = some (.slice vDa vDn vDc) := blk_cell b2 rfl; have qf9 := blk_free b2 12; have qf10 := blk_free b2 13; have QB2 := Lib.hid b2; clear B2 b2))
      all_goals
        obtain ⟨wE, hWE⟩ : ∃ wE, (w2.setCell ⟨w.heap.size, 12, none⟩ (.slice a9 n9 c9)).setCell ⟨w.heap.size, 13, none⟩ (.slice aA nA cA) = wE := ⟨_, rfl⟩
        have gS : w2.grownBy wE (some w.heap.size) := by rw [← hWE]; exact (grown_set w2 w.heap.size 12 _).andThen (grown_set _ w.heap.size 13 _) (fun j hj => .inr hj.symm.symm)
        have EB : wE.heap[w.heap.size]? = some (.cells #[.int .u32 nr, .int .u32 na, .int .i64 nprio, .int .u32 ndr, .int .u32 nbdr, .int .i64 nst, .int .i64 ntil, .bool nmas, .int .i64 nseq, .slice b9 x9 y9, .slice bA xA yA, .bool nmore, .slice a9 n9 c9, .slice aA nA cA, .int .i64 nres] 72 (0, 0)) := by
          rw [← hWE]
          have h1 := blk_set (blk_set QB2.out 12 (.slice a9 n9 c9)) 13 (.slice aA nA cA)
          simp only [List.setIfInBounds_toArray, List.set_cons_zero, List.set_cons_succ] at h1
          exact h1
        have EZ : wE.heap[w.heap.size + 1]? = some (.cells #[.int .u32 0, .int .u32 0, .int .i64 0, .int .u32 0, .int .u32 0, .int .i64 0, .int .i64 0, .bool false, .int .i64 0, .slice none 0 0, .slice none 0 0, .bool false, .slice none 0 0, .slice none 0 0, .int .i64 0] 72 (0, 0)) := (gS.block _ (Nat.lt_of_lt_of_le (blk_lt Z1.out) R2.out.size) (by simp)).trans ((R2.out.block _ (blk_lt Z1.out)).trans Z1.out)
        have BE : Below w.heap.size w wE := (B1.out.trans (R2.out.mono B1.out.size)).grown gS (Nat.le_trans B1.out.size R2.out.size) (fun j hj => by cases hj; exact Nat.le_refl _)
        have MID := Lib.hid ((show ∃ aC nC cC aD nD cD, CnM w #[.int .u32 nr, .int .u32 na, .int .i64 nprio, .int .u32 ndr, .int .u32 nbdr, .int .i64 nst, .int .i64 ntil, .bool nmas, .int .i64 nseq, .slice b9 x9 y9, .slice bA xA yA, .bool nmore, .slice aC nC cC, .slice aD nD cD, .int .i64 nres] wE from ⟨a9, n9, c9, aA, nA, cA, EB, EZ, BE⟩))
        rw [hWE]
        clear hWE gS EB EZ BE p9 p10 pf9 pf10 q9 q10 qf9 qf10
        go_wp2_with fail
        go_meet
        exact MID.out
    case rest =>
      clear KC KD CC CD m9 m10 X1 Z1 B1
      obtain ⟨aC, nC, cC, aD, nD, cD, XH, ZH, BH⟩ := hcut
      obtain ⟨wc2, ewc⟩ : ∃ wc2, wc2 = wc := ⟨_, rfl⟩
      subst ewc
      have Z2 := Lib.hid ZH
      obtain ⟨W', hW'⟩ : ∃ W', (((((((((((((((wc2).setCell ⟨w.heap.size + 1, 0, none⟩ (.int .u32 nr)).setCell ⟨w.heap.size + 1, 1, none⟩ (.int .u32 na)).setCell ⟨w.heap.size + 1, 2, none⟩ (.int .i64 nprio)).setCell ⟨w.heap.size + 1, 3, none⟩ (.int .u32 ndr)).setCell ⟨w.heap.size + 1, 4, none⟩ (.int .u32 nbdr)).setCell ⟨w.heap.size + 1, 5, none⟩ (.int .i64 nst)).setCell ⟨w.heap.size + 1, 6, none⟩ (.int .i64 ntil)).setCell ⟨w.heap.size + 1, 7, none⟩ (.bool nmas)).setCell ⟨w.heap.size + 1, 8, none⟩ (.int .i64 nseq)).setCell ⟨w.heap.size + 1, 9, none⟩ (.slice b9 x9 y9)).setCell ⟨w.heap.size + 1, 10, none⟩ (.slice bA xA yA)).setCell ⟨w.heap.size + 1, 11, none⟩ (.bool nmore)).setCell ⟨w.heap.size + 1, 12, none⟩ (.slice aC nC cC)).setCell ⟨w.heap.size + 1, 13, none⟩ (.slice aD nD cD)).setCell ⟨w.heap.size + 1, 14, none⟩ (.int .i64 nres) = W' := ⟨_, rfl⟩
      have bk' : W'.heap[w.heap.size + 1]? = some (.cells #[.int .u32 nr, .int .u32 na, .int .i64 nprio, .int .u32 ndr, .int .u32 nbdr, .int .i64 nst, .int .i64 ntil, .bool nmas, .int .i64 nseq, .slice b9 x9 y9, .slice bA xA yA, .bool nmore, .slice aC nC cC, .slice aD nD cD, .int .i64 nres] 72 (0, 0)) := by
        rw [← hW']
        have h1 := blk_set (blk_set (blk_set (blk_set (blk_set (blk_set (blk_set (blk_set (blk_set (blk_set (blk_set (blk_set (blk_set (blk_set (blk_set (Z2.out) 0 (.int .u32 nr)) 1 (.int .u32 na)) 2 (.int .i64 nprio)) 3 (.int .u32 ndr)) 4 (.int .u32 nbdr)) 5 (.int .i64 nst)) 6 (.int .i64 ntil)) 7 (.bool nmas)) 8 (.int .i64 nseq)) 9 (.slice b9 x9 y9)) 10 (.slice bA xA yA)) 11 (.bool nmore)) 12 (.slice aC nC cC)) 13 (.slice aD nD cD)) 14 (.int .i64 nres)
        simp only [List.setIfInBounds_toArray, List.set_cons_zero, List.set_cons_succ] at h1
        exact h1
      have BN : wc2.grownBy W' (some (w.heap.size + 1)) := by
        rw [← hW']
        exact grown_grown0 (grown_grown0 (grown_grown0 (grown_grown0 (grown_grown0 (grown_grown0 (grown_grown0 (grown_grown0 (grown_grown0 (grown_grown0 (grown_grown0 (grown_grown0 (grown_grown0 (grown_grown0 (grown_grown0 (⟨rfl, rfl, rfl, Nat.le_refl _, fun _ _ _ => rfl⟩) (grown_set (wc2) (w.heap.size + 1) 0 (.int .u32 nr))) (grown_set ((wc2).setCell ⟨w.heap.size + 1, 0, none⟩ (.int .u32 nr)) (w.heap.size + 1) 1 (.int .u32 na))) (grown_set (((wc2).setCell ⟨w.heap.size + 1, 0, none⟩ (.int .u32 nr)).setCell ⟨w.heap.size + 1, 1, none⟩ (.int .u32 na)) (w.heap.size + 1) 2 (.int .i64 nprio))) (grown_set ((((wc2).setCell ⟨w.heap.size + 1, 0, none⟩ (.int .u32 nr)).setCell ⟨w.heap.size + 1, 1, none⟩ (.int .u32 na)).setCell ⟨w.heap.size + 1, 2, none⟩ (.int .i64 nprio)) (w.heap.size + 1) 3 (.int .u32 ndr))) (grown_set (((((wc2).setCell ⟨w.heap.size + 1, 0, none⟩ (.int .u32 nr)).setCell ⟨w.heap.size + 1, 1, none⟩ (.int .u32 na)).setCell ⟨w.heap.size + 1, 2, none⟩ (.int .i64 nprio)).setCell ⟨w.heap.size + 1, 3, none⟩ (.int .u32 ndr)) (w.heap.size + 1) 4 (.int .u32 nbdr))) (grown_set ((((((wc2).setCell ⟨w.heap.size + 1, 0, none⟩ (.int .u32 nr)).setCell ⟨w.heap.size + 1, 1, none⟩ (.int .u32 na)).setCell ⟨w.heap.size + 1, 2, none⟩ (.int .i64 nprio)).setCell ⟨w.heap.size + 1, 3, none⟩ (.int .u32 ndr)).setCell ⟨w.heap.size + 1, 4, none⟩ (.int .u32 nbdr)) (w.heap.size + 1) 5 (.int .i64 nst))) (grown_set (((((((wc2).setCell ⟨w.heap.size + 1, 0, none⟩ (.int .u32 nr)).setCell ⟨w.heap.size + 1, 1, none⟩ (.int .u32 na)).setCell ⟨w.heap.size + 1, 2, none⟩ (.int .i64 nprio)).setCell ⟨w.heap.size + 1, 3, none⟩ (.int .u32 ndr)).setCell ⟨w.heap.size + 1, 4, none⟩ (.int .u32 nbdr)).setCell ⟨w.heap.size + 1, 5, none⟩ (.int .i64 nst)) (w.heap.size + 1) 6 (.int .i64 ntil))) (grown_set ((((((((wc2).setCell ⟨w.heap.size + 1, 0, none⟩ (.int .u32 nr)).setCell ⟨w.heap.size + 1, 1, none⟩ (.int .u32 na)).setCell ⟨w.heap.size + 1, 2, none⟩ (.int .i64 nprio)).setCell ⟨w.heap.size + 1, 3, none⟩ (.int .u32 ndr)).setCell ⟨w.heap.size + 1, 4, none⟩ (.int .u32 nbdr)).setCell ⟨w.heap.size + 1, 5, none⟩ (.int .i64 nst)).setCell ⟨w.heap.size + 1, 6, none⟩ (.int .i64 ntil)) (w.heap.size + 1) 7 (.bool nmas))) (grown_set (((((((((wc2).setCell ⟨w.heap.size + 1, 0, none⟩ (.int .u32 nr)).setCell ⟨w.heap.size + 1, 1, none⟩ (.int .u32 na)).setCell ⟨w.heap.size + 1, 2, none⟩ (.int .i64 nprio)).setCell ⟨w.heap.size + 1, 3, none⟩ (.int .u32 ndr)).setCell ⟨w.heap.size + 1, 4, none⟩ (.int .u32 nbdr)).setCell ⟨w.heap.size + 1, 5, none⟩ (.int .i64 nst)).setCell ⟨w.heap.size + 1, 6, none⟩ (.int .i64 ntil)).setCell ⟨w.heap.size + 1, 7, none⟩ (.bool nmas)) (w.heap.size + 1) 8 (.int .i64 nseq))) (grown_set ((((((((((wc2).setCell ⟨w.heap.size + 1, 0, none⟩ (.int .u32 nr)).setCell ⟨w.heap.size + 1, 1, none⟩ (.int .u32 na)).setCell ⟨w.heap.size + 1, 2, none⟩ (.int .i64 nprio)).setCell ⟨w.heap.size + 1, 3, none⟩ (.int .u32 ndr)).setCell ⟨w.heap.size + 1, 4, none⟩ (.int .u32 nbdr)).setCell ⟨w.heap.size + 1, 5, none⟩ (.int .i64 nst)).setCell ⟨w.heap.size + 1, 6, none⟩ (.int .i64 ntil)).setCell ⟨w.heap.size + 1, 7, none⟩ (.bool nmas)).setCell ⟨w.heap.size + 1, 8, none⟩ (.int .i64 nseq)) (w.heap.size + 1) 9 (.slice b9 x9 y9))) (grown_set (((((((((((wc2).setCell ⟨w.heap.size + 1, 0, none⟩ (.int .u32 nr)).setCell ⟨w.heap.size + 1, 1, none⟩ (.int .u32 na)).setCell ⟨w.heap.size + 1, 2, none⟩ (.int .i64 nprio)).setCell ⟨w.heap.size + 1, 3, none⟩ (.int .u32 ndr)).setCell ⟨w.heap.size + 1, 4, none⟩ (.int .u32 nbdr)).setCell ⟨w.heap.size + 1, 5, none⟩ (.int .i64 nst)).setCell ⟨w.heap.size + 1, 6, none⟩ (.int .i64 ntil)).setCell ⟨w.heap.size + 1, 7, none⟩ (.bool nmas)).setCell ⟨w.heap.size + 1, 8, none⟩ (.int .i64 nseq)).setCell ⟨w.heap.size + 1, 9, none⟩ (.slice b9 x9 y9)) (w.heap.size + 1) 10 (.slice bA xA yA))) (grown_set ((((((((((((wc2).setCell ⟨w.heap.size + 1, 0, none⟩ (.int .u32 nr)).setCell ⟨w.heap.size + 1, 1, none⟩ (.int .u32 na)).setCell ⟨w.heap.size + 1, 2, none⟩ (.int .i64 nprio)).setCell ⟨w.heap.size + 1, 3, none⟩ (.int .u32 ndr)).setCell ⟨w.heap.size + 1, 4, none⟩ (.int .u32 nbdr)).setCell ⟨w.heap.size + 1, 5, none⟩ (.int .i64 nst)).setCell ⟨w.heap.size + 1, 6, none⟩ (.int .i64 ntil)).setCell ⟨w.heap.size + 1, 7, none⟩ (.bool nmas)).setCell ⟨w.heap.size + 1, 8, none⟩ (.int .i64 nseq)).setCell ⟨w.heap.size + 1, 9, none⟩ (.slice b9 x9 y9)).setCell ⟨w.heap.size + 1, 10, none⟩ (.slice bA xA yA)) (w.heap.size + 1) 11 (.bool nmore))) (grown_set (((((((((((((wc2).setCell ⟨w.heap.size + 1, 0, none⟩ (.int .u32 nr)).setCell ⟨w.heap.size + 1, 1, none⟩ (.int .u32 na)).setCell ⟨w.heap.size + 1, 2, none⟩ (.int .i64 nprio)).setCell ⟨w.heap.size + 1, 3, none⟩ (.int .u32 ndr)).setCell ⟨w.heap.size + 1, 4, none⟩ (.int .u32 nbdr)).setCell ⟨w.heap.size + 1, 5, none⟩ (.int .i64 nst)).setCell ⟨w.heap.size + 1, 6, none⟩ (.int .i64 ntil)).setCell ⟨w.heap.size + 1, 7, none⟩ (.bool nmas)).setCell ⟨w.heap.size + 1, 8, none⟩ (.int .i64 nseq)).setCell ⟨w.heap.size + 1, 9, none⟩ (.slice b9 x9 y9)).setCell ⟨w.heap.size + 1, 10, none⟩ (.slice bA xA yA)).setCell ⟨w.heap.size + 1, 11, none⟩ (.bool nmore)) (w.heap.size + 1) 12 (.slice aC nC cC))) (grown_set ((((((((((((((wc2).setCell ⟨w.heap.size + 1, 0, none⟩ (.int .u32 nr)).setCell ⟨w.heap.size + 1, 1, none⟩ (.int .u32 na)).setCell ⟨w.heap.size + 1, 2, none⟩ (.int .i64 nprio)).setCell ⟨w.heap.size + 1, 3, none⟩ (.int .u32 ndr)).setCell ⟨w.heap.size + 1, 4, none⟩ (.int .u32 nbdr)).setCell ⟨w.heap.size + 1, 5, none⟩ (.int .i64 nst)).setCell ⟨w.heap.size + 1, 6, none⟩ (.int .i64 ntil)).setCell ⟨w.heap.size + 1, 7, none⟩ (.bool nmas)).setCell ⟨w.heap.size + 1, 8, none⟩ (.int .i64 nseq)).setCell ⟨w.heap.size + 1, 9, none⟩ (.slice b9 x9 y9)).setCell ⟨w.heap.size + 1, 10, none⟩ (.slice bA xA yA)).setCell ⟨w.heap.size + 1, 11, none⟩ (.bool nmore)).setCell ⟨w.heap.size + 1, 12, none⟩ (.slice aC nC cC)) (w.heap.size + 1) 13 (.slice aD nD cD))) (grown_set (((((((((((((((wc2).setCell ⟨w.heap.size + 1, 0, none⟩ (.int .u32 nr)).setCell ⟨w.heap.size + 1, 1, none⟩ (.int .u32 na)).setCell ⟨w.heap.size + 1, 2, none⟩ (.int .i64 nprio)).setCell ⟨w.heap.size + 1, 3, none⟩ (.int .u32 ndr)).setCell ⟨w.heap.size + 1, 4, none⟩ (.int .u32 nbdr)).setCell ⟨w.heap.size + 1, 5, none⟩ (.int .i64 nst)).setCell ⟨w.heap.size + 1, 6, none⟩ (.int .i64 ntil)).setCell ⟨w.heap.size + 1, 7, none⟩ (.bool nmas)).setCell ⟨w.heap.size + 1, 8, none⟩ (.int .i64 nseq)).setCell ⟨w.heap.size + 1, 9, none⟩ (.slice b9 x9 y9)).setCell ⟨w.heap.size + 1, 10, none⟩ (.slice bA xA yA)).setCell ⟨w.heap.size + 1, 11, none⟩ (.bool nmore)).setCell ⟨w.heap.size + 1, 12, none⟩ (.slice aC nC cC)).setCell ⟨w.heap.size + 1, 13, none⟩ (.slice aD nD cD)) (w.heap.size + 1) 14 (.int .i64 nres))
      have FIN : Hid (CnPost w ⟨nr, na, nprio, ndr, nbdr, nst, ntil, nmas, nseq, ⟨v9a, v9n, v9c⟩, ⟨vAa, vAn, vAc⟩, nmore, ⟨vCa, vCn, vCc⟩, ⟨vDa, vDn, vDc⟩, nres⟩ (.returned (.agg #[.int .u32 nr, .int .u32 na, .int .i64 nprio, .int .u32 ndr, .int .u32 nbdr, .int .i64 nst, .int .i64 ntil, .bool nmas, .int .i64 nseq, .slice b9 x9 y9, .slice bA xA yA, .bool nmore, .slice aC nC cC, .slice aD nD cD, .int .i64 nres])) W') := Lib.hid ⟨⟨b9, x9, y9⟩, ⟨bA, xA, yA⟩, ⟨aC, nC, cC⟩, ⟨aD, nD, cD⟩, rfl, BH.grown BN BH.size (fun j hj => by cases hj; omega)⟩
      have HW' := Lib.hid hW'
      obtain ⟨⟨⟨d0, d1, d2, d3, d4⟩, ⟨d5, d6, d7, d8, d9⟩, ⟨d10, d11, d12, d13, d14⟩⟩, -⟩ := blk15 XH
      obtain ⟨⟨⟨z0, z1, z2, z3, z4⟩, ⟨z5, z6, z7, z8, z9⟩, ⟨z10, z11, z12, z13, z14⟩⟩, hfz⟩ := blk15 Z2.out
      have zf0 := hfz 0
      have zf1 := hfz 1
      have zf2 := hfz 2
      have zf3 := hfz 3
      have zf4 := hfz 4
      have zf5 := hfz 5
      have zf6 := hfz 6
      have zf7 := hfz 7
      have zf8 := hfz 8
      have zf9 := hfz 9
      have zf10 := hfz 10
      have zf11 := hfz 11
      have zf12 := hfz 12
      have zf13 := hfz 13
      have zf14 := hfz 14
      obtain ⟨⟨⟨g0, g1, g2, g3, g4⟩, ⟨g5, g6, g7, g8, g9⟩, ⟨g10, g11, g12, g13, g14⟩⟩, -⟩ := blk15 bk'
      have G := Lib.hid (And.intro g0 (And.intro g1 (And.intro g2 (And.intro g3 (And.intro g4 (And.intro g5 (And.intro g6 (And.intro g7 (And.intro g8 (And.intro g9 (And.intro g10 (And.intro g11 (And.intro g12 (And.intro g13 g14))))))))))))))
      clear hW' bk' BN XH ZH BH hfz Z2 g0 g1 g2 g3 g4 g5 g6 g7 g8 g9 g10 g11 g12 g13 g14
      go_wp2_with fail
      rw [HW'.out]
      obtain ⟨g0, g1, g2, g3, g4, g5, g6, g7, g8, g9, g10, g11, g12, g13, g14⟩ := G.out
      exact bodyPost_ret (v := .agg #[.int .u32 nr, .int .u32 na, .int .i64 nprio, .int .u32 ndr, .int .u32 nbdr, .int .i64 nst, .int .i64 ntil, .bool nmas, .int .i64 nseq, .slice b9 x9 y9, .slice bA xA yA, .bool nmore, .slice aC nC cC, .slice aD nD cD, .int .i64 nres]) (by simp [results, Tryz.results144, go_sem, g0, g1, g2, g3, g4, g5, g6, g7, g8, g9, g10, g11, g12, g13, g14]) rfl FIN.out

end Go.Proofs.YtddageahmgaigaaGreat

namespace Go.Proofs.YtddageahmgaigaaGreat
open Go.RowKit

theorem addr_none {nb : List Nb} {r : Int} (h : ∀ n ∈ nb, n.r ≠ r) : addrOf nb r = 0 := by
  unfold addrOf
  rw [List.find?_eq_none.2 (fun n hn => by simpa using h n hn)]
  rfl
theorem addr_some {nb : List Nb} {r : Int} {k : Nat} (c : k < nb.length) (h : nb[k].r = r) (no : ∀ m, (hm : m < k) → (nb[m]'(by omega)).r ≠ r) : addrOf nb r = nb[k].a := by
  unfold addrOf
  have e : nb.find? (fun n => decide (n.r = r)) = some nb[k] := by
    rw [List.find?_eq_some_iff_getElem]
    exact ⟨by simpa using h, k, c, rfl, fun j hj => by simpa using no j hj⟩
  rw [e]; rfl

def HfPost (w : World) (nb : List Nb) (r : Int) (e : Ending) (w' : World) : Prop := ∃ (m : Nb) (b : Bool), e = .returned (.tuple #[.agg (nbE m).toArray, .bool b]) ∧ m.a = addrOf nb r ∧ Below w.heap.size w w'

set_option maxHeartbeats 16000000 in
set_option maxRecDepth 100000 in
theorem hfind_calls (x : Ifc) (nb : List Nb) (r : Int) (w : World) (hn : NbsAt w (.slice x.na x.nn x.nc) nb) (hb : ∀ n ∈ nb, n.v9.n ≤ 1048576 ∧ n.v10.n ≤ 1048576 ∧ n.v12.n ≤ 1048576 ∧ n.v13.n ≤ 1048576) : Calls Tryz.prog 102 #[.agg (ifE x).toArray, .int .u32 r] w (HfPost w nb r) := by
  have PC := Lib.hid (fun W (g : Below w.heap.size w W) => place_calls x nb r W (hn.below g))
  have CC := Lib.hid (fun k (c : k < nb.length) W (g : Below w.heap.size w W) => cloneNb_calls nb[k] W ((hn.hd _ (List.getElem_mem c)).below g) (hb _ (List.getElem_mem c)).1 (hb _ (List.getElem_mem c)).2.1 (hb _ (List.getElem_mem c)).2.2.1 (hb _ (List.getElem_mem c)).2.2.2)
  obtain ⟨ga, gc, e1, hlen, hc1⟩ := hn.get
  have HC1 := Lib.hid hc1
  obtain ⟨kind, pa, pl, ad, area, cost, prio, hel, dead, up, dr, bdr, el, nh, a1, nn, c1⟩ := x
  simp only at e1
  simp only [Value.slice.injEq] at e1
  obtain ⟨rfl, rfl, rfl⟩ := e1
  simp only [ifE] at PC ⊢
  clear hn hb hc1
  obtain ⟨W0, hW0⟩ : ∃ W0, (w.alloc (.cells #[.int .i64 kind, .int .u32 pa, .int .i64 pl, .int .u32 ad, .int .u32 area, .int .i64 cost, .int .i64 prio, .int .i64 hel, .int .i64 dead, .bool up, .int .u32 dr, .int .u32 bdr, .int .i64 el, .int .i64 nh, .slice a1 nb.length c1] 69)).alloc (.cells #[.int .u32 0, .int .u32 0, .int .i64 0, .int .u32 0, .int .u32 0, .int .i64 0, .int .i64 0, .bool false, .int .i64 0, .slice none 0 0, .slice none 0 0, .bool false, .slice none 0 0, .slice none 0 0, .int .i64 0] 72) = W0 := ⟨_, rfl⟩
  have B0 : Hid (Below w.heap.size w W0) := Lib.hid (by rw [← hW0]; exact ((Below.refl _ _).alloc (Nat.le_refl _) _).alloc (by simp) _)
  have X0 : Hid (W0.heap[w.heap.size]? = some (.cells #[.int .i64 kind, .int .u32 pa, .int .i64 pl, .int .u32 ad, .int .u32 area, .int .i64 cost, .int .i64 prio, .int .i64 hel, .int .i64 dead, .bool up, .int .u32 dr, .int .u32 bdr, .int .i64 el, .int .i64 nh, .slice a1 nb.length c1] 69 (0, 0))) := Lib.hid (by rw [← hW0]; exact (alloc_get _ _ _ (by simp)).trans (alloc_new _ _))
  have Z0 : Hid (W0.heap[w.heap.size + 1]? = some (.cells #[.int .u32 0, .int .u32 0, .int .i64 0, .int .u32 0, .int .u32 0, .int .i64 0, .int .i64 0, .bool false, .int .i64 0, .slice none 0 0, .slice none 0 0, .bool false, .slice none 0 0, .slice none 0 0, .int .i64 0] 72 (0, 0))) := Lib.hid (by rw [← hW0]; exact blk_new2 w _ _)
  have HW0 := Lib.hid hW0
  clear hW0
  have P0 := Lib.hid (PC.out W0 B0.out)
  clear PC
  obtain ⟨⟨⟨d0, d1, d2, d3, d4⟩, ⟨d5, d6, d7, d8, d9⟩, ⟨d10, d11, d12, d13, d14⟩⟩, -⟩ := blk15 X0.out
  go_enter Tryz.func102, Tryz.ntmps102
  go_upto_region 1 with fail
  rw [HW0.out]
  go_wp2_with fail
  refine P0.out.mono ?_
  rintro e w1 ⟨i, rfl, HI, G1⟩
  have B1 := Lib.hid (B0.out.trans (G1.b.mono B0.out.size))
  have X1 := Lib.hid ((G1.b.block _ (blk_lt X0.out)).trans X0.out)
  have Z1 := Lib.hid ((G1.b.block _ (blk_lt Z0.out)).trans Z0.out)
  clear P0 G1 B0 X0 Z0 HW0 d0 d1 d2 d3 d4 d5 d6 d7 d8 d9 d10 d11 d12 d13 d14
  rcases HI with ⟨rfl, no⟩ | ⟨k, c, rfl, hk, no⟩
  · have AD := Lib.hid (addr_none no)
    clear no CC HC1
    obtain ⟨W', hW'⟩ : ∃ W', (((((((((((((((w1).setCell ⟨w.heap.size + 1, 0, none⟩ (.int .u32 0)).setCell ⟨w.heap.size + 1, 1, none⟩ (.int .u32 0)).setCell ⟨w.heap.size + 1, 2, none⟩ (.int .i64 0)).setCell ⟨w.heap.size + 1, 3, none⟩ (.int .u32 0)).setCell ⟨w.heap.size + 1, 4, none⟩ (.int .u32 0)).setCell ⟨w.heap.size + 1, 5, none⟩ (.int .i64 0)).setCell ⟨w.heap.size + 1, 6, none⟩ (.int .i64 0)).setCell ⟨w.heap.size + 1, 7, none⟩ (.bool false)).setCell ⟨w.heap.size + 1, 8, none⟩ (.int .i64 0)).setCell ⟨w.heap.size + 1, 9, none⟩ (.slice none 0 0)).setCell ⟨w.heap.size + 1, 10, none⟩ (.slice none 0 0)).setCell ⟨w.heap.size + 1, 11, none⟩ (.bool false)).setCell ⟨w.heap.size + 1, 12, none⟩ (.slice none 0 0)).setCell ⟨w.heap.size + 1, 13, none⟩ (.slice none 0 0)).setCell ⟨w.heap.size + 1, 14, none⟩ (.int .i64 0) = W' := ⟨_, rfl⟩
    have bk' : W'.heap[w.heap.size + 1]? = some (.cells #[.int .u32 0, .int .u32 0, .int .i64 0, .int .u32 0, .int .u32 0, .int .i64 0, .int .i64 0, .bool false, .int .i64 0, .slice none 0 0, .slice none 0 0, .bool false, .slice none 0 0, .slice none 0 0, .int .i64 0] 72 (0, 0)) := by
      rw [← hW']
      have h1 := blk_set (blk_set (blk_set (blk_set (blk_set (blk_set (blk_set (blk_set (blk_set (blk_set (blk_set (blk_set (blk_set (blk_set (blk_set (Z1.out) 0 (.int .u32 0)) 1 (.int .u32 0)) 2 (.int .i64 0)) 3 (.int .u32 0)) 4 (.int .u32 0)) 5 (.int .i64 0)) 6 (.int .i64 0)) 7 (.bool false)) 8 (.int .i64 0)) 9 (.slice none 0 0)) 10 (.slice none 0 0)) 11 (.bool false)) 12 (.slice none 0 0)) 13 (.slice none 0 0)) 14 (.int .i64 0)
      simp only [List.setIfInBounds_toArray, List.set_cons_zero, List.set_cons_succ] at h1
      exact h1
    have BN : w1.grownBy W' (some (w.heap.size + 1)) := by
      rw [← hW']
      exact grown_grown0 (grown_grown0 (grown_grown0 (grown_grown0 (grown_grown0 (grown_grown0 (grown_grown0 (grown_grown0 (grown_grown0 (grown_grown0 (grown_grown0 (grown_grown0 (grown_grown0 (grown_grown0 (grown_grown0 (⟨rfl, rfl, rfl, Nat.le_refl _, fun _ _ _ => rfl⟩) (grown_set (w1) (w.heap.size + 1) 0 (.int .u32 0))) (grown_set ((w1).setCell ⟨w.heap.size + 1, 0, none⟩ (.int .u32 0)) (w.heap.size + 1) 1 (.int .u32 0))) (grown_set (((w1).setCell ⟨w.heap.size + 1, 0, none⟩ (.int .u32 0)).setCell ⟨w.heap.size + 1, 1, none⟩ (.int .u32 0)) (w.heap.size + 1) 2 (.int .i64 0))) (grown_set ((((w1).setCell ⟨w.heap.size + 1, 0, none⟩ (.int .u32 0)).setCell ⟨w.heap.size + 1, 1, none⟩ (.int .u32 0)).setCell ⟨w.heap.size + 1, 2, none⟩ (.int .i64 0)) (w.heap.size + 1) 3 (.int .u32 0))) (grown_set (((((w1).setCell ⟨w.heap.size + 1, 0, none⟩ (.int .u32 0)).setCell ⟨w.heap.size + 1, 1, none⟩ (.int .u32 0)).setCell ⟨w.heap.size + 1, 2, none⟩ (.int .i64 0)).setCell ⟨w.heap.size + 1, 3, none⟩ (.int .u32 0)) (w.heap.size + 1) 4 (.int .u32 0))) (grown_set ((((((w1).setCell ⟨w.heap.size + 1, 0, none⟩ (.int .u32 0)).setCell ⟨w.heap.size + 1, 1, none⟩ (.int .u32 0)).setCell ⟨w.heap.size + 1, 2, none⟩ (.int .i64 0)).setCell ⟨w.heap.size + 1, 3, none⟩ (.int .u32 0)).setCell ⟨w.heap.size + 1, 4, none⟩ (.int .u32 0)) (w.heap.size + 1) 5 (.int .i64 0))) (grown_set (((((((w1).setCell ⟨w.heap.size + 1, 0, none⟩ (.int .u32 0)).setCell ⟨w.heap.size + 1, 1, none⟩ (.int .u32 0)).setCell ⟨w.heap.size + 1, 2, none⟩ (.int .i64 0)).setCell ⟨w.heap.size + 1, 3, none⟩ (.int .u32 0)).setCell ⟨w.heap.size + 1, 4, none⟩ (.int .u32 0)).setCell ⟨w.heap.size + 1, 5, none⟩ (.int .i64 0)) (w.heap.size + 1) 6 (.int .i64 0))) (grown_set ((((((((w1).setCell ⟨w.heap.size + 1, 0, none⟩ (.int .u32 0)).setCell ⟨w.heap.size + 1, 1, none⟩ (.int .u32 0)).setCell ⟨w.heap.size + 1, 2, none⟩ (.int .i64 0)).setCell ⟨w.heap.size + 1, 3, none⟩ (.int .u32 0)).setCell ⟨w.heap.size + 1, 4, none⟩ (.int .u32 0)).setCell ⟨w.heap.size + 1, 5, none⟩ (.int .i64 0)).setCell ⟨w.heap.size + 1, 6, none⟩ (.int .i64 0)) (w.heap.size + 1) 7 (.bool false))) (grown_set (((((((((w1).setCell ⟨w.heap.size + 1, 0, none⟩ (.int .u32 0)).setCell ⟨w.heap.size + 1, 1, none⟩ (.int .u32 0)).setCell ⟨w.heap.size + 1, 2, none⟩ (.int .i64 0)).setCell ⟨w.heap.size + 1, 3, none⟩ (.int .u32 0)).setCell ⟨w.heap.size + 1, 4, none⟩ (.int .u32 0)).setCell ⟨w.heap.size + 1, 5, none⟩ (.int .i64 0)).setCell ⟨w.heap.size + 1, 6, none⟩ (.int .i64 0)).setCell ⟨w.heap.size + 1, 7, none⟩ (.bool false)) (w.heap.size + 1) 8 (.int .i64 0))) (grown_set ((((((((((w1).setCell ⟨w.heap.size + 1, 0, none⟩ (.int .u32 0)).setCell ⟨w.heap.size + 1, 1, none⟩ (.int .u32 0)).setCell ⟨w.heap.size + 1, 2, none⟩ (.int .i64 0)).setCell ⟨w.heap.size + 1, 3, none⟩ (.int .u32 0)).setCell ⟨w.heap.size + 1, 4, none⟩ (.int .u32 0)).setCell ⟨w.heap.size + 1, 5, none⟩ (.int .i64 0)).setCell ⟨w.heap.size + 1, 6, none⟩ (.int .i64 0)).setCell ⟨w.heap.size + 1, 7, none⟩ (.bool false)).setCell ⟨w.heap.size + 1, 8, none⟩ (.int .i64 0)) (w.heap.size + 1) 9 (.slice none 0 0))) (grown_set (((((((((((w1).setCell ⟨w.heap.size + 1, 0, none⟩ (.int .u32 0)).setCell ⟨w.heap.size + 1, 1, none⟩ (.int .u32 0)).setCell ⟨w.heap.size + 1, 2, none⟩ (.int .i64 0)).setCell ⟨w.heap.size + 1, 3, none⟩ (.int .u32 0)).setCell ⟨w.heap.size + 1, 4, none⟩ (.int .u32 0)).setCell ⟨w.heap.size + 1, 5, none⟩ (.int .i64 0)).setCell ⟨w.heap.size + 1, 6, none⟩ (.int .i64 0)).setCell ⟨w.heap.size + 1, 7, none⟩ (.bool false)).setCell ⟨w.heap.size + 1, 8, none⟩ (.int .i64 0)).setCell ⟨w.heap.size + 1, 9, none⟩ (.slice none 0 0)) (w.heap.size + 1) 10 (.slice none 0 0))) (grown_set ((((((((((((w1).setCell ⟨w.heap.size + 1, 0, none⟩ (.int .u32 0)).setCell ⟨w.heap.size + 1, 1, none⟩ (.int .u32 0)).setCell ⟨w.heap.size + 1, 2, none⟩ (.int .i64 0)).setCell ⟨w.heap.size + 1, 3, none⟩ (.int .u32 0)).setCell ⟨w.heap.size + 1, 4, none⟩ (.int .u32 0)).setCell ⟨w.heap.size + 1, 5, none⟩ (.int .i64 0)).setCell ⟨w.heap.size + 1, 6, none⟩ (.int .i64 0)).setCell ⟨w.heap.size + 1, 7, none⟩ (.bool false)).setCell ⟨w.heap.size + 1, 8, none⟩ (.int .i64 0)).setCell ⟨w.heap.size + 1, 9, none⟩ (.slice none 0 0)).setCell ⟨w.heap.size + 1, 10, none⟩ (.slice none 0 0)) (w.heap.size + 1) 11 (.bool false))) (grown_set (((((((((((((w1).setCell ⟨w.heap.size + 1, 0, none⟩ (.int .u32 0)).setCell ⟨w.heap.size + 1, 1, none⟩ (.int .u32 0)).setCell ⟨w.heap.size + 1, 2, none⟩ (.int .i64 0)).setCell ⟨w.heap.size + 1, 3, none⟩ (.int .u32 0)).setCell ⟨w.heap.size + 1, 4, none⟩ (.int .u32 0)).setCell ⟨w.heap.size + 1, 5, none⟩ (.int .i64 0)).setCell ⟨w.heap.size + 1, 6, none⟩ (.int .i64 0)).setCell ⟨w.heap.size + 1, 7, none⟩ (.bool false)).setCell ⟨w.heap.size + 1, 8, none⟩ (.int .i64 0)).setCell ⟨w.heap.size + 1, 9, none⟩ (.slice none 0 0)).setCell ⟨w.heap.size + 1, 10, none⟩ (.slice none 0 0)).setCell ⟨w.heap.size + 1, 11, none⟩ (.bool false)) (w.heap.size + 1) 12 (.slice none 0 0))) (grown_set ((((((((((((((w1).setCell ⟨w.heap.size + 1, 0, none⟩ (.int .u32 0)).setCell ⟨w.heap.size + 1, 1, none⟩ (.int .u32 0)).setCell ⟨w.heap.size + 1, 2, none⟩ (.int .i64 0)).setCell ⟨w.heap.size + 1, 3, none⟩ (.int .u32 0)).setCell ⟨w.heap.size + 1, 4, none⟩ (.int .u32 0)).setCell ⟨w.heap.size + 1, 5, none⟩ (.int .i64 0)).setCell ⟨w.heap.size + 1, 6, none⟩ (.int .i64 0)).setCell ⟨w.heap.size + 1, 7, none⟩ (.bool false)).setCell ⟨w.heap.size + 1, 8, none⟩ (.int .i64 0)).setCell ⟨w.heap.size + 1, 9, none⟩ (.slice none 0 0)).setCell ⟨w.heap.size + 1, 10, none⟩ (.slice none 0 0)).setCell ⟨w.heap.size + 1, 11, none⟩ (.bool false)).setCell ⟨w.heap.size + 1, 12, none⟩ (.slice none 0 0)) (w.heap.size + 1) 13 (.slice none 0 0))) (grown_set (((((((((((((((w1).setCell ⟨w.heap.size + 1, 0, none⟩ (.int .u32 0)).setCell ⟨w.heap.size + 1, 1, none⟩ (.int .u32 0)).setCell ⟨w.heap.size + 1, 2, none⟩ (.int .i64 0)).setCell ⟨w.heap.size + 1, 3, none⟩ (.int .u32 0)).setCell ⟨w.heap.size + 1, 4, none⟩ (.int .u32 0)).setCell ⟨w.heap.size + 1, 5, none⟩ (.int .i64 0)).setCell ⟨w.heap.size + 1, 6, none⟩ (.int .i64 0)).setCell ⟨w.heap.size + 1, 7, none⟩ (.bool false)).setCell ⟨w.heap.size + 1, 8, none⟩ (.int .i64 0)).setCell ⟨w.heap.size + 1, 9, none⟩ (.slice none 0 0)).setCell ⟨w.heap.size + 1, 10, none⟩ (.slice none 0 0)).setCell ⟨w.heap.size + 1, 11, none⟩ (.bool false)).setCell ⟨w.heap.size + 1, 12, none⟩ (.slice none 0 0)).setCell ⟨w.heap.size + 1, 13, none⟩ (.slice none 0 0)) (w.heap.size + 1) 14 (.int .i64 0))
    have BW' : Below w.heap.size w W' := B1.out.grown BN B1.out.size (fun j hj => by cases hj; omega)
    have FIN : Hid (HfPost w nb r (.returned (.tuple #[.agg #[.int .u32 0, .int .u32 0, .int .i64 0, .int .u32 0, .int .u32 0, .int .i64 0, .int .i64 0, .bool false, .int .i64 0, .slice none 0 0, .slice none 0 0, .bool false, .slice none 0 0, .slice none 0 0, .int .i64 0], .bool false])) W') := Lib.hid ⟨⟨0, 0, 0, 0, 0, 0, 0, false, 0, ⟨none, 0, 0⟩, ⟨none, 0, 0⟩, false, ⟨none, 0, 0⟩, ⟨none, 0, 0⟩, 0⟩, false, rfl, AD.out.symm, BW'⟩
    have HW' := Lib.hid hW'
    obtain ⟨⟨⟨z0, z1, z2, z3, z4⟩, ⟨z5, z6, z7, z8, z9⟩, ⟨z10, z11, z12, z13, z14⟩⟩, hfz⟩ := blk15 Z1.out
    have zf0 := hfz 0
    have zf1 := hfz 1
    have zf2 := hfz 2
    have zf3 := hfz 3
    have zf4 := hfz 4
    have zf5 := hfz 5
    have zf6 := hfz 6
    have zf7 := hfz 7
    have zf8 := hfz 8
    have zf9 := hfz 9
    have zf10 := hfz 10
    have zf11 := hfz 11
    have zf12 := hfz 12
    have zf13 := hfz 13
    have zf14 := hfz 14
    obtain ⟨⟨⟨g0, g1, g2, g3, g4⟩, ⟨g5, g6, g7, g8, g9⟩, ⟨g10, g11, g12, g13, g14⟩⟩, -⟩ := blk15 bk'
    have G := Lib.hid (And.intro g0 (And.intro g1 (And.intro g2 (And.intro g3 (And.intro g4 (And.intro g5 (And.intro g6 (And.intro g7 (And.intro g8 (And.intro g9 (And.intro g10 (And.intro g11 (And.intro g12 (And.intro g13 g14))))))))))))))
    clear hW' bk' BN BW' hfz g0 g1 g2 g3 g4 g5 g6 g7 g8 g9 g10 g11 g12 g13 g14
    go_wp2_with fail
    rw [HW'.out]
    obtain ⟨g0, g1, g2, g3, g4, g5, g6, g7, g8, g9, g10, g11, g12, g13, g14⟩ := G.out
    exact bodyPost_ret (v := .tuple #[.agg #[.int .u32 0, .int .u32 0, .int .i64 0, .int .u32 0, .int .u32 0, .int .i64 0, .int .i64 0, .bool false, .int .i64 0, .slice none 0 0, .slice none 0 0, .bool false, .slice none 0 0, .slice none 0 0, .int .i64 0], .bool false]) (by simp [results, Tryz.results102, go_sem, g0, g1, g2, g3, g4, g5, g6, g7, g8, g9, g10, g11, g12, g13, g14]) rfl FIN.out
  · have AD := Lib.hid (addr_some c hk no)
    obtain ⟨b1, o1, rfl, hb1, hcc1⟩ := HC1.out (by omega)
    obtain ⟨⟨d0, d1, d2, d3, d4⟩, ⟨d5, d6, d7, d8, d9⟩, ⟨d10, d11, d12, d13, d14⟩⟩ := (hcc1 k c).below B1.out hb1
    have C1 := Lib.hid (CC.out k c w1 B1.out)
    have i0 : (0 : Int) ≤ (k : Int) := by omega
    have i1 : (k : Int) < (nb.length : Int) := by omega
    have s3 : ((k : Int)).toNat = k := by omega
    have g0 : decide ((k : Int) < 0) = false := decide_eq_false (by omega)
    have y14 : w1.cell? ⟨w.heap.size, 14, none⟩ = some (.slice (some ⟨b1, o1, none⟩) nb.length c1) := blk_cell X1.out rfl
    clear no hk hcc1 CC HC1
    generalize nb[k] = n at *
    clear c
    obtain ⟨nr, na, nprio, ndr, nbdr, nst, ntil, nmas, nseq, ⟨v9a, v9n, v9c⟩, ⟨vAa, vAn, vAc⟩, nmore, ⟨vCa, vCn, vCc⟩, ⟨vDa, vDn, vDc⟩, nres⟩ := n
    simp only at d0 d1 d2 d3 d4 d5 d6 d7 d8 d9 d10 d11 d12 d13 d14 AD
    simp only [nbE] at C1
    go_wp2_with fail
    refine C1.out.mono ?_
    rintro e w2 ⟨⟨b9, x9, y9⟩, ⟨bA, xA, yA⟩, ⟨bC, xC, yC⟩, ⟨bD, xD, yD⟩, rfl, B2⟩
    have BB2 := Lib.hid (B1.out.trans (B2.mono B1.out.size))
    have Z2 := Lib.hid ((B2.block _ (blk_lt Z1.out)).trans Z1.out)
    clear C1 B2 y14 d0 d1 d2 d3 d4 d5 d6 d7 d8 d9 d10 d11 d12 d13 d14
    simp only [nbE]
    obtain ⟨W', hW'⟩ : ∃ W', (((((((((((((((w2).setCell ⟨w.heap.size + 1, 0, none⟩ (.int .u32 nr)).setCell ⟨w.heap.size + 1, 1, none⟩ (.int .u32 na)).setCell ⟨w.heap.size + 1, 2, none⟩ (.int .i64 nprio)).setCell ⟨w.heap.size + 1, 3, none⟩ (.int .u32 ndr)).setCell ⟨w.heap.size + 1, 4, none⟩ (.int .u32 nbdr)).setCell ⟨w.heap.size + 1, 5, none⟩ (.int .i64 nst)).setCell ⟨w.heap.size + 1, 6, none⟩ (.int .i64 ntil)).setCell ⟨w.heap.size + 1, 7, none⟩ (.bool nmas)).setCell ⟨w.heap.size + 1, 8, none⟩ (.int .i64 nseq)).setCell ⟨w.heap.size + 1, 9, none⟩ (.slice b9 x9 y9)).setCell ⟨w.heap.size + 1, 10, none⟩ (.slice bA xA yA)).setCell ⟨w.heap.size + 1, 11, none⟩ (.bool nmore)).setCell ⟨w.heap.size + 1, 12, none⟩ (.slice bC xC yC)).setCell ⟨w.heap.size + 1, 13, none⟩ (.slice bD xD yD)).setCell ⟨w.heap.size + 1, 14, none⟩ (.int .i64 nres) = W' := ⟨_, rfl⟩
    have bk' : W'.heap[w.heap.size + 1]? = some (.cells #[.int .u32 nr, .int .u32 na, .int .i64 nprio, .int .u32 ndr, .int .u32 nbdr, .int .i64 nst, .int .i64 ntil, .bool nmas, .int .i64 nseq, .slice b9 x9 y9, .slice bA xA yA, .bool nmore, .slice bC xC yC, .slice bD xD yD, .int .i64 nres] 72 (0, 0)) := by
      rw [← hW']
      have h1 := blk_set (blk_set (blk_set (blk_set (blk_set (blk_set (blk_set (blk_set (blk_set (blk_set (blk_set (blk_set (blk_set (blk_set (blk_set (Z2.out) 0 (.int .u32 nr)) 1 (.int .u32 na)) 2 (.int .i64 nprio)) 3 (.int .u32 ndr)) 4 (.int .u32 nbdr)) 5 (.int .i64 nst)) 6 (.int .i64 ntil)) 7 (.bool nmas)) 8 (.int .i64 nseq)) 9 (.slice b9 x9 y9)) 10 (.slice bA xA yA)) 11 (.bool nmore)) 12 (.slice bC xC yC)) 13 (.slice bD xD yD)) 14 (.int .i64 nres)
      simp only [List.setIfInBounds_toArray, List.set_cons_zero, List.set_cons_succ] at h1
      exact h1
    have BN : w2.grownBy W' (some (w.heap.size + 1)) := by
      rw [← hW']
      exact grown_grown0 (grown_grown0 (grown_grown0 (grown_grown0 (grown_grown0 (grown_grown0 (grown_grown0 (grown_grown0 (grown_grown0 (grown_grown0 (grown_grown0 (grown_grown0 (grown_grown0 (grown_grown0 (grown_grown0 (⟨rfl, rfl, rfl, Nat.le_refl _, fun _ _ _ => rfl⟩) (grown_set (w2) (w.heap.size + 1) 0 (.int .u32 nr))) (grown_set ((w2).setCell ⟨w.heap.size + 1, 0, none⟩ (.int .u32 nr)) (w.heap.size + 1) 1 (.int .u32 na))) (grown_set (((w2).setCell ⟨w.heap.size + 1, 0, none⟩ (.int .u32 nr)).setCell ⟨w.heap.size + 1, 1, none⟩ (.int .u32 na)) (w.heap.size + 1) 2 (.int .i64 nprio))) (grown_set ((((w2).setCell ⟨w.heap.size + 1, 0, none⟩ (.int .u32 nr)).setCell ⟨w.heap.size + 1, 1, none⟩ (.int .u32 na)).setCell ⟨w.heap.size + 1, 2, none⟩ (.int .i64 nprio)) (w.heap.size + 1) 3 (.int .u32 ndr))) (grown_set (((((w2).setCell ⟨w.heap.size + 1, 0, none⟩ (.int .u32 nr)).setCell ⟨w.heap.size + 1, 1, none⟩ (.int .u32 na)).setCell ⟨w.heap.size + 1, 2, none⟩ (.int .i64 nprio)).setCell ⟨w.heap.size + 1, 3, none⟩ (.int .u32 ndr)) (w.heap.size + 1) 4 (.int .u32 nbdr))) (grown_set ((((((w2).setCell ⟨w.heap.size + 1, 0, none⟩ (.int .u32 nr)).setCell ⟨w.heap.size + 1, 1, none⟩ (.int .u32 na)).setCell ⟨w.heap.size + 1, 2, none⟩ (.int .i64 nprio)).setCell ⟨w.heap.size + 1, 3, none⟩ (.int .u32 ndr)).setCell ⟨w.heap.size + 1, 4, none⟩ (.int .u32 nbdr)) (w.heap.size + 1) 5 (.int .i64 nst))) (grown_set (((((((w2).setCell ⟨w.heap.size + 1, 0, none⟩ (.int .u32 nr)).setCell ⟨w.heap.size + 1, 1, none⟩ (.int .u32 na)).setCell ⟨w.heap.size + 1, 2, none⟩ (.int .i64 nprio)).setCell ⟨w.heap.size + 1, 3, none⟩ (.int .u32 ndr)).setCell ⟨w.heap.size + 1, 4, none⟩ (.int .u32 nbdr)).setCell ⟨w.heap.size + 1, 5, none⟩ (.int .i64 nst)) (w.heap.size + 1) 6 (.int .i64 ntil))) (grown_set ((((((((w2).setCell ⟨w.heap.size + 1, 0, none⟩ (.int .u32 nr)).setCell ⟨w.heap.size + 1, 1, none⟩ (.int .u32 na)).setCell ⟨w.heap.size + 1, 2, none⟩ (.int .i64 nprio)).setCell ⟨w.heap.size + 1, 3, none⟩ (.int .u32 ndr)).setCell ⟨w.heap.size + 1, 4, none⟩ (.int .u32 nbdr)).setCell ⟨w.heap.size + 1, 5, none⟩ (.int .i64 nst)).setCell ⟨w.heap.size + 1, 6, none⟩ (.int .i64 ntil)) (w.heap.size + 1) 7 (.bool nmas))) (grown_set (((((((((w2).setCell ⟨w.heap.size + 1, 0, none⟩ (.int .u32 nr)).setCell ⟨w.heap.size + 1, 1, none⟩ (.int .u32 na)).setCell ⟨w.heap.size + 1, 2, none⟩ (.int .i64 nprio)).setCell ⟨w.heap.size + 1, 3, none⟩ (.int .u32 ndr)).setCell ⟨w.heap.size + 1, 4, none⟩ (.int .u32 nbdr)).setCell ⟨w.heap.size + 1, 5, none⟩ (.int .i64 nst)).setCell ⟨w.heap.size + 1, 6, none⟩ (.int .i64 ntil)).setCell ⟨w.heap.size + 1, 7, none⟩ (.bool nmas)) (w.heap.size + 1) 8 (.int .i64 nseq))) (grown_set ((((((((((w2).setCell ⟨w.heap.size + 1, 0, none⟩ (.int .u32 nr)).setCell ⟨w.heap.size + 1, 1, none⟩ (.int .u32 na)).setCell ⟨w.heap.size + 1, 2, none⟩ (.int .i64 nprio)).setCell ⟨w.heap.size + 1, 3, none⟩ (.int .u32 ndr)).setCell ⟨w.heap.size + 1, 4, none⟩ (.int .u32 nbdr)).setCell ⟨w.heap.size + 1, 5, none⟩ (.int .i64 nst)).setCell ⟨w.heap.size + 1, 6, none⟩ (.int .i64 ntil)).setCell ⟨w.heap.size + 1, 7, none⟩ (.bool nmas)).setCell ⟨w.heap.size + 1, 8, none⟩ (.int .i64 nseq)) (w.heap.size + 1) 9 (.slice b9 x9 y9))) (grown_set (((((((((((w2).setCell ⟨w.heap.size + 1, 0, none⟩ (.int .u32 nr)).setCell ⟨w.heap.size + 1, 1, none⟩ (.int .u32 na)).setCell ⟨w.heap.size + 1, 2, none⟩ (.int .i64 nprio)).setCell ⟨w.heap.size + 1, 3, none⟩ (.int .u32 ndr)).setCell ⟨w.heap.size + 1, 4, none⟩ (.int .u32 nbdr)).setCell ⟨w.heap.size + 1, 5, none⟩ (.int .i64 nst)).setCell ⟨w.heap.size + 1, 6, none⟩ (.int .i64 ntil)).setCell ⟨w.heap.size + 1, 7, none⟩ (.bool nmas)).setCell ⟨w.heap.size + 1, 8, none⟩ (.int .i64 nseq)).setCell ⟨w.heap.size + 1, 9, none⟩ (.slice b9 x9 y9)) (w.heap.size + 1) 10 (.slice bA xA yA))) (grown_set ((((((((((((w2).setCell ⟨w.heap.size + 1, 0, none⟩ (.int .u32 nr)).setCell ⟨w.heap.size + 1, 1, none⟩ (.int .u32 na)).setCell ⟨w.heap.size + 1, 2, none⟩ (.int .i64 nprio)).setCell ⟨w.heap.size + 1, 3, none⟩ (.int .u32 ndr)).setCell ⟨w.heap.size + 1, 4, none⟩ (.int .u32 nbdr)).setCell ⟨w.heap.size + 1, 5, none⟩ (.int .i64 nst)).setCell ⟨w.heap.size + 1, 6, none⟩ (.int .i64 ntil)).setCell ⟨w.heap.size + 1, 7, none⟩ (.bool nmas)).setCell ⟨w.heap.size + 1, 8, none⟩ (.int .i64 nseq)).setCell ⟨w.heap.size + 1, 9, none⟩ (.slice b9 x9 y9)).setCell ⟨w.heap.size + 1, 10, none⟩ (.slice bA xA yA)) (w.heap.size + 1) 11 (.bool nmore))) (grown_set (((((((((((((w2).setCell ⟨w.heap.size + 1, 0, none⟩ (.int .u32 nr)).setCell ⟨w.heap.size + 1, 1, none⟩ (.int .u32 na)).setCell ⟨w.heap.size + 1, 2, none⟩ (.int .i64 nprio)).setCell ⟨w.heap.size + 1, 3, none⟩ (.int .u32 ndr)).setCell ⟨w.heap.size + 1, 4, none⟩ (.int .u32 nbdr)).setCell ⟨w.heap.size + 1, 5, none⟩ (.int .i64 nst)).setCell ⟨w.heap.size + 1, 6, none⟩ (.int .i64 ntil)).setCell ⟨w.heap.size + 1, 7, none⟩ (.bool nmas)).setCell ⟨w.heap.size + 1, 8, none⟩ (.int .i64 nseq)).setCell ⟨w.heap.size + 1, 9, none⟩ (.slice b9 x9 y9)).setCell ⟨w.heap.size + 1, 10, none⟩ (.slice bA xA yA)).setCell ⟨w.heap.size + 1, 11, none⟩ (.bool nmore)) (w.heap.size + 1) 12 (.slice bC xC yC))) (grown_set ((((((((((((((w2).setCell ⟨w.heap.size + 1, 0, none⟩ (.int .u32 nr)).setCell ⟨w.heap.size + 1, 1, none⟩ (.int .u32 na)).setCell ⟨w.heap.size + 1, 2, none⟩ (.int .i64 nprio)).setCell ⟨w.heap.size + 1, 3, none⟩ (.int .u32 ndr)).setCell ⟨w.heap.size + 1, 4, none⟩ (.int .u32 nbdr)).setCell ⟨w.heap.size + 1, 5, none⟩ (.int .i64 nst)).setCell ⟨w.heap.size + 1, 6, none⟩ (.int .i64 ntil)).setCell ⟨w.heap.size + 1, 7, none⟩ (.bool nmas)).setCell ⟨w.heap.size + 1, 8, none⟩ (.int .i64 nseq)).setCell ⟨w.heap.size + 1, 9, none⟩ (.slice b9 x9 y9)).setCell ⟨w.heap.size + 1, 10, none⟩ (.slice bA xA yA)).setCell ⟨w.heap.size + 1, 11, none⟩ (.bool nmore)).setCell ⟨w.heap.size + 1, 12, none⟩ (.slice bC xC yC)) (w.heap.size + 1) 13 (.slice bD xD yD))) (grown_set (((((((((((((((w2).setCell ⟨w.heap.size + 1, 0, none⟩ (.int .u32 nr)).setCell ⟨w.heap.size + 1, 1, none⟩ (.int .u32 na)).setCell ⟨w.heap.size + 1, 2, none⟩ (.int .i64 nprio)).setCell ⟨w.heap.size + 1, 3, none⟩ (.int .u32 ndr)).setCell ⟨w.heap.size + 1, 4, none⟩ (.int .u32 nbdr)).setCell ⟨w.heap.size + 1, 5, none⟩ (.int .i64 nst)).setCell ⟨w.heap.size + 1, 6, none⟩ (.int .i64 ntil)).setCell ⟨w.heap.size + 1, 7, none⟩ (.bool nmas)).setCell ⟨w.heap.size + 1, 8, none⟩ (.int .i64 nseq)).setCell ⟨w.heap.size + 1, 9, none⟩ (.slice b9 x9 y9)).setCell ⟨w.heap.size + 1, 10, none⟩ (.slice bA xA yA)).setCell ⟨w.heap.size + 1, 11, none⟩ (.bool nmore)).setCell ⟨w.heap.size + 1, 12, none⟩ (.slice bC xC yC)).setCell ⟨w.heap.size + 1, 13, none⟩ (.slice bD xD yD)) (w.heap.size + 1) 14 (.int .i64 nres))
    have BW' : Below w.heap.size w W' := BB2.out.grown BN BB2.out.size (fun j hj => by cases hj; omega)
    have FIN : Hid (HfPost w nb r (.returned (.tuple #[.agg #[.int .u32 nr, .int .u32 na, .int .i64 nprio, .int .u32 ndr, .int .u32 nbdr, .int .i64 nst, .int .i64 ntil, .bool nmas, .int .i64 nseq, .slice b9 x9 y9, .slice bA xA yA, .bool nmore, .slice bC xC yC, .slice bD xD yD, .int .i64 nres], .bool true])) W') := Lib.hid ⟨⟨nr, na, nprio, ndr, nbdr, nst, ntil, nmas, nseq, ⟨b9, x9, y9⟩, ⟨bA, xA, yA⟩, nmore, ⟨bC, xC, yC⟩, ⟨bD, xD, yD⟩, nres⟩, true, rfl, AD.out.symm, BW'⟩
    have HW' := Lib.hid hW'
    obtain ⟨⟨⟨z0, z1, z2, z3, z4⟩, ⟨z5, z6, z7, z8, z9⟩, ⟨z10, z11, z12, z13, z14⟩⟩, hfz⟩ := blk15 Z2.out
    have zf0 := hfz 0
    have zf1 := hfz 1
    have zf2 := hfz 2
    have zf3 := hfz 3
    have zf4 := hfz 4
    have zf5 := hfz 5
    have zf6 := hfz 6
    have zf7 := hfz 7
    have zf8 := hfz 8
    have zf9 := hfz 9
    have zf10 := hfz 10
    have zf11 := hfz 11
    have zf12 := hfz 12
    have zf13 := hfz 13
    have zf14 := hfz 14
    obtain ⟨⟨⟨g0, g1, g2, g3, g4⟩, ⟨g5, g6, g7, g8, g9⟩, ⟨g10, g11, g12, g13, g14⟩⟩, -⟩ := blk15 bk'
    have G := Lib.hid (And.intro g0 (And.intro g1 (And.intro g2 (And.intro g3 (And.intro g4 (And.intro g5 (And.intro g6 (And.intro g7 (And.intro g8 (And.intro g9 (And.intro g10 (And.intro g11 (And.intro g12 (And.intro g13 g14))))))))))))))
    clear hW' bk' BN BW' hfz g0 g1 g2 g3 g4 g5 g6 g7 g8 g9 g10 g11 g12 g13 g14
    go_wp2_with fail
    rw [HW'.out]
    obtain ⟨g0, g1, g2, g3, g4, g5, g6, g7, g8, g9, g10, g11, g12, g13, g14⟩ := G.out
    exact bodyPost_ret (v := .tuple #[.agg #[.int .u32 nr, .int .u32 na, .int .i64 nprio, .int .u32 ndr, .int .u32 nbdr, .int .i64 nst, .int .i64 ntil, .bool nmas, .int .i64 nseq, .slice b9 x9 y9, .slice bA xA yA, .bool nmore, .slice bC xC yC, .slice bD xD yD, .int .i64 nres], .bool true]) (by simp [results, Tryz.results102, go_sem, g0, g1, g2, g3, g4, g5, g6, g7, g8, g9, g10, g11, g12, g13, g14]) rfl FIN.out

end Go.Proofs.YtddageahmgaigaaGreat
