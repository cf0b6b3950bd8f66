/-
  LinkstateChecks returns true.
-/
import Derived.Test.YtombnejipaoinaaGreatNwr
import Derived.Test.YtombnejipaoinaaGreatSmx
import Derived.Test.YtombnejipaoinaaGreatLvs
namespace Go.Proofs.YtombnejipaoinaaGreat
open Go.RowKit

theorem SlV.slice {k : Nat} {w : World} {v : Value} {css : List (List Value)} (h : SlV k w v css) : ∃ a n c, v = .slice a n c := by
  obtain ⟨a, cap, rfl, -⟩ := h
  exact ⟨_, _, _, rfl⟩

set_option maxHeartbeats 16000000 in
set_option maxRecDepth 100000 in
theorem lc_law (w : World) (r : Int) (vi vr : Value) (ifs : List If9) (rgs : List Arg) (now : Int) (hi : IfsAt w vi ifs) (hr : RngsAt w vr rgs) (oki : ∀ x ∈ ifs, OkI x) (okr : ∀ o ∈ rgs, OkP o.pfx) :
    Calls Tryz.prog 3 #[.agg #[.int .u32 r, vi, vr], .int .i64 now] w fun e w' => e = .returned (.bool true) ∧ Below w.heap.size w w' := by
  have LV := Lib.hid (fun W => Go.Ex.lives_true W)
  have NP := Lib.hid (fun W (g : Below w.heap.size w W) => lnew_calls W r vi vr ifs rgs now (hi.below g) (hr.below g) oki okr)
  have NR := Lib.hid (fun W (g : Below w.heap.size w W) => rnew_calls W r vi vr ifs rgs now (hi.below g) (hr.below g) oki okr)
  have CP := Lib.hid (fun W (g : Below w.heap.size w W) => lkcheck_calls W r vi vr ifs rgs (hi.below g) (hr.below g) oki okr)
  have CR := Lib.hid (fun W (g : Below w.heap.size w W) => rkcheck_calls W r vi vr ifs rgs (hi.below g) (hr.below g) oki okr)
  obtain ⟨ia, ic, rfl, hil, -, -⟩ := hi.get
  obtain ⟨ra, cp, rfl, hrl, -⟩ := hr.get
  clear hi hr oki okr
  have mixed : Tryz.prog.follows .mixedOrders = true := by kernel_rfl
  obtain ⟨W0, hW0⟩ : ∃ W0, w.alloc (.cells #[.int .u32 r, .slice ia ifs.length ic, .slice ra rgs.length cp] 26) = W0 := ⟨_, rfl⟩
  have B0 : Hid (Below w.heap.size w W0) := Lib.hid (by rw [← hW0]; exact (Below.refl _ _).alloc (Nat.le_refl _) _)
  have X0 : Hid (W0.heap[w.heap.size]? = some (.cells #[.int .u32 r, .slice ia ifs.length ic, .slice ra rgs.length cp] 26 (0, 0))) := Lib.hid (by rw [← hW0]; exact alloc_new _ _)
  have HW0 := Lib.hid hW0
  clear hW0
  have x0 : W0.cell? ⟨w.heap.size, 0, none⟩ = some (.int .u32 r) := blk_cell X0.out rfl
  have x1 : W0.cell? ⟨w.heap.size, 1, none⟩ = some (.slice ia ifs.length ic) := blk_cell X0.out rfl
  have x2 : W0.cell? ⟨w.heap.size, 2, none⟩ = some (.slice ra rgs.length cp) := blk_cell X0.out rfl
  by_cases q : 40 < ifs.length
  · have q' : decide ((40 : Int) < (ifs.length : Int)) = true := decide_eq_true (by omega)
    clear q NP NR CP CR
    go_enter Tryz.func3, Tryz.ntmps3
    go_upto_region 1 with fail
    rw [HW0.out]
    go_wp2_with fail
    refine (LV.out _).mono ?_
    rintro e wz ⟨rfl, BZ⟩
    have FIN := Lib.hid (B0.out.trans (BZ.mono B0.out.size))
    clear BZ
    go_wp2_with fail
    go_ret
    exact ⟨rfl, FIN.out⟩
  · have q' : decide ((40 : Int) < (ifs.length : Int)) = false := decide_eq_false (by omega)
    clear q
    have NP0 := Lib.hid (NP.out W0 B0.out)
    clear NP
    obtain ⟨nc, hnc⟩ : ∃ nc, newC r ifs rgs now = nc := ⟨_, rfl⟩
    obtain ⟨d, hd⟩ : ∃ d, newD r ifs rgs now = d := ⟨_, rfl⟩
    obtain ⟨cc, hcc⟩ : ∃ cc, cfC r ifs rgs = cc := ⟨_, rfl⟩
    rw [hnc, hd] at NP0
    simp only [hnc, hd] at NR
    simp only [hcc] at CP CR
    clear hnc hd hcc
    have qn : (nc == nc) = true := by simp
    have qc : (cc == cc) = true := by simp
    go_enter Tryz.func3, Tryz.ntmps3
    go_upto_region 1 with fail
    rw [HW0.out]
    go_wp2_with fail
    refine NP0.out.mono ?_
    rintro e w1 ⟨v1, v2, v3, v4, rfl, S1, G1⟩
    obtain ⟨a1, an1, ac1, rfl⟩ := S1.i.slice
    obtain ⟨a2, an2, ac2, rfl⟩ := S1.r.slice
    obtain ⟨a3, an3, ac3, rfl⟩ := S1.s.slice
    obtain ⟨a4, an4, ac4, rfl⟩ := S1.a.slice
    obtain ⟨w2, hw2⟩ : ∃ w2, w1.alloc (.cells #[.int .u32 d.r, .slice a1 an1 ac1, .slice a2 an2 ac2, .int .i64 d.now, .slice a3 an3 ac3, .slice a4 an4 ac4, .slice none 0 0, .slice none 0 0] 33) = w2 := ⟨_, rfl⟩
    have B12 : Below w1.heap.size w1 w2 := by rw [← hw2]; exact (Below.refl _ _).alloc (Nat.le_refl _) _
    have B1 := B0.out.trans (G1.mono B0.out.size)
    have B2 : Hid (Below w.heap.size w w2) := Lib.hid (B1.trans (B12.mono B1.size))
    have XA : Hid (w2.heap[w1.heap.size]? = some (.cells #[.int .u32 d.r, .slice a1 an1 ac1, .slice a2 an2 ac2, .int .i64 d.now, .slice a3 an3 ac3, .slice a4 an4 ac4, .slice none 0 0, .slice none 0 0] 33 (0, 0))) := Lib.hid (by rw [← hw2]; exact alloc_new _ _)
    have XC : Hid (w2.heap[w.heap.size]? = some (.cells #[.int .u32 r, .slice ia ifs.length ic, .slice ra rgs.length cp] 26 (0, 0))) := Lib.hid ((B12.block _ (Nat.lt_of_lt_of_le (blk_lt X0.out) G1.size)).trans ((G1.block _ (blk_lt X0.out)).trans X0.out))
    have SA := Lib.hid (S1.below B12)
    have NR2 := Lib.hid (NR.out w2 B2.out)
    have HW2 := Lib.hid hw2
    clear S1 G1 B12 B1 hw2 NR x0 x1 x2 NP0 B0 X0 HW0
    go_upto_region 4 with fail
    rw [HW2.out]
    clear HW2
    have x0 : w2.cell? ⟨w.heap.size, 0, none⟩ = some (.int .u32 r) := blk_cell XC.out rfl
    have x1 : w2.cell? ⟨w.heap.size, 1, none⟩ = some (.slice ia ifs.length ic) := blk_cell XC.out rfl
    have x2 : w2.cell? ⟨w.heap.size, 2, none⟩ = some (.slice ra rgs.length cp) := blk_cell XC.out rfl
    go_wp2_with fail
    refine NR2.out.mono ?_
    rintro e w3 ⟨u1, u2, u3, u4, rfl, S3, G3⟩
    obtain ⟨b1, bn1, bc1, rfl⟩ := S3.i.slice
    obtain ⟨b2, bn2, bc2, rfl⟩ := S3.r.slice
    obtain ⟨b3, bn3, bc3, rfl⟩ := S3.s.slice
    obtain ⟨b4, bn4, bc4, rfl⟩ := S3.a.slice
    obtain ⟨w4, hw4⟩ : ∃ w4, w3.alloc (.cells #[.int .u32 d.r, .slice b1 bn1 bc1, .slice b2 bn2 bc2, .int .i64 d.now, .slice b3 bn3 bc3, .slice b4 bn4 bc4, .slice none 0 0, .slice none 0 0] 33) = w4 := ⟨_, rfl⟩
    have B34 : Below w3.heap.size w3 w4 := by rw [← hw4]; exact (Below.refl _ _).alloc (Nat.le_refl _) _
    have B3 := B2.out.trans (G3.mono B2.out.size)
    have B4 : Hid (Below w.heap.size w w4) := Lib.hid (B3.trans (B34.mono B3.size))
    have B24 : Below w2.heap.size w2 w4 := G3.trans (B34.mono G3.size)
    have XB : Hid (w4.heap[w3.heap.size]? = some (.cells #[.int .u32 d.r, .slice b1 bn1 bc1, .slice b2 bn2 bc2, .int .i64 d.now, .slice b3 bn3 bc3, .slice b4 bn4 bc4, .slice none 0 0, .slice none 0 0] 33 (0, 0))) := Lib.hid (by rw [← hw4]; exact alloc_new _ _)
    have XC : Hid (w4.heap[w.heap.size]? = some (.cells #[.int .u32 r, .slice ia ifs.length ic, .slice ra rgs.length cp] 26 (0, 0))) := Lib.hid ((B24.block _ (blk_lt XC.out)).trans XC.out)
    have XA : Hid (w4.heap[w1.heap.size]? = some (.cells #[.int .u32 d.r, .slice a1 an1 ac1, .slice a2 an2 ac2, .int .i64 d.now, .slice a3 an3 ac3, .slice a4 an4 ac4, .slice none 0 0, .slice none 0 0] 33 (0, 0))) := Lib.hid ((B24.block _ (blk_lt XA.out)).trans XA.out)
    have SM := Lib.hid (fun W (g : Below w4.heap.size w4 W) => lsame_calls W d _ _ _ _ _ _ _ _ ((SA.out.below B24).below g) ((S3.below B34).below g))
    have CP4 := Lib.hid (fun W (g : Below w4.heap.size w4 W) => CP.out W (B4.out.trans (g.mono B4.out.size)))
    have CR4 := Lib.hid (fun W (g : Below w4.heap.size w4 W) => CR.out W (B4.out.trans (g.mono B4.out.size)))
    have LV4 := Lib.hid (fun W (_ : Below w4.heap.size w4 W) => LV.out W)
    have GK : Hid (Below w4.heap.size w4 w4) := Lib.hid (Below.refl _ _)
    have HW4 := Lib.hid hw4
    clear S3 G3 B34 B3 B24 hw4 NR2 SA CP CR LV x0 x1 x2 B2
    go_upto_region 5 with fail
    rw [HW4.out]
    clear HW4
    have x0 : w4.cell? ⟨w.heap.size, 0, none⟩ = some (.int .u32 r) := blk_cell XC.out rfl
    have x1 : w4.cell? ⟨w.heap.size, 1, none⟩ = some (.slice ia ifs.length ic) := blk_cell XC.out rfl
    have x2 : w4.cell? ⟨w.heap.size, 2, none⟩ = some (.slice ra rgs.length cp) := blk_cell XC.out rfl
    have y0 : w4.cell? ⟨w1.heap.size, 0, none⟩ = some (.int .u32 d.r) := blk_cell XA.out rfl
    have y1 : w4.cell? ⟨w1.heap.size, 1, none⟩ = some (.slice a1 an1 ac1) := blk_cell XA.out rfl
    have y2 : w4.cell? ⟨w1.heap.size, 2, none⟩ = some (.slice a2 an2 ac2) := blk_cell XA.out rfl
    have y3 : w4.cell? ⟨w1.heap.size, 3, none⟩ = some (.int .i64 d.now) := blk_cell XA.out rfl
    have y4 : w4.cell? ⟨w1.heap.size, 4, none⟩ = some (.slice a3 an3 ac3) := blk_cell XA.out rfl
    have y5 : w4.cell? ⟨w1.heap.size, 5, none⟩ = some (.slice a4 an4 ac4) := blk_cell XA.out rfl
    have y6 : w4.cell? ⟨w1.heap.size, 6, none⟩ = some (.slice none 0 0) := blk_cell XA.out rfl
    have y7 : w4.cell? ⟨w1.heap.size, 7, none⟩ = some (.slice none 0 0) := blk_cell XA.out rfl
    have z0 : w4.cell? ⟨w3.heap.size, 0, none⟩ = some (.int .u32 d.r) := blk_cell XB.out rfl
    have z1 : w4.cell? ⟨w3.heap.size, 1, none⟩ = some (.slice b1 bn1 bc1) := blk_cell XB.out rfl
    have z2 : w4.cell? ⟨w3.heap.size, 2, none⟩ = some (.slice b2 bn2 bc2) := blk_cell XB.out rfl
    have z3 : w4.cell? ⟨w3.heap.size, 3, none⟩ = some (.int .i64 d.now) := blk_cell XB.out rfl
    have z4 : w4.cell? ⟨w3.heap.size, 4, none⟩ = some (.slice b3 bn3 bc3) := blk_cell XB.out rfl
    have z5 : w4.cell? ⟨w3.heap.size, 5, none⟩ = some (.slice b4 bn4 bc4) := blk_cell XB.out rfl
    have z6 : w4.cell? ⟨w3.heap.size, 6, none⟩ = some (.slice none 0 0) := blk_cell XB.out rfl
    have z7 : w4.cell? ⟨w3.heap.size, 7, none⟩ = some (.slice none 0 0) := blk_cell XB.out rfl
    go_region_law
      (first
      | (go_simp; go_at_call 7; (with_reducible refine (CP4.out _ (by first | exact GK.out | exact GK.out.drew)).mono ?_); rintro e w5 ⟨rfl, G5⟩; have GK : Hid (Below w4.heap.size w4 w5) := Lib.hid (by first | exact GK.out.trans (G5.b.mono GK.out.size) | exact GK.out.drew.trans (G5.b.mono GK.out.size)); clear G5; have X5 := (GK.out.block _ (blk_lt XC.out)).trans XC.out; have Y5 := (GK.out.block _ (blk_lt XA.out)).trans XA.out; have Z5 := (GK.out.block _ (blk_lt XB.out)).trans XB.out; have x0 := blk_cell (i := 0) X5 rfl; have x1 := blk_cell (i := 1) X5 rfl; have x2 := blk_cell (i := 2) X5 rfl; have y0 := blk_cell (i := 0) Y5 rfl; have y1 := blk_cell (i := 1) Y5 rfl; have y2 := blk_cell (i := 2) Y5 rfl; have y3 := blk_cell (i := 3) Y5 rfl; have y4 := blk_cell (i := 4) Y5 rfl; have y5 := blk_cell (i := 5) Y5 rfl; have y6 := blk_cell (i := 6) Y5 rfl; have y7 := blk_cell (i := 7) Y5 rfl; have z0 := blk_cell (i := 0) Z5 rfl; have z1 := blk_cell (i := 1) Z5 rfl; have z2 := blk_cell (i := 2) Z5 rfl; have z3 := blk_cell (i := 3) Z5 rfl; have z4 := blk_cell (i := 4) Z5 rfl; have z5 := blk_cell (i := 5) Z5 rfl; have z6 := blk_cell (i := 6) Z5 rfl; have z7 := blk_cell (i := 7) Z5 rfl; clear X5 Y5 Z5)
      | (go_simp; go_at_call 8; (with_reducible refine (CR4.out _ (by first | exact GK.out | exact GK.out.drew)).mono ?_); rintro e w5 ⟨rfl, G5⟩; have GK : Hid (Below w4.heap.size w4 w5) := Lib.hid (by first | exact GK.out.trans (G5.b.mono GK.out.size) | exact GK.out.drew.trans (G5.b.mono GK.out.size)); clear G5; have X5 := (GK.out.block _ (blk_lt XC.out)).trans XC.out; have Y5 := (GK.out.block _ (blk_lt XA.out)).trans XA.out; have Z5 := (GK.out.block _ (blk_lt XB.out)).trans XB.out; have x0 := blk_cell (i := 0) X5 rfl; have x1 := blk_cell (i := 1) X5 rfl; have x2 := blk_cell (i := 2) X5 rfl; have y0 := blk_cell (i := 0) Y5 rfl; have y1 := blk_cell (i := 1) Y5 rfl; have y2 := blk_cell (i := 2) Y5 rfl; have y3 := blk_cell (i := 3) Y5 rfl; have y4 := blk_cell (i := 4) Y5 rfl; have y5 := blk_cell (i := 5) Y5 rfl; have y6 := blk_cell (i := 6) Y5 rfl; have y7 := blk_cell (i := 7) Y5 rfl; have z0 := blk_cell (i := 0) Z5 rfl; have z1 := blk_cell (i := 1) Z5 rfl; have z2 := blk_cell (i := 2) Z5 rfl; have z3 := blk_cell (i := 3) Z5 rfl; have z4 := blk_cell (i := 4) Z5 rfl; have z5 := blk_cell (i := 5) Z5 rfl; have z6 := blk_cell (i := 6) Z5 rfl; have z7 := blk_cell (i := 7) Z5 rfl; clear X5 Y5 Z5)
      | (go_simp; go_at_call 9; (with_reducible refine (SM.out _ (by first | exact GK.out | exact GK.out.drew)).mono ?_); rintro e w5 ⟨rfl, G5⟩; have GK : Hid (Below w4.heap.size w4 w5) := Lib.hid (by first | exact GK.out.trans (G5.b.mono GK.out.size) | exact GK.out.drew.trans (G5.b.mono GK.out.size)); clear G5; have X5 := (GK.out.block _ (blk_lt XC.out)).trans XC.out; have Y5 := (GK.out.block _ (blk_lt XA.out)).trans XA.out; have Z5 := (GK.out.block _ (blk_lt XB.out)).trans XB.out; have x0 := blk_cell (i := 0) X5 rfl; have x1 := blk_cell (i := 1) X5 rfl; have x2 := blk_cell (i := 2) X5 rfl; have y0 := blk_cell (i := 0) Y5 rfl; have y1 := blk_cell (i := 1) Y5 rfl; have y2 := blk_cell (i := 2) Y5 rfl; have y3 := blk_cell (i := 3) Y5 rfl; have y4 := blk_cell (i := 4) Y5 rfl; have y5 := blk_cell (i := 5) Y5 rfl; have y6 := blk_cell (i := 6) Y5 rfl; have y7 := blk_cell (i := 7) Y5 rfl; have z0 := blk_cell (i := 0) Z5 rfl; have z1 := blk_cell (i := 1) Z5 rfl; have z2 := blk_cell (i := 2) Z5 rfl; have z3 := blk_cell (i := 3) Z5 rfl; have z4 := blk_cell (i := 4) Z5 rfl; have z5 := blk_cell (i := 5) Z5 rfl; have z6 := blk_cell (i := 6) Z5 rfl; have z7 := blk_cell (i := 7) Z5 rfl; clear X5 Y5 Z5)
      | (go_simp; go_at_call 4; (with_reducible refine (LV4.out _ (by first | exact GK.out | exact GK.out.drew)).mono ?_); rintro e w5 ⟨rfl, G5⟩; have GK : Hid (Below w4.heap.size w4 w5) := Lib.hid (by first | exact GK.out.trans (G5.mono GK.out.size) | exact GK.out.drew.trans (G5.mono GK.out.size)); clear G5; have X5 := (GK.out.block _ (blk_lt XC.out)).trans XC.out; have Y5 := (GK.out.block _ (blk_lt XA.out)).trans XA.out; have Z5 := (GK.out.block _ (blk_lt XB.out)).trans XB.out; have x0 := blk_cell (i := 0) X5 rfl; have x1 := blk_cell (i := 1) X5 rfl; have x2 := blk_cell (i := 2) X5 rfl; have y0 := blk_cell (i := 0) Y5 rfl; have y1 := blk_cell (i := 1) Y5 rfl; have y2 := blk_cell (i := 2) Y5 rfl; have y3 := blk_cell (i := 3) Y5 rfl; have y4 := blk_cell (i := 4) Y5 rfl; have y5 := blk_cell (i := 5) Y5 rfl; have y6 := blk_cell (i := 6) Y5 rfl; have y7 := blk_cell (i := 7) Y5 rfl; have z0 := blk_cell (i := 0) Z5 rfl; have z1 := blk_cell (i := 1) Z5 rfl; have z2 := blk_cell (i := 2) Z5 rfl; have z3 := blk_cell (i := 3) Z5 rfl; have z4 := blk_cell (i := 4) Z5 rfl; have z5 := blk_cell (i := 5) Z5 rfl; have z6 := blk_cell (i := 6) Z5 rfl; have z7 := blk_cell (i := 7) Z5 rfl; clear X5 Y5 Z5))
    all_goals
      have FIN := Lib.hid (B4.out.trans (GK.out.mono B4.out.size))
      clear GK
      go_wp2_with fail
      go_ret
      exact ⟨rfl, FIN.out⟩

end Go.Proofs.YtombnejipaoinaaGreat
