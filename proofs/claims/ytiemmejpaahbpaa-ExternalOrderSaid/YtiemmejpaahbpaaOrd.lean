/-
  routinglaw34.ExternalOrder returns true.
-/
import Derived.Test.YtiemmejpaahbpaaLiv
import Derived.Test.YtiemmejpaahbpaaRef
namespace Go.Proofs.Ytiemmejpaahbpaa
open Go.RowKit

set_option maxHeartbeats 8000000 in
set_option maxRecDepth 100000 in
theorem order_law (a b c : Rt) (w : World) : Calls Try.prog 3 #[.agg (rtE a).toArray, .agg (rtE b).toArray, .agg (rtE c).toArray] w (LivPost w) := by
  have C1 := Lib.hid (fun W => rcompare_calls a b W)
  have F1 := Lib.hid (fun W => fcompare_calls a b W)
  have C2 := Lib.hid (fun W => rcompare_calls b a W)
  have C3 := Lib.hid (fun W => rcompare_calls b c W)
  have C4 := Lib.hid (fun W => rcompare_calls a c W)
  have LV := Lib.hid lives_calls
  rw [rtCmp_anti a b] at C2
  have hb := rtCmp_bd a b
  have ht : Hid (rtCmp a b ≤ 0 → rtCmp b c ≤ 0 → rtCmp a c ≤ 0) := Lib.hid (rtCmp_trans a b c)
  have hf : Hid (a.second = false → b.second = true → rtCmp a b = -1) := Lib.hid (rtCmp_first a b)
  generalize rtCmp a b = x at *
  generalize rtCmp b c = y at *
  generalize rtCmp a c = z at *
  obtain ⟨⟨a0, a1⟩, a2, a3, a4, a5, a6, a7, a8, a9, a10⟩ := a
  obtain ⟨⟨b0, b1⟩, b2, b3, b4, b5, b6, b7, b8, b9, b10⟩ := b
  obtain ⟨⟨c0, c1⟩, c2, c3, c4, c5, c6, c7, c8, c9, c10⟩ := c
  simp only [rtE] at *
  obtain ⟨W0, hW0⟩ : ∃ W0, ((w.alloc (.cells #[.int .u32 a0, .int .i64 a1, .int .i64 a2, .int .u32 a3, .int .i64 a4, .bool a5, .int .i64 a6, .int .i64 a7, .slice a8 a9 a10] 28)).alloc (.cells #[.int .u32 b0, .int .i64 b1, .int .i64 b2, .int .u32 b3, .int .i64 b4, .bool b5, .int .i64 b6, .int .i64 b7, .slice b8 b9 b10] 28)).alloc (.cells #[.int .u32 c0, .int .i64 c1, .int .i64 c2, .int .u32 c3, .int .i64 c4, .bool c5, .int .i64 c6, .int .i64 c7, .slice c8 c9 c10] 28) = W0 := ⟨_, rfl⟩
  have hs0 : W0.heap.size = w.heap.size + 3 := by rw [← hW0]; simp
  have B0 : Below w.heap.size w W0 := by rw [← hW0]; exact (((Below.refl _ _).alloc (Nat.le_refl _) _).alloc (by simp) _).alloc (by simp; omega) _
  have ba : W0.heap[w.heap.size]? = some (.cells #[.int .u32 a0, .int .i64 a1, .int .i64 a2, .int .u32 a3, .int .i64 a4, .bool a5, .int .i64 a6, .int .i64 a7, .slice a8 a9 a10] 28 (0, 0)) := by rw [← hW0]; exact (alloc_get _ _ _ (by simp; omega)).trans ((alloc_get _ _ _ (by simp)).trans (alloc_new _ _))
  have bb : W0.heap[w.heap.size + 1]? = some (.cells #[.int .u32 b0, .int .i64 b1, .int .i64 b2, .int .u32 b3, .int .i64 b4, .bool b5, .int .i64 b6, .int .i64 b7, .slice b8 b9 b10] 28 (0, 0)) := by rw [← hW0]; exact (alloc_get _ _ _ (by simp)).trans (blk_new2 w _ _)
  have bc : W0.heap[w.heap.size + 1 + 1]? = some (.cells #[.int .u32 c0, .int .i64 c1, .int .i64 c2, .int .u32 c3, .int .i64 c4, .bool c5, .int .i64 c6, .int .i64 c7, .slice c8 c9 c10] 28 (0, 0)) := by
    rw [← hW0]
    have := alloc_new ((w.alloc (.cells #[.int .u32 a0, .int .i64 a1, .int .i64 a2, .int .u32 a3, .int .i64 a4, .bool a5, .int .i64 a6, .int .i64 a7, .slice a8 a9 a10] 28)).alloc (.cells #[.int .u32 b0, .int .i64 b1, .int .i64 b2, .int .u32 b3, .int .i64 b4, .bool b5, .int .i64 b6, .int .i64 b7, .slice b8 b9 b10] 28)) (.cells #[.int .u32 c0, .int .i64 c1, .int .i64 c2, .int .u32 c3, .int .i64 c4, .bool c5, .int .i64 c6, .int .i64 c7, .slice c8 c9 c10] 28)
    simpa using this
  have HB0 := Lib.hid B0
  have BA := Lib.hid ba
  have BB := Lib.hid bb
  have BC := Lib.hid bc
  have HW0 := Lib.hid hW0
  have nn : -(-x) = x := Int.neg_neg x
  have x1 : (x != x) = false := by simp
  have x2 : (x == x) = true := by simp
  clear hW0 hs0 B0 ba bb bc
  cases a5 with
  | true =>
    go_enter Try.func3, Try.ntmps3
    go_wp2_with fail
    rw [HW0.out]
    refine (C1.out _).mono ?_
    rintro e w1 ⟨rfl, G1⟩
    have GG1 := G1
    obtain ⟨⟨p0, p1, p2, p3, p4, p5, p6, p7, p8⟩, -⟩ := blk9 ((GG1.b.block _ (blk_lt BA.out)).trans BA.out)
    obtain ⟨⟨q0, q1, q2, q3, q4, q5, q6, q7, q8⟩, -⟩ := blk9 ((GG1.b.block _ (blk_lt BB.out)).trans BB.out)
    obtain ⟨⟨r0, r1, r2, r3, r4, r5, r6, r7, r8⟩, -⟩ := blk9 ((GG1.b.block _ (blk_lt BC.out)).trans BC.out)
    clear G1
    go_wp2_with fail
    refine (F1.out _).mono ?_
    rintro e w2 ⟨rfl, G2⟩
    have GG2 := GG1.trans G2
    clear p0 p1 p2 p3 p4 p5 p6 p7 p8 q0 q1 q2 q3 q4 q5 q6 q7 q8 r0 r1 r2 r3 r4 r5 r6 r7 r8
    obtain ⟨⟨p0, p1, p2, p3, p4, p5, p6, p7, p8⟩, -⟩ := blk9 ((GG2.b.block _ (blk_lt BA.out)).trans BA.out)
    obtain ⟨⟨q0, q1, q2, q3, q4, q5, q6, q7, q8⟩, -⟩ := blk9 ((GG2.b.block _ (blk_lt BB.out)).trans BB.out)
    obtain ⟨⟨r0, r1, r2, r3, r4, r5, r6, r7, r8⟩, -⟩ := blk9 ((GG2.b.block _ (blk_lt BC.out)).trans BC.out)
    clear G2 GG1
    go_wp2_with fail
    refine (C2.out _).mono ?_
    rintro e w3 ⟨rfl, G3⟩
    have GG3 := GG2.trans G3
    clear p0 p1 p2 p3 p4 p5 p6 p7 p8 q0 q1 q2 q3 q4 q5 q6 q7 q8 r0 r1 r2 r3 r4 r5 r6 r7 r8
    obtain ⟨⟨p0, p1, p2, p3, p4, p5, p6, p7, p8⟩, -⟩ := blk9 ((GG3.b.block _ (blk_lt BA.out)).trans BA.out)
    obtain ⟨⟨q0, q1, q2, q3, q4, q5, q6, q7, q8⟩, -⟩ := blk9 ((GG3.b.block _ (blk_lt BB.out)).trans BB.out)
    obtain ⟨⟨r0, r1, r2, r3, r4, r5, r6, r7, r8⟩, -⟩ := blk9 ((GG3.b.block _ (blk_lt BC.out)).trans BC.out)
    clear G3 GG2
    by_cases k1 : x ≤ 0
    · go_wp2_with fail
      refine (C3.out _).mono ?_
      rintro e w4 ⟨rfl, G4⟩
      have GG4 := GG3.trans G4
      clear p0 p1 p2 p3 p4 p5 p6 p7 p8 q0 q1 q2 q3 q4 q5 q6 q7 q8 r0 r1 r2 r3 r4 r5 r6 r7 r8
      obtain ⟨⟨p0, p1, p2, p3, p4, p5, p6, p7, p8⟩, -⟩ := blk9 ((GG4.b.block _ (blk_lt BA.out)).trans BA.out)
      obtain ⟨⟨q0, q1, q2, q3, q4, q5, q6, q7, q8⟩, -⟩ := blk9 ((GG4.b.block _ (blk_lt BB.out)).trans BB.out)
      obtain ⟨⟨r0, r1, r2, r3, r4, r5, r6, r7, r8⟩, -⟩ := blk9 ((GG4.b.block _ (blk_lt BC.out)).trans BC.out)
      clear G4 GG3
      by_cases k2 : y ≤ 0
      · have k3 : z ≤ 0 := ht.out k1 k2
        have k4 : decide (0 < z) = false := decide_eq_false (by omega)
        have k5 : decide (z > 0) = false := decide_eq_false (by omega)
        go_wp2_with fail
        refine (C4.out _).mono ?_
        rintro e w5 ⟨rfl, G5⟩
        have GG5 := GG4.trans G5
        clear p0 p1 p2 p3 p4 p5 p6 p7 p8 q0 q1 q2 q3 q4 q5 q6 q7 q8 r0 r1 r2 r3 r4 r5 r6 r7 r8
        obtain ⟨⟨p0, p1, p2, p3, p4, p5, p6, p7, p8⟩, -⟩ := blk9 ((GG5.b.block _ (blk_lt BA.out)).trans BA.out)
        obtain ⟨⟨q0, q1, q2, q3, q4, q5, q6, q7, q8⟩, -⟩ := blk9 ((GG5.b.block _ (blk_lt BB.out)).trans BB.out)
        obtain ⟨⟨r0, r1, r2, r3, r4, r5, r6, r7, r8⟩, -⟩ := blk9 ((GG5.b.block _ (blk_lt BC.out)).trans BC.out)
        clear G5 GG4
        go_wp2_with fail
        refine (LV.out _).mono ?_
        rintro e w9 ⟨rfl, B9⟩
        have FIN := Lib.hid (HB0.out.trans ((GG5.b.trans (B9.mono GG5.b.size)).mono HB0.out.size))
        clear B9 GG5 p0 p1 p2 p3 p4 p5 p6 p7 p8 q0 q1 q2 q3 q4 q5 q6 q7 q8 r0 r1 r2 r3 r4 r5 r6 r7 r8
        go_wp2_with fail
        go_ret
        exact ⟨rfl, FIN.out⟩
      · have d2 : decide (y ≤ 0) = false := by simpa using k2
        have k2' : 0 < y := by omega
        go_wp2_with fail
        refine (LV.out _).mono ?_
        rintro e w9 ⟨rfl, B9⟩
        have FIN := Lib.hid (HB0.out.trans ((GG4.b.trans (B9.mono GG4.b.size)).mono HB0.out.size))
        clear B9 GG4 p0 p1 p2 p3 p4 p5 p6 p7 p8 q0 q1 q2 q3 q4 q5 q6 q7 q8 r0 r1 r2 r3 r4 r5 r6 r7 r8
        go_wp2_with fail
        go_ret
        exact ⟨rfl, FIN.out⟩
    · have d1 : decide (x ≤ 0) = false := by simpa using k1
      have k1' : 0 < x := by omega
      go_wp2_with fail
      refine (LV.out _).mono ?_
      rintro e w9 ⟨rfl, B9⟩
      have FIN := Lib.hid (HB0.out.trans ((GG3.b.trans (B9.mono GG3.b.size)).mono HB0.out.size))
      clear B9 GG3 p0 p1 p2 p3 p4 p5 p6 p7 p8 q0 q1 q2 q3 q4 q5 q6 q7 q8 r0 r1 r2 r3 r4 r5 r6 r7 r8
      go_wp2_with fail
      go_ret
      exact ⟨rfl, FIN.out⟩
  | false =>
    cases b5 with
    | false =>
      go_enter Try.func3, Try.ntmps3
      go_wp2_with fail
      rw [HW0.out]
      refine (C1.out _).mono ?_
      rintro e w1 ⟨rfl, G1⟩
      have GG1 := G1
      obtain ⟨⟨p0, p1, p2, p3, p4, p5, p6, p7, p8⟩, -⟩ := blk9 ((GG1.b.block _ (blk_lt BA.out)).trans BA.out)
      obtain ⟨⟨q0, q1, q2, q3, q4, q5, q6, q7, q8⟩, -⟩ := blk9 ((GG1.b.block _ (blk_lt BB.out)).trans BB.out)
      obtain ⟨⟨r0, r1, r2, r3, r4, r5, r6, r7, r8⟩, -⟩ := blk9 ((GG1.b.block _ (blk_lt BC.out)).trans BC.out)
      clear G1
      go_wp2_with fail
      refine (F1.out _).mono ?_
      rintro e w2 ⟨rfl, G2⟩
      have GG2 := GG1.trans G2
      clear p0 p1 p2 p3 p4 p5 p6 p7 p8 q0 q1 q2 q3 q4 q5 q6 q7 q8 r0 r1 r2 r3 r4 r5 r6 r7 r8
      obtain ⟨⟨p0, p1, p2, p3, p4, p5, p6, p7, p8⟩, -⟩ := blk9 ((GG2.b.block _ (blk_lt BA.out)).trans BA.out)
      obtain ⟨⟨q0, q1, q2, q3, q4, q5, q6, q7, q8⟩, -⟩ := blk9 ((GG2.b.block _ (blk_lt BB.out)).trans BB.out)
      obtain ⟨⟨r0, r1, r2, r3, r4, r5, r6, r7, r8⟩, -⟩ := blk9 ((GG2.b.block _ (blk_lt BC.out)).trans BC.out)
      clear G2 GG1
      go_wp2_with fail
      refine (C2.out _).mono ?_
      rintro e w3 ⟨rfl, G3⟩
      have GG3 := GG2.trans G3
      clear p0 p1 p2 p3 p4 p5 p6 p7 p8 q0 q1 q2 q3 q4 q5 q6 q7 q8 r0 r1 r2 r3 r4 r5 r6 r7 r8
      obtain ⟨⟨p0, p1, p2, p3, p4, p5, p6, p7, p8⟩, -⟩ := blk9 ((GG3.b.block _ (blk_lt BA.out)).trans BA.out)
      obtain ⟨⟨q0, q1, q2, q3, q4, q5, q6, q7, q8⟩, -⟩ := blk9 ((GG3.b.block _ (blk_lt BB.out)).trans BB.out)
      obtain ⟨⟨r0, r1, r2, r3, r4, r5, r6, r7, r8⟩, -⟩ := blk9 ((GG3.b.block _ (blk_lt BC.out)).trans BC.out)
      clear G3 GG2
      by_cases k1 : x ≤ 0
      · go_wp2_with fail
        refine (C3.out _).mono ?_
        rintro e w4 ⟨rfl, G4⟩
        have GG4 := GG3.trans G4
        clear p0 p1 p2 p3 p4 p5 p6 p7 p8 q0 q1 q2 q3 q4 q5 q6 q7 q8 r0 r1 r2 r3 r4 r5 r6 r7 r8
        obtain ⟨⟨p0, p1, p2, p3, p4, p5, p6, p7, p8⟩, -⟩ := blk9 ((GG4.b.block _ (blk_lt BA.out)).trans BA.out)
        obtain ⟨⟨q0, q1, q2, q3, q4, q5, q6, q7, q8⟩, -⟩ := blk9 ((GG4.b.block _ (blk_lt BB.out)).trans BB.out)
        obtain ⟨⟨r0, r1, r2, r3, r4, r5, r6, r7, r8⟩, -⟩ := blk9 ((GG4.b.block _ (blk_lt BC.out)).trans BC.out)
        clear G4 GG3
        by_cases k2 : y ≤ 0
        · have k3 : z ≤ 0 := ht.out k1 k2
          have k4 : decide (0 < z) = false := decide_eq_false (by omega)
          have k5 : decide (z > 0) = false := decide_eq_false (by omega)
          go_wp2_with fail
          refine (C4.out _).mono ?_
          rintro e w5 ⟨rfl, G5⟩
          have GG5 := GG4.trans G5
          clear p0 p1 p2 p3 p4 p5 p6 p7 p8 q0 q1 q2 q3 q4 q5 q6 q7 q8 r0 r1 r2 r3 r4 r5 r6 r7 r8
          obtain ⟨⟨p0, p1, p2, p3, p4, p5, p6, p7, p8⟩, -⟩ := blk9 ((GG5.b.block _ (blk_lt BA.out)).trans BA.out)
          obtain ⟨⟨q0, q1, q2, q3, q4, q5, q6, q7, q8⟩, -⟩ := blk9 ((GG5.b.block _ (blk_lt BB.out)).trans BB.out)
          obtain ⟨⟨r0, r1, r2, r3, r4, r5, r6, r7, r8⟩, -⟩ := blk9 ((GG5.b.block _ (blk_lt BC.out)).trans BC.out)
          clear G5 GG4
          go_wp2_with fail
          refine (LV.out _).mono ?_
          rintro e w9 ⟨rfl, B9⟩
          have FIN := Lib.hid (HB0.out.trans ((GG5.b.trans (B9.mono GG5.b.size)).mono HB0.out.size))
          clear B9 GG5 p0 p1 p2 p3 p4 p5 p6 p7 p8 q0 q1 q2 q3 q4 q5 q6 q7 q8 r0 r1 r2 r3 r4 r5 r6 r7 r8
          go_wp2_with fail
          go_ret
          exact ⟨rfl, FIN.out⟩
        · have d2 : decide (y ≤ 0) = false := by simpa using k2
          have k2' : 0 < y := by omega
          go_wp2_with fail
          refine (LV.out _).mono ?_
          rintro e w9 ⟨rfl, B9⟩
          have FIN := Lib.hid (HB0.out.trans ((GG4.b.trans (B9.mono GG4.b.size)).mono HB0.out.size))
          clear B9 GG4 p0 p1 p2 p3 p4 p5 p6 p7 p8 q0 q1 q2 q3 q4 q5 q6 q7 q8 r0 r1 r2 r3 r4 r5 r6 r7 r8
          go_wp2_with fail
          go_ret
          exact ⟨rfl, FIN.out⟩
      · have d1 : decide (x ≤ 0) = false := by simpa using k1
        have k1' : 0 < x := by omega
        go_wp2_with fail
        refine (LV.out _).mono ?_
        rintro e w9 ⟨rfl, B9⟩
        have FIN := Lib.hid (HB0.out.trans ((GG3.b.trans (B9.mono GG3.b.size)).mono HB0.out.size))
        clear B9 GG3 p0 p1 p2 p3 p4 p5 p6 p7 p8 q0 q1 q2 q3 q4 q5 q6 q7 q8 r0 r1 r2 r3 r4 r5 r6 r7 r8
        go_wp2_with fail
        go_ret
        exact ⟨rfl, FIN.out⟩
    | true =>
      obtain rfl : x = -1 := hf.out rfl rfl
      go_enter Try.func3, Try.ntmps3
      go_wp2_with fail
      rw [HW0.out]
      refine (C1.out _).mono ?_
      rintro e w1 ⟨rfl, G1⟩
      have GG1 := G1
      obtain ⟨⟨p0, p1, p2, p3, p4, p5, p6, p7, p8⟩, -⟩ := blk9 ((GG1.b.block _ (blk_lt BA.out)).trans BA.out)
      obtain ⟨⟨q0, q1, q2, q3, q4, q5, q6, q7, q8⟩, -⟩ := blk9 ((GG1.b.block _ (blk_lt BB.out)).trans BB.out)
      obtain ⟨⟨r0, r1, r2, r3, r4, r5, r6, r7, r8⟩, -⟩ := blk9 ((GG1.b.block _ (blk_lt BC.out)).trans BC.out)
      clear G1
      go_wp2_with fail
      refine (F1.out _).mono ?_
      rintro e w2 ⟨rfl, G2⟩
      have GG2 := GG1.trans G2
      clear p0 p1 p2 p3 p4 p5 p6 p7 p8 q0 q1 q2 q3 q4 q5 q6 q7 q8 r0 r1 r2 r3 r4 r5 r6 r7 r8
      obtain ⟨⟨p0, p1, p2, p3, p4, p5, p6, p7, p8⟩, -⟩ := blk9 ((GG2.b.block _ (blk_lt BA.out)).trans BA.out)
      obtain ⟨⟨q0, q1, q2, q3, q4, q5, q6, q7, q8⟩, -⟩ := blk9 ((GG2.b.block _ (blk_lt BB.out)).trans BB.out)
      obtain ⟨⟨r0, r1, r2, r3, r4, r5, r6, r7, r8⟩, -⟩ := blk9 ((GG2.b.block _ (blk_lt BC.out)).trans BC.out)
      clear G2 GG1
      go_wp2_with fail
      refine (C2.out _).mono ?_
      rintro e w3 ⟨rfl, G3⟩
      have GG3 := GG2.trans G3
      clear p0 p1 p2 p3 p4 p5 p6 p7 p8 q0 q1 q2 q3 q4 q5 q6 q7 q8 r0 r1 r2 r3 r4 r5 r6 r7 r8
      obtain ⟨⟨p0, p1, p2, p3, p4, p5, p6, p7, p8⟩, -⟩ := blk9 ((GG3.b.block _ (blk_lt BA.out)).trans BA.out)
      obtain ⟨⟨q0, q1, q2, q3, q4, q5, q6, q7, q8⟩, -⟩ := blk9 ((GG3.b.block _ (blk_lt BB.out)).trans BB.out)
      obtain ⟨⟨r0, r1, r2, r3, r4, r5, r6, r7, r8⟩, -⟩ := blk9 ((GG3.b.block _ (blk_lt BC.out)).trans BC.out)
      clear G3 GG2
      have k1 : (-1 : Int) ≤ 0 := by omega
      go_wp2_with fail
      refine (C3.out _).mono ?_
      rintro e w4 ⟨rfl, G4⟩
      have GG4 := GG3.trans G4
      clear p0 p1 p2 p3 p4 p5 p6 p7 p8 q0 q1 q2 q3 q4 q5 q6 q7 q8 r0 r1 r2 r3 r4 r5 r6 r7 r8
      obtain ⟨⟨p0, p1, p2, p3, p4, p5, p6, p7, p8⟩, -⟩ := blk9 ((GG4.b.block _ (blk_lt BA.out)).trans BA.out)
      obtain ⟨⟨q0, q1, q2, q3, q4, q5, q6, q7, q8⟩, -⟩ := blk9 ((GG4.b.block _ (blk_lt BB.out)).trans BB.out)
      obtain ⟨⟨r0, r1, r2, r3, r4, r5, r6, r7, r8⟩, -⟩ := blk9 ((GG4.b.block _ (blk_lt BC.out)).trans BC.out)
      clear G4 GG3
      by_cases k2 : y ≤ 0
      · have k3 : z ≤ 0 := ht.out k1 k2
        have k4 : decide (0 < z) = false := decide_eq_false (by omega)
        have k5 : decide (z > 0) = false := decide_eq_false (by omega)
        go_wp2_with fail
        refine (C4.out _).mono ?_
        rintro e w5 ⟨rfl, G5⟩
        have GG5 := GG4.trans G5
        clear p0 p1 p2 p3 p4 p5 p6 p7 p8 q0 q1 q2 q3 q4 q5 q6 q7 q8 r0 r1 r2 r3 r4 r5 r6 r7 r8
        obtain ⟨⟨p0, p1, p2, p3, p4, p5, p6, p7, p8⟩, -⟩ := blk9 ((GG5.b.block _ (blk_lt BA.out)).trans BA.out)
        obtain ⟨⟨q0, q1, q2, q3, q4, q5, q6, q7, q8⟩, -⟩ := blk9 ((GG5.b.block _ (blk_lt BB.out)).trans BB.out)
        obtain ⟨⟨r0, r1, r2, r3, r4, r5, r6, r7, r8⟩, -⟩ := blk9 ((GG5.b.block _ (blk_lt BC.out)).trans BC.out)
        clear G5 GG4
        go_wp2_with fail
        refine (LV.out _).mono ?_
        rintro e w9 ⟨rfl, B9⟩
        have FIN := Lib.hid (HB0.out.trans ((GG5.b.trans (B9.mono GG5.b.size)).mono HB0.out.size))
        clear B9 GG5 p0 p1 p2 p3 p4 p5 p6 p7 p8 q0 q1 q2 q3 q4 q5 q6 q7 q8 r0 r1 r2 r3 r4 r5 r6 r7 r8
        go_wp2_with fail
        go_ret
        exact ⟨rfl, FIN.out⟩
      · have d2 : decide (y ≤ 0) = false := by simpa using k2
        have k2' : 0 < y := by omega
        go_wp2_with fail
        refine (LV.out _).mono ?_
        rintro e w9 ⟨rfl, B9⟩
        have FIN := Lib.hid (HB0.out.trans ((GG4.b.trans (B9.mono GG4.b.size)).mono HB0.out.size))
        clear B9 GG4 p0 p1 p2 p3 p4 p5 p6 p7 p8 q0 q1 q2 q3 q4 q5 q6 q7 q8 r0 r1 r2 r3 r4 r5 r6 r7 r8
        go_wp2_with fail
        go_ret
        exact ⟨rfl, FIN.out⟩


end Go.Proofs.Ytiemmejpaahbpaa
