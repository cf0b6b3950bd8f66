/-
  routingref35.SameConf: of equal configurations it tells true.
-/
import Derived.Test.YtombnejipaoinaaGreatNwp
import Derived.Deep.DeepCutAuto
import Derived.BigQuiet
namespace Go.Proofs.YtombnejipaoinaaGreat
open Go.RowKit

theorem neqIfc (x : If9) (w : World) : (binOp .neq 70 (.agg (if9E x).toArray) (.agg (if9E x).toArray)).run Tryz.prog w = .ok (.bool false) w := by
  have u3 := Tryz.underlying3
  have u22 := Tryz.underlying22
  have u23 := Tryz.underlying41
  have a3 := Tryz.isAgg3
  have z3 := Tryz.sizeOf3
  have a22 := Tryz.isAgg22
  have z22 := Tryz.sizeOf22
  have a23 := Tryz.isAgg41
  have z23 := Tryz.sizeOf41
  have aP := Tryz.isAgg68
  have zP := Tryz.sizeOf68
  have hS : Tryz.prog.underlying 70 = some (.struct (Tryz.prog.fieldsOf 70)) := by kernel_rfl
  have hp : Tryz.prog.stoodInHeld 70 = false := by kernel_rfl
  have hS2 : Tryz.prog.underlying 68 = some (.struct (Tryz.prog.fieldsOf 68)) := by kernel_rfl
  have hp2 : Tryz.prog.stoodInHeld 68 = false := by kernel_rfl
  have E2 : ∀ (a b : Int) (d : Nat), (Op.equalIn (d + 2) 68 (.agg #[.int .u32 a, .int .i64 b]) (.agg #[.int .u32 a, .int .i64 b])).run Tryz.prog w = .ok true w := by
    intro a b d
    rw [run_equalIn_agg w (d + 1) 68 _ _ hS2 hp2]
    simp only [Program.fieldsOf, Tryz.underlying68]
    go_simp
  have E3 := fun a b => E2 a b 9997
  clear E2 hS2 hp2
  obtain ⟨kind, pa, pl, ad, area, cost, prio, hel, dead⟩ := x
  simp only [if9E]
  rw [run_neq_struct, show (10000 : Nat) = 9999 + 1 from rfl, run_equalIn_agg w 9999 70 _ _ hS hp]
  simp only [Program.fieldsOf, Tryz.underlying70]
  go_simp

theorem neqArg (x : Arg) (w : World) : (binOp .neq 77 (.agg (agE x).toArray) (.agg (agE x).toArray)).run Tryz.prog w = .ok (.bool false) w := by
  have u3 := Tryz.underlying3
  have u4 := Tryz.underlying4
  have u22 := Tryz.underlying22
  have u23 := Tryz.underlying41
  have a3 := Tryz.isAgg3
  have z3 := Tryz.sizeOf3
  have a4 := Tryz.isAgg4
  have z4 := Tryz.sizeOf4
  have a22 := Tryz.isAgg22
  have z22 := Tryz.sizeOf22
  have a23 := Tryz.isAgg41
  have z23 := Tryz.sizeOf41
  have aP := Tryz.isAgg68
  have zP := Tryz.sizeOf68
  have hS : Tryz.prog.underlying 77 = some (.struct (Tryz.prog.fieldsOf 77)) := by kernel_rfl
  have hp : Tryz.prog.stoodInHeld 77 = false := by kernel_rfl
  have hS2 : Tryz.prog.underlying 68 = some (.struct (Tryz.prog.fieldsOf 68)) := by kernel_rfl
  have hp2 : Tryz.prog.stoodInHeld 68 = false := by kernel_rfl
  have E2 : ∀ (a b : Int) (d : Nat), (Op.equalIn (d + 2) 68 (.agg #[.int .u32 a, .int .i64 b]) (.agg #[.int .u32 a, .int .i64 b])).run Tryz.prog w = .ok true w := by
    intro a b d
    rw [run_equalIn_agg w (d + 1) 68 _ _ hS2 hp2]
    simp only [Program.fieldsOf, Tryz.underlying68]
    go_simp
  have E3 := fun a b => E2 a b 9997
  clear E2 hS2 hp2
  obtain ⟨area, ⟨pa, pl⟩, adv⟩ := x
  simp only [agE]
  rw [run_neq_struct, show (10000 : Nat) = 9999 + 1 from rfl, run_equalIn_agg w 9999 77 _ _ hS hp]
  simp only [Program.fieldsOf, Tryz.underlying77]
  go_simp

set_option maxHeartbeats 8000000 in
set_option maxRecDepth 100000 in
theorem sameconf_calls (w : World) (r : Int) (v1 v2 u1 u2 : Value) (ifs : List If9) (rgs : List Arg) (h1 : IfsAt w v1 ifs) (h2 : RngsAt w v2 rgs) (g1 : IfsAt w u1 ifs) (g2 : RngsAt w u2 rgs) :
    Calls Tryz.prog 28 #[.agg #[.int .u32 r, v1, v2], .agg #[.int .u32 r, u1, u2]] w fun e w' => e = .returned (.bool true) ∧ Gr w w' := by
  obtain ⟨a1, c1, rfl, hil, -, k1⟩ := h1.get
  obtain ⟨a2, c2, rfl, hrl, k2⟩ := h2.get
  obtain ⟨b1, e1, rfl, -, -, m1⟩ := g1.get
  obtain ⟨b2, e2, rfl, -, m2⟩ := g2.get
  have K1 := Lib.hid k1
  have K2 := Lib.hid k2
  have M1 := Lib.hid m1
  have M2 := Lib.hid m2
  clear h1 h2 g1 g2 k1 k2 m1 m2
  have mixed : Tryz.prog.follows .mixedOrders = true := by kernel_rfl
  obtain ⟨W0, hW0⟩ : ∃ W0, (w.alloc (.cells #[.int .u32 r, .slice a1 ifs.length c1, .slice a2 rgs.length c2] 26)).alloc (.cells #[.int .u32 r, .slice b1 ifs.length e1, .slice b2 rgs.length e2] 26) = W0 := ⟨_, rfl⟩
  have x : W0.heap[w.heap.size]? = some (.cells #[.int .u32 r, .slice a1 ifs.length c1, .slice a2 rgs.length c2] 26 (0, 0)) := by rw [← hW0]; exact (alloc_get _ _ _ (by simp)).trans (alloc_new w _)
  have y : W0.heap[w.heap.size + 1]? = some (.cells #[.int .u32 r, .slice b1 ifs.length e1, .slice b2 rgs.length e2] 26 (0, 0)) := by
    rw [← hW0]
    have := alloc_new (w.alloc (.cells #[.int .u32 r, .slice a1 ifs.length c1, .slice a2 rgs.length c2] 26)) (.cells #[.int .u32 r, .slice b1 ifs.length e1, .slice b2 rgs.length e2] 26)
    simpa using this
  have G0 : Hid (Gr w W0) := Lib.hid (by rw [← hW0]; exact ((Gr.refl _).alloc _).alloc _)
  have XY : Hid (∀ W, Gr W0 W → W.heap[w.heap.size]? = some (.cells #[.int .u32 r, .slice a1 ifs.length c1, .slice a2 rgs.length c2] 26 (0, 0)) ∧ W.heap[w.heap.size + 1]? = some (.cells #[.int .u32 r, .slice b1 ifs.length e1, .slice b2 rgs.length e2] 26 (0, 0))) :=
    Lib.hid (fun W g => ⟨(g.b.block _ (blk_lt x)).trans x, (g.b.block _ (blk_lt y)).trans y⟩)
  have HW0 := Lib.hid hW0
  clear hW0
  have x0 : W0.cell? ⟨w.heap.size, 0, none⟩ = some (.int .u32 r) := blk_cell x rfl
  have x1 : W0.cell? ⟨w.heap.size, 1, none⟩ = some (.slice a1 ifs.length c1) := blk_cell x rfl
  have x2 : W0.cell? ⟨w.heap.size, 2, none⟩ = some (.slice a2 rgs.length c2) := blk_cell x rfl
  have y0 : W0.cell? ⟨w.heap.size + 1, 0, none⟩ = some (.int .u32 r) := blk_cell y rfl
  have y1 : W0.cell? ⟨w.heap.size + 1, 1, none⟩ = some (.slice b1 ifs.length e1) := blk_cell y rfl
  have y2 : W0.cell? ⟨w.heap.size + 1, 2, none⟩ = some (.slice b2 rgs.length e2) := blk_cell y rfl
  clear x y
  go_enter Tryz.func28, Tryz.ntmps28
  go_upto_region 1 with fail
  rw [HW0.out]
  go_wp2_with fail
  clear x0 x1 x2 y0 y1 y2
  go_loopw [5] (fun i wr => ∃ k : Nat, i = .int .i64 k ∧ k ≤ ifs.length ∧ Hid (Gr W0 wr)) (fun i _ => ifs.length - (intOf i).toNat)
  case atStart => exact ⟨0, rfl, Nat.zero_le _, Lib.hid (Gr.refl _)⟩
  case round =>
    obtain ⟨k, rfl, hk, R⟩ := hrel
    obtain ⟨x, y⟩ := XY.out wr R.out
    have x0 : wr.cell? ⟨w.heap.size, 0, none⟩ = some (.int .u32 r) := blk_cell x rfl
    have x1 : wr.cell? ⟨w.heap.size, 1, none⟩ = some (.slice a1 ifs.length c1) := blk_cell x rfl
    have x2 : wr.cell? ⟨w.heap.size, 2, none⟩ = some (.slice a2 rgs.length c2) := blk_cell x rfl
    have y0 : wr.cell? ⟨w.heap.size + 1, 0, none⟩ = some (.int .u32 r) := blk_cell y rfl
    have y1 : wr.cell? ⟨w.heap.size + 1, 1, none⟩ = some (.slice b1 ifs.length e1) := blk_cell y rfl
    have y2 : wr.cell? ⟨w.heap.size + 1, 2, none⟩ = some (.slice b2 rgs.length e2) := blk_cell y rfl
    clear x y
    by_cases c : k < ifs.length
    · obtain ⟨p1, o1, rfl, q1, z1⟩ := K1.out (by omega)
      obtain ⟨p2, o2, rfl, q2, z2⟩ := M1.out (by omega)
      have GW := G0.out.trans R.out
      obtain ⟨⟨d0, d1, d2, d3⟩, d4, d5, d6, d7, d8⟩ : IfCells wr p1 (o1 + k * 9) (ifAt ifs k) := by rw [ifAt_eq c]; exact (z1 k c).below GW.b q1
      obtain ⟨⟨f0, f1, f2, f3⟩, f4, f5, f6, f7, f8⟩ : IfCells wr p2 (o2 + k * 9) (ifAt ifs k) := by rw [ifAt_eq c]; exact (z2 k c).below GW.b q2
      clear z1 z2 GW
      generalize ifAt ifs k = v at *
      have E := neqIfc v
      obtain ⟨kind, pa, pl, ad, area, cost, prio, hel, dead⟩ := v
      simp only [if9E] at d0 d1 d2 d3 d4 d5 d6 d7 d8 f0 f1 f2 f3 f4 f5 f6 f7 f8 E
      have NX : Hid (∀ n, Gr W0 (wr.drewN n)) := Lib.hid (fun n => R.out.drewN n)
      have i0 : (0 : Int) ≤ (k : Int) := by omega
      have i1 : (k : Int) < (ifs.length : Int) := by omega
      have s3 : ((k : Int)).toNat = k := by omega
      go_wp2_with fail
      go_quiet (fail)
      clear d0 d1 d2 d3 d4 d5 d6 d7 d8 f0 f1 f2 f3 f4 f5 f6 f7 f8 E x0 x1 x2 y0 y1 y2
      go_wp2_with fail
      go_roundw
      case rel => exact ⟨k + 1, by go_num, by omega, Lib.hid (NX.out _)⟩
      case measure => simp [intOf]; omega
    · go_wp2_with fail
      clear x0 x1 x2 y0 y1 y2 c hk
      go_loopw [6] (fun i wr => ∃ k : Nat, i = .int .i64 k ∧ k ≤ rgs.length ∧ Hid (Gr W0 wr)) (fun i _ => rgs.length - (intOf i).toNat)
      case atStart => exact ⟨0, rfl, Nat.zero_le _, R⟩
      case round =>
        clear R
        obtain ⟨k, rfl, hk, R⟩ := hrel
        obtain ⟨x, y⟩ := XY.out wr R.out
        have x0 : wr.cell? ⟨w.heap.size, 0, none⟩ = some (.int .u32 r) := blk_cell x rfl
        have x1 : wr.cell? ⟨w.heap.size, 1, none⟩ = some (.slice a1 ifs.length c1) := blk_cell x rfl
        have x2 : wr.cell? ⟨w.heap.size, 2, none⟩ = some (.slice a2 rgs.length c2) := blk_cell x rfl
        have y0 : wr.cell? ⟨w.heap.size + 1, 0, none⟩ = some (.int .u32 r) := blk_cell y rfl
        have y1 : wr.cell? ⟨w.heap.size + 1, 1, none⟩ = some (.slice b1 ifs.length e1) := blk_cell y rfl
        have y2 : wr.cell? ⟨w.heap.size + 1, 2, none⟩ = some (.slice b2 rgs.length e2) := blk_cell y rfl
        clear x y
        by_cases c : k < rgs.length
        · obtain ⟨p1, o1, rfl, q1, z1⟩ := K2.out (by omega)
          obtain ⟨p2, o2, rfl, q2, z2⟩ := M2.out (by omega)
          have GW := G0.out.trans R.out
          obtain ⟨d0, d1, d2, d3⟩ : AgCells wr p1 (o1 + k * 4) (argAt rgs k) := by rw [argAt_eq c]; exact (z1 k c).below GW.b q1
          obtain ⟨f0, f1, f2, f3⟩ : AgCells wr p2 (o2 + k * 4) (argAt rgs k) := by rw [argAt_eq c]; exact (z2 k c).below GW.b q2
          clear z1 z2 GW
          generalize argAt rgs k = v at *
          have E := neqArg v
          obtain ⟨area, ⟨pa, pl⟩, adv⟩ := v
          simp only [agE] at d0 d1 d2 d3 f0 f1 f2 f3 E
          have NX : Hid (∀ n, Gr W0 (wr.drewN n)) := Lib.hid (fun n => R.out.drewN n)
          have i0 : (0 : Int) ≤ (k : Int) := by omega
          have i1 : (k : Int) < (rgs.length : Int) := by omega
          have s3 : ((k : Int)).toNat = k := by omega
          go_wp2_with fail
          go_quiet (fail)
          clear d0 d1 d2 d3 f0 f1 f2 f3 E x0 x1 x2 y0 y1 y2
          go_wp2_with fail
          go_roundw
          case rel => exact ⟨k + 1, by go_num, by omega, Lib.hid (NX.out _)⟩
          case measure => simp [intOf]; omega
        · have FIN := Lib.hid (G0.out.trans R.out)
          clear R
          go_wp2_with fail
          go_ret
          exact ⟨rfl, FIN.out⟩

end Go.Proofs.YtombnejipaoinaaGreat
