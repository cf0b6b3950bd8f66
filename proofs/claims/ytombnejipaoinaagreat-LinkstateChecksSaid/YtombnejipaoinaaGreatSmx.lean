/-
  routingref35.Same: of equal states of new routers it tells true.
-/
import Derived.Test.YtombnejipaoinaaGreatSms
namespace Go.Proofs.YtombnejipaoinaaGreat
open Go.RowKit

set_option maxHeartbeats 8000000 in
set_option maxRecDepth 100000 in
theorem lsame_calls (w : World) (d : LsD) (vi vr vs va ui ur us ua : Value) (h : StAt w d vi vr vs va) (g : StAt w d ui ur us ua) :
    Calls Tryz.prog 9 #[.agg #[.int .u32 d.r, vi, vr, .int .i64 d.now, vs, va, .slice none 0 0, .slice none 0 0], .agg #[.int .u32 d.r, ui, ur, .int .i64 d.now, us, ua, .slice none 0 0, .slice none 0 0]] w fun e w' => e = .returned (.bool true) ∧ Gr w w' := by
  have SC := Lib.hid (fun W (b : Gr w W) => sameconf_calls W d.r vi vr ui ur d.ifs d.rgs (h.i.below b.b) (h.r.below b.b) (g.i.below b.b) (g.r.below b.b))
  have SS := Lib.hid (fun W (b : Gr w W) => samests_calls W vs us d.ifs (h.s.below b.b) (g.s.below b.b))
  have SE := Lib.hid sameno_calls
  have hlen := SlV.len h.a
  have HA := h.a
  have GA := g.a
  obtain ⟨a1, c1, rfl, -, -, -, k1⟩ := HA
  obtain ⟨a2, c2, rfl, -, -, -, k2⟩ := GA
  simp only [List.length_map] at k1 k2 hlen ⊢
  have K1 := Lib.hid k1
  have K2 := Lib.hid k2
  clear k1 k2 h g
  have mixed : Tryz.prog.follows .mixedOrders = true := by kernel_rfl
  obtain ⟨W0, hW0⟩ : ∃ W0, (w.alloc (.cells #[.int .u32 d.r, vi, vr, .int .i64 d.now, vs, .slice a1 d.ars.length c1, .slice none 0 0, .slice none 0 0] 33)).alloc (.cells #[.int .u32 d.r, ui, ur, .int .i64 d.now, us, .slice a2 d.ars.length c2, .slice none 0 0, .slice none 0 0] 33) = W0 := ⟨_, rfl⟩
  have x : W0.heap[w.heap.size]? = some (.cells #[.int .u32 d.r, vi, vr, .int .i64 d.now, vs, .slice a1 d.ars.length c1, .slice none 0 0, .slice none 0 0] 33 (0, 0)) := by rw [← hW0]; exact (alloc_get _ _ _ (by simp)).trans (alloc_new w _)
  have y : W0.heap[w.heap.size + 1]? = some (.cells #[.int .u32 d.r, ui, ur, .int .i64 d.now, us, .slice a2 d.ars.length c2, .slice none 0 0, .slice none 0 0] 33 (0, 0)) := by
    rw [← hW0]
    have := alloc_new (w.alloc (.cells #[.int .u32 d.r, vi, vr, .int .i64 d.now, vs, .slice a1 d.ars.length c1, .slice none 0 0, .slice none 0 0] 33)) (.cells #[.int .u32 d.r, ui, ur, .int .i64 d.now, us, .slice a2 d.ars.length c2, .slice none 0 0, .slice none 0 0] 33)
    simpa using this
  have G0 : Hid (Gr w W0) := Lib.hid (by rw [← hW0]; exact ((Gr.refl _).alloc _).alloc _)
  have XY : Hid (∀ W, Gr W0 W → W.heap[w.heap.size]? = some (.cells #[.int .u32 d.r, vi, vr, .int .i64 d.now, vs, .slice a1 d.ars.length c1, .slice none 0 0, .slice none 0 0] 33 (0, 0)) ∧ W.heap[w.heap.size + 1]? = some (.cells #[.int .u32 d.r, ui, ur, .int .i64 d.now, us, .slice a2 d.ars.length c2, .slice none 0 0, .slice none 0 0] 33 (0, 0))) :=
    Lib.hid (fun W g => ⟨(g.b.block _ (blk_lt x)).trans x, (g.b.block _ (blk_lt y)).trans y⟩)
  have HW0 := Lib.hid hW0
  clear hW0
  have x0 : W0.cell? ⟨w.heap.size, 0, none⟩ = some (.int .u32 d.r) := blk_cell x rfl
  have x1 : W0.cell? ⟨w.heap.size, 1, none⟩ = some (vi) := blk_cell x rfl
  have x2 : W0.cell? ⟨w.heap.size, 2, none⟩ = some (vr) := blk_cell x rfl
  have x3 : W0.cell? ⟨w.heap.size, 3, none⟩ = some (.int .i64 d.now) := blk_cell x rfl
  have x4 : W0.cell? ⟨w.heap.size, 4, none⟩ = some (vs) := blk_cell x rfl
  have x5 : W0.cell? ⟨w.heap.size, 5, none⟩ = some (.slice a1 d.ars.length c1) := blk_cell x rfl
  have x6 : W0.cell? ⟨w.heap.size, 6, none⟩ = some (.slice none 0 0) := blk_cell x rfl
  have x7 : W0.cell? ⟨w.heap.size, 7, none⟩ = some (.slice none 0 0) := blk_cell x rfl
  have y0 : W0.cell? ⟨w.heap.size + 1, 0, none⟩ = some (.int .u32 d.r) := blk_cell y rfl
  have y1 : W0.cell? ⟨w.heap.size + 1, 1, none⟩ = some (ui) := blk_cell y rfl
  have y2 : W0.cell? ⟨w.heap.size + 1, 2, none⟩ = some (ur) := blk_cell y rfl
  have y3 : W0.cell? ⟨w.heap.size + 1, 3, none⟩ = some (.int .i64 d.now) := blk_cell y rfl
  have y4 : W0.cell? ⟨w.heap.size + 1, 4, none⟩ = some (us) := blk_cell y rfl
  have y5 : W0.cell? ⟨w.heap.size + 1, 5, none⟩ = some (.slice a2 d.ars.length c2) := blk_cell y rfl
  have y6 : W0.cell? ⟨w.heap.size + 1, 6, none⟩ = some (.slice none 0 0) := blk_cell y rfl
  have y7 : W0.cell? ⟨w.heap.size + 1, 7, none⟩ = some (.slice none 0 0) := blk_cell y rfl
  clear x y
  obtain ⟨r, ifs, rgs, now, ars⟩ := d
  simp only at *
  go_enter Tryz.func9, Tryz.ntmps9
  go_upto_region 1 with fail
  rw [HW0.out]
  go_wp2_with fail
  refine (SC.out _ G0.out).mono ?_
  rintro e w1 ⟨rfl, G1⟩
  have R1 := Lib.hid G1
  clear G1 x0 y0 x1 y1 x2 y2 x3 y3 x4 y4 x5 y5 x6 y6 x7 y7 SC
  obtain ⟨x, y⟩ := XY.out w1 R1.out
  have x0 : w1.cell? ⟨w.heap.size, 0, none⟩ = some (.int .u32 r) := blk_cell x rfl
  have x1 : w1.cell? ⟨w.heap.size, 1, none⟩ = some (vi) := blk_cell x rfl
  have x2 : w1.cell? ⟨w.heap.size, 2, none⟩ = some (vr) := blk_cell x rfl
  have x3 : w1.cell? ⟨w.heap.size, 3, none⟩ = some (.int .i64 now) := blk_cell x rfl
  have x4 : w1.cell? ⟨w.heap.size, 4, none⟩ = some (vs) := blk_cell x rfl
  have x5 : w1.cell? ⟨w.heap.size, 5, none⟩ = some (.slice a1 ars.length c1) := blk_cell x rfl
  have x6 : w1.cell? ⟨w.heap.size, 6, none⟩ = some (.slice none 0 0) := blk_cell x rfl
  have x7 : w1.cell? ⟨w.heap.size, 7, none⟩ = some (.slice none 0 0) := blk_cell x rfl
  have y0 : w1.cell? ⟨w.heap.size + 1, 0, none⟩ = some (.int .u32 r) := blk_cell y rfl
  have y1 : w1.cell? ⟨w.heap.size + 1, 1, none⟩ = some (ui) := blk_cell y rfl
  have y2 : w1.cell? ⟨w.heap.size + 1, 2, none⟩ = some (ur) := blk_cell y rfl
  have y3 : w1.cell? ⟨w.heap.size + 1, 3, none⟩ = some (.int .i64 now) := blk_cell y rfl
  have y4 : w1.cell? ⟨w.heap.size + 1, 4, none⟩ = some (us) := blk_cell y rfl
  have y5 : w1.cell? ⟨w.heap.size + 1, 5, none⟩ = some (.slice a2 ars.length c2) := blk_cell y rfl
  have y6 : w1.cell? ⟨w.heap.size + 1, 6, none⟩ = some (.slice none 0 0) := blk_cell y rfl
  have y7 : w1.cell? ⟨w.heap.size + 1, 7, none⟩ = some (.slice none 0 0) := blk_cell y rfl
  clear x y
  go_wp2_with fail
  refine (SS.out _ (G0.out.trans R1.out)).mono ?_
  rintro e w2 ⟨rfl, G2⟩
  have R2 := Lib.hid (R1.out.trans G2)
  clear G2 x0 y0 x1 y1 x2 y2 x3 y3 x4 y4 x5 y5 x6 y6 x7 y7 SS
  obtain ⟨x, y⟩ := XY.out w2 R2.out
  have x0 : w2.cell? ⟨w.heap.size, 0, none⟩ = some (.int .u32 r) := blk_cell x rfl
  have x1 : w2.cell? ⟨w.heap.size, 1, none⟩ = some (vi) := blk_cell x rfl
  have x2 : w2.cell? ⟨w.heap.size, 2, none⟩ = some (vr) := blk_cell x rfl
  have x3 : w2.cell? ⟨w.heap.size, 3, none⟩ = some (.int .i64 now) := blk_cell x rfl
  have x4 : w2.cell? ⟨w.heap.size, 4, none⟩ = some (vs) := blk_cell x rfl
  have x5 : w2.cell? ⟨w.heap.size, 5, none⟩ = some (.slice a1 ars.length c1) := blk_cell x rfl
  have x6 : w2.cell? ⟨w.heap.size, 6, none⟩ = some (.slice none 0 0) := blk_cell x rfl
  have x7 : w2.cell? ⟨w.heap.size, 7, none⟩ = some (.slice none 0 0) := blk_cell x rfl
  have y0 : w2.cell? ⟨w.heap.size + 1, 0, none⟩ = some (.int .u32 r) := blk_cell y rfl
  have y1 : w2.cell? ⟨w.heap.size + 1, 1, none⟩ = some (ui) := blk_cell y rfl
  have y2 : w2.cell? ⟨w.heap.size + 1, 2, none⟩ = some (ur) := blk_cell y rfl
  have y3 : w2.cell? ⟨w.heap.size + 1, 3, none⟩ = some (.int .i64 now) := blk_cell y rfl
  have y4 : w2.cell? ⟨w.heap.size + 1, 4, none⟩ = some (us) := blk_cell y rfl
  have y5 : w2.cell? ⟨w.heap.size + 1, 5, none⟩ = some (.slice a2 ars.length c2) := blk_cell y rfl
  have y6 : w2.cell? ⟨w.heap.size + 1, 6, none⟩ = some (.slice none 0 0) := blk_cell y rfl
  have y7 : w2.cell? ⟨w.heap.size + 1, 7, none⟩ = some (.slice none 0 0) := blk_cell y rfl
  clear x y R1
  go_wp2_with fail
  refine (SE.out _).mono ?_
  rintro e w3 ⟨rfl, G3⟩
  have R3 := Lib.hid (R2.out.trans G3)
  clear G3 R2 x0 y0 x1 y1 x2 y2 x3 y3 x4 y4 x5 y5 x6 y6 x7 y7
  obtain ⟨x, y⟩ := XY.out w3 R3.out
  have x0 : w3.cell? ⟨w.heap.size, 0, none⟩ = some (.int .u32 r) := blk_cell x rfl
  have x1 : w3.cell? ⟨w.heap.size, 1, none⟩ = some (vi) := blk_cell x rfl
  have x2 : w3.cell? ⟨w.heap.size, 2, none⟩ = some (vr) := blk_cell x rfl
  have x3 : w3.cell? ⟨w.heap.size, 3, none⟩ = some (.int .i64 now) := blk_cell x rfl
  have x4 : w3.cell? ⟨w.heap.size, 4, none⟩ = some (vs) := blk_cell x rfl
  have x5 : w3.cell? ⟨w.heap.size, 5, none⟩ = some (.slice a1 ars.length c1) := blk_cell x rfl
  have x6 : w3.cell? ⟨w.heap.size, 6, none⟩ = some (.slice none 0 0) := blk_cell x rfl
  have x7 : w3.cell? ⟨w.heap.size, 7, none⟩ = some (.slice none 0 0) := blk_cell x rfl
  have y0 : w3.cell? ⟨w.heap.size + 1, 0, none⟩ = some (.int .u32 r) := blk_cell y rfl
  have y1 : w3.cell? ⟨w.heap.size + 1, 1, none⟩ = some (ui) := blk_cell y rfl
  have y2 : w3.cell? ⟨w.heap.size + 1, 2, none⟩ = some (ur) := blk_cell y rfl
  have y3 : w3.cell? ⟨w.heap.size + 1, 3, none⟩ = some (.int .i64 now) := blk_cell y rfl
  have y4 : w3.cell? ⟨w.heap.size + 1, 4, none⟩ = some (us) := blk_cell y rfl
  have y5 : w3.cell? ⟨w.heap.size + 1, 5, none⟩ = some (.slice a2 ars.length c2) := blk_cell y rfl
  have y6 : w3.cell? ⟨w.heap.size + 1, 6, none⟩ = some (.slice none 0 0) := blk_cell y rfl
  have y7 : w3.cell? ⟨w.heap.size + 1, 7, none⟩ = some (.slice none 0 0) := blk_cell y rfl
  clear x y
  go_wp2_with fail
  clear x0 y0 x1 y1 x2 y2 x3 y3 x4 y4 x5 y5 x6 y6 x7 y7
  go_loopw [5] (fun i wr => ∃ k : Nat, i = .int .i64 k ∧ k ≤ ars.length ∧ Hid (Gr W0 wr)) (fun i _ => ars.length - (intOf i).toNat)
  case atStart => exact ⟨0, rfl, Nat.zero_le _, R3⟩
  case round =>
    clear R3
    obtain ⟨k, rfl, hk, R⟩ := hrel
    obtain ⟨x, y⟩ := XY.out wr R.out
    have x0 : wr.cell? ⟨w.heap.size, 0, none⟩ = some (.int .u32 r) := blk_cell x rfl
    have x1 : wr.cell? ⟨w.heap.size, 1, none⟩ = some (vi) := blk_cell x rfl
    have x2 : wr.cell? ⟨w.heap.size, 2, none⟩ = some (vr) := blk_cell x rfl
    have x3 : wr.cell? ⟨w.heap.size, 3, none⟩ = some (.int .i64 now) := blk_cell x rfl
    have x4 : wr.cell? ⟨w.heap.size, 4, none⟩ = some (vs) := blk_cell x rfl
    have x5 : wr.cell? ⟨w.heap.size, 5, none⟩ = some (.slice a1 ars.length c1) := blk_cell x rfl
    have x6 : wr.cell? ⟨w.heap.size, 6, none⟩ = some (.slice none 0 0) := blk_cell x rfl
    have x7 : wr.cell? ⟨w.heap.size, 7, none⟩ = some (.slice none 0 0) := blk_cell x rfl
    have y0 : wr.cell? ⟨w.heap.size + 1, 0, none⟩ = some (.int .u32 r) := blk_cell y rfl
    have y1 : wr.cell? ⟨w.heap.size + 1, 1, none⟩ = some (ui) := blk_cell y rfl
    have y2 : wr.cell? ⟨w.heap.size + 1, 2, none⟩ = some (ur) := blk_cell y rfl
    have y3 : wr.cell? ⟨w.heap.size + 1, 3, none⟩ = some (.int .i64 now) := blk_cell y rfl
    have y4 : wr.cell? ⟨w.heap.size + 1, 4, none⟩ = some (us) := blk_cell y rfl
    have y5 : wr.cell? ⟨w.heap.size + 1, 5, none⟩ = some (.slice a2 ars.length c2) := blk_cell y rfl
    have y6 : wr.cell? ⟨w.heap.size + 1, 6, none⟩ = some (.slice none 0 0) := blk_cell y rfl
    have y7 : wr.cell? ⟨w.heap.size + 1, 7, none⟩ = some (.slice none 0 0) := blk_cell y rfl
    clear x y
    by_cases c : k < ars.length
    · obtain ⟨p1, o1, rfl, q1, z1⟩ := K1.out (by omega)
      obtain ⟨p2, o2, rfl, q2, z2⟩ := K2.out (by omega)
      have z1 := z1 k (by simpa using c)
      have z2 := z2 k (by simpa using c)
      simp only [List.getElem_map, arE] at z1 z2
      generalize ars[k] = v at *
      have GW := G0.out.trans R.out
      have L1 := Nat.lt_of_lt_of_le q1 GW.b.size
      have L2 := Nat.lt_of_lt_of_le q2 GW.b.size
      have e0 : ∀ n os, (Go.Sort.grow (wr.drewN n) os).cell? ⟨p1, o1 + k * 2, none⟩ = some (.int .u32 v) := cell_grown L1 (bcell GW.b (z1 0 _ rfl))
      have e1 : ∀ n os, (Go.Sort.grow (wr.drewN n) os).cell? ⟨p1, o1 + k * 2 + 1, none⟩ = some (.slice none 0 0) := cell_grown L1 (bcell GW.b (z1 1 _ rfl))
      have f0 : ∀ n os, (Go.Sort.grow (wr.drewN n) os).cell? ⟨p2, o2 + k * 2, none⟩ = some (.int .u32 v) := cell_grown L2 (bcell GW.b (z2 0 _ rfl))
      have f1 : ∀ n os, (Go.Sort.grow (wr.drewN n) os).cell? ⟨p2, o2 + k * 2 + 1, none⟩ = some (.slice none 0 0) := cell_grown L2 (bcell GW.b (z2 1 _ rfl))
      have g0 : ∀ n os, (Go.Sort.grow (wr.drewN n) os).cell? ⟨w.heap.size, 5, none⟩ = some (.slice (some ⟨p1, o1, none⟩) ars.length c1) := cell_grown (World.block_lt_of_cell? _ _ x5) x5
      have g1 : ∀ n os, (Go.Sort.grow (wr.drewN n) os).cell? ⟨w.heap.size + 1, 5, none⟩ = some (.slice (some ⟨p2, o2, none⟩) ars.length c2) := cell_grown (World.block_lt_of_cell? _ _ y5) y5
      have SQ := Lib.hid (fun n os => (SE.out (Go.Sort.grow (wr.drewN n) os)).mono fun _ _ h => (⟨h.1, h.2.grow⟩ : _ ∧ ∃ q os', _ = Go.Sort.grow (World.drewN _ q) os'))
      have NX : Hid (∀ n os, Gr W0 (Go.Sort.grow (wr.drewN n) os)) := Lib.hid (fun n os => R.out.trans (Gr.of_grow n os))
      clear z1 z2 GW L1 L2
      have i0 : (0 : Int) ≤ (k : Int) := by omega
      have i1 : (k : Int) < (ars.length : Int) := by omega
      have s3 : ((k : Int)).toNat = k := by omega
      go_wp2_with fail
      clear x0 y0 x1 y1 x2 y2 x3 y3 x4 y4 x5 y5 x6 y6 x7 y7
      refine wp_region_quiet_grown (by assumption) (by kernel_rfl) ?_
      repeat (go_big_quiet_step ((go_at_call 30; with_reducible exact Calls.grown_of (SQ.out _ _))))
      refine wpQuiet_nil ?_
      intro _ hw'
      obtain ⟨⟨nq, osq⟩, hw''⟩ := hw'
      subst hw''
      have NXz := Lib.hid (NX.out nq osq)
      clear SQ e0 e1 f0 f1 g0 g1
      go_wp2_with fail
      go_roundw
      case rel => exact ⟨k + 1, by go_num, by omega, NXz⟩
      case measure => simp [intOf]; omega
    · go_wp2_with fail
      clear x0 y0 x1 y1 x2 y2 x3 y3 x4 y4 x5 y5 x6 y6 x7 y7 c hk
      go_loopw [6] (fun i wr => i = .int .i64 0 ∧ Hid (Gr W0 wr)) (fun _ _ => 0)
      case atStart => exact ⟨rfl, R⟩
      case round =>
        clear R
        obtain ⟨rfl, R⟩ := hrel
        obtain ⟨x, y⟩ := XY.out wr R.out
        have x0 : wr.cell? ⟨w.heap.size, 0, none⟩ = some (.int .u32 r) := blk_cell x rfl
        have x1 : wr.cell? ⟨w.heap.size, 1, none⟩ = some (vi) := blk_cell x rfl
        have x2 : wr.cell? ⟨w.heap.size, 2, none⟩ = some (vr) := blk_cell x rfl
        have x3 : wr.cell? ⟨w.heap.size, 3, none⟩ = some (.int .i64 now) := blk_cell x rfl
        have x4 : wr.cell? ⟨w.heap.size, 4, none⟩ = some (vs) := blk_cell x rfl
        have x5 : wr.cell? ⟨w.heap.size, 5, none⟩ = some (.slice a1 ars.length c1) := blk_cell x rfl
        have x6 : wr.cell? ⟨w.heap.size, 6, none⟩ = some (.slice none 0 0) := blk_cell x rfl
        have x7 : wr.cell? ⟨w.heap.size, 7, none⟩ = some (.slice none 0 0) := blk_cell x rfl
        have y0 : wr.cell? ⟨w.heap.size + 1, 0, none⟩ = some (.int .u32 r) := blk_cell y rfl
        have y1 : wr.cell? ⟨w.heap.size + 1, 1, none⟩ = some (ui) := blk_cell y rfl
        have y2 : wr.cell? ⟨w.heap.size + 1, 2, none⟩ = some (ur) := blk_cell y rfl
        have y3 : wr.cell? ⟨w.heap.size + 1, 3, none⟩ = some (.int .i64 now) := blk_cell y rfl
        have y4 : wr.cell? ⟨w.heap.size + 1, 4, none⟩ = some (us) := blk_cell y rfl
        have y5 : wr.cell? ⟨w.heap.size + 1, 5, none⟩ = some (.slice a2 ars.length c2) := blk_cell y rfl
        have y6 : wr.cell? ⟨w.heap.size + 1, 6, none⟩ = some (.slice none 0 0) := blk_cell y rfl
        have y7 : wr.cell? ⟨w.heap.size + 1, 7, none⟩ = some (.slice none 0 0) := blk_cell y rfl
        clear x y
        have FIN := Lib.hid (G0.out.trans R.out)
        clear R
        go_wp2_with fail
        go_ret
        exact ⟨rfl, FIN.out⟩

end Go.Proofs.YtombnejipaoinaaGreat
