/-
  routingref26.Same, routingref29.SameStates, routingref25.Equal, routingref35.Same: of equal states of new routers they tell true.
-/
import Derived.Test.YtombnejipaoinaaGreatSmc
namespace Go.Proofs.YtombnejipaoinaaGreat
open Go.RowKit

theorem eqIfc (x : If9) (w : World) : (binOp .eql 70 (.agg (if9E x).toArray) (.agg (if9E x).toArray)).run Tryz.prog w = .ok (.bool true) w := by
  have h := neqIfc x w
  simp only [binOp] at h ⊢
  revert h
  simp only [Sem.run_bind, Sem.run_pure]
  cases (Op.equal 70 (.agg (if9E x).toArray) (.agg (if9E x).toArray)).run Tryz.prog w <;> simp

set_option maxRecDepth 100000 in
theorem samenb_calls (w : World) : Calls Tryz.prog 131 #[.slice none 0 0, .slice none 0 0] w fun e w' => e = .returned (.bool true) ∧ Gr w w' := by
  go_enter Tryz.func131, Tryz.ntmps131
  go_wp2_with fail
  go_loopw [5] (fun i wr => i = .int .i64 0 ∧ Hid (Gr w wr)) (fun _ _ => 0)
  case atStart => exact ⟨rfl, Lib.hid (Gr.refl _)⟩
  case round =>
    obtain ⟨rfl, R⟩ := hrel
    have FIN := Lib.hid R.out
    clear R
    go_wp2_with fail
    go_ret
    exact ⟨rfl, FIN.out⟩

set_option maxRecDepth 100000 in
theorem sameno_calls (w : World) : Calls Tryz.prog 30 #[.slice none 0 0, .slice none 0 0] w fun e w' => e = .returned (.bool true) ∧ Gr w w' := by
  go_enter Tryz.func30, Tryz.ntmps30
  go_wp2_with fail
  go_loopw [5] (fun i wr => i = .int .i64 0 ∧ Hid (Gr w wr)) (fun _ _ => 0)
  case atStart => exact ⟨rfl, Lib.hid (Gr.refl _)⟩
  case round =>
    obtain ⟨rfl, R⟩ := hrel
    have FIN := Lib.hid R.out
    clear R
    go_wp2_with fail
    go_ret
    exact ⟨rfl, FIN.out⟩

set_option maxHeartbeats 8000000 in
set_option maxRecDepth 100000 in
theorem sameif_calls (w : World) (x : If9) : Calls Tryz.prog 56 #[.agg (ifsE x).toArray, .agg (ifsE x).toArray] w fun e w' => e = .returned (.bool true) ∧ Gr w w' := by
  have E := eqIfc x
  obtain ⟨kind, pa, pl, ad, area, cost, prio, hel, dead⟩ := x
  simp only [ifsE, if9E] at E ⊢
  have mixed : Tryz.prog.follows .mixedOrders = true := by kernel_rfl
  obtain ⟨W0, hW0⟩ : ∃ W0, (w.alloc (.cells #[.int .i64 kind, .int .u32 pa, .int .i64 pl, .int .u32 ad, .int .u32 area, .int .i64 cost, .int .i64 prio, .int .i64 hel, .int .i64 dead, .bool false, .int .u32 0, .int .u32 0, .int .i64 0, .int .i64 0, .slice none 0 0] 73)).alloc (.cells #[.int .i64 kind, .int .u32 pa, .int .i64 pl, .int .u32 ad, .int .u32 area, .int .i64 cost, .int .i64 prio, .int .i64 hel, .int .i64 dead, .bool false, .int .u32 0, .int .u32 0, .int .i64 0, .int .i64 0, .slice none 0 0] 73) = W0 := ⟨_, rfl⟩
  have x : W0.heap[w.heap.size]? = some (.cells #[.int .i64 kind, .int .u32 pa, .int .i64 pl, .int .u32 ad, .int .u32 area, .int .i64 cost, .int .i64 prio, .int .i64 hel, .int .i64 dead, .bool false, .int .u32 0, .int .u32 0, .int .i64 0, .int .i64 0, .slice none 0 0] 73 (0, 0)) := by rw [← hW0]; exact (alloc_get _ _ _ (by simp)).trans (alloc_new w _)
  have y : W0.heap[w.heap.size + 1]? = some (.cells #[.int .i64 kind, .int .u32 pa, .int .i64 pl, .int .u32 ad, .int .u32 area, .int .i64 cost, .int .i64 prio, .int .i64 hel, .int .i64 dead, .bool false, .int .u32 0, .int .u32 0, .int .i64 0, .int .i64 0, .slice none 0 0] 73 (0, 0)) := by
    rw [← hW0]
    have := alloc_new (w.alloc (.cells #[.int .i64 kind, .int .u32 pa, .int .i64 pl, .int .u32 ad, .int .u32 area, .int .i64 cost, .int .i64 prio, .int .i64 hel, .int .i64 dead, .bool false, .int .u32 0, .int .u32 0, .int .i64 0, .int .i64 0, .slice none 0 0] 73)) (.cells #[.int .i64 kind, .int .u32 pa, .int .i64 pl, .int .u32 ad, .int .u32 area, .int .i64 cost, .int .i64 prio, .int .i64 hel, .int .i64 dead, .bool false, .int .u32 0, .int .u32 0, .int .i64 0, .int .i64 0, .slice none 0 0] 73)
    simpa using this
  have G0 : Hid (Gr w W0) := Lib.hid (by rw [← hW0]; exact ((Gr.refl _).alloc _).alloc _)
  have SN := Lib.hid (samenb_calls)
  have HW0 := Lib.hid hW0
  clear hW0
  have x0 : W0.cell? ⟨w.heap.size, 0, none⟩ = some (.int .i64 kind) := blk_cell x rfl
  have x1 : W0.cell? ⟨w.heap.size, 1, none⟩ = some (.int .u32 pa) := blk_cell x rfl
  have x2 : W0.cell? ⟨w.heap.size, 2, none⟩ = some (.int .i64 pl) := blk_cell x rfl
  have x3 : W0.cell? ⟨w.heap.size, 3, none⟩ = some (.int .u32 ad) := blk_cell x rfl
  have x4 : W0.cell? ⟨w.heap.size, 4, none⟩ = some (.int .u32 area) := blk_cell x rfl
  have x5 : W0.cell? ⟨w.heap.size, 5, none⟩ = some (.int .i64 cost) := blk_cell x rfl
  have x6 : W0.cell? ⟨w.heap.size, 6, none⟩ = some (.int .i64 prio) := blk_cell x rfl
  have x7 : W0.cell? ⟨w.heap.size, 7, none⟩ = some (.int .i64 hel) := blk_cell x rfl
  have x8 : W0.cell? ⟨w.heap.size, 8, none⟩ = some (.int .i64 dead) := blk_cell x rfl
  have x9 : W0.cell? ⟨w.heap.size, 9, none⟩ = some (.bool false) := blk_cell x rfl
  have x10 : W0.cell? ⟨w.heap.size, 10, none⟩ = some (.int .u32 0) := blk_cell x rfl
  have x11 : W0.cell? ⟨w.heap.size, 11, none⟩ = some (.int .u32 0) := blk_cell x rfl
  have x12 : W0.cell? ⟨w.heap.size, 12, none⟩ = some (.int .i64 0) := blk_cell x rfl
  have x13 : W0.cell? ⟨w.heap.size, 13, none⟩ = some (.int .i64 0) := blk_cell x rfl
  have x14 : W0.cell? ⟨w.heap.size, 14, none⟩ = some (.slice none 0 0) := blk_cell x rfl
  have y0 : W0.cell? ⟨w.heap.size + 1, 0, none⟩ = some (.int .i64 kind) := blk_cell y rfl
  have y1 : W0.cell? ⟨w.heap.size + 1, 1, none⟩ = some (.int .u32 pa) := blk_cell y rfl
  have y2 : W0.cell? ⟨w.heap.size + 1, 2, none⟩ = some (.int .i64 pl) := blk_cell y rfl
  have y3 : W0.cell? ⟨w.heap.size + 1, 3, none⟩ = some (.int .u32 ad) := blk_cell y rfl
  have y4 : W0.cell? ⟨w.heap.size + 1, 4, none⟩ = some (.int .u32 area) := blk_cell y rfl
  have y5 : W0.cell? ⟨w.heap.size + 1, 5, none⟩ = some (.int .i64 cost) := blk_cell y rfl
  have y6 : W0.cell? ⟨w.heap.size + 1, 6, none⟩ = some (.int .i64 prio) := blk_cell y rfl
  have y7 : W0.cell? ⟨w.heap.size + 1, 7, none⟩ = some (.int .i64 hel) := blk_cell y rfl
  have y8 : W0.cell? ⟨w.heap.size + 1, 8, none⟩ = some (.int .i64 dead) := blk_cell y rfl
  have y9 : W0.cell? ⟨w.heap.size + 1, 9, none⟩ = some (.bool false) := blk_cell y rfl
  have y10 : W0.cell? ⟨w.heap.size + 1, 10, none⟩ = some (.int .u32 0) := blk_cell y rfl
  have y11 : W0.cell? ⟨w.heap.size + 1, 11, none⟩ = some (.int .u32 0) := blk_cell y rfl
  have y12 : W0.cell? ⟨w.heap.size + 1, 12, none⟩ = some (.int .i64 0) := blk_cell y rfl
  have y13 : W0.cell? ⟨w.heap.size + 1, 13, none⟩ = some (.int .i64 0) := blk_cell y rfl
  have y14 : W0.cell? ⟨w.heap.size + 1, 14, none⟩ = some (.slice none 0 0) := blk_cell y rfl
  clear x y
  go_enter Tryz.func56, Tryz.ntmps56
  go_upto_region 1 with fail
  rw [HW0.out]
  go_wp2_with fail
  refine (SN.out _).mono ?_
  rintro e w1 ⟨rfl, G1⟩
  have FIN := Lib.hid (G0.out.trans G1)
  clear G1
  go_wp2_with fail
  go_ret
  exact ⟨rfl, FIN.out⟩

set_option maxHeartbeats 8000000 in
set_option maxRecDepth 100000 in
theorem samests_calls (w : World) (v u : Value) (l : List If9) (h : SlV 15 w v (l.map ifsE)) (g : SlV 15 w u (l.map ifsE)) : Calls Tryz.prog 29 #[v, u] w fun e w' => e = .returned (.bool true) ∧ Gr w w' := by
  have hlen := SlV.len h
  obtain ⟨a1, c1, rfl, -, -, -, k1⟩ := h
  obtain ⟨a2, c2, rfl, -, -, -, k2⟩ := g
  simp only [List.length_map] at k1 k2 hlen ⊢
  have K1 := Lib.hid k1
  have K2 := Lib.hid k2
  clear k1 k2
  have mixed : Tryz.prog.follows .mixedOrders = true := by kernel_rfl
  go_enter Tryz.func29, Tryz.ntmps29
  go_wp2_with fail
  go_loopw [5] (fun i wr => ∃ k : Nat, i = .int .i64 k ∧ k ≤ l.length ∧ Hid (Gr w wr)) (fun i _ => l.length - (intOf i).toNat)
  case atStart => exact ⟨0, rfl, Nat.zero_le _, Lib.hid (Gr.refl _)⟩
  case round =>
    obtain ⟨k, rfl, hk, R⟩ := hrel
    by_cases c : k < l.length
    · obtain ⟨b1, o1, rfl, q1, z1⟩ := K1.out (by omega)
      obtain ⟨b2, o2, rfl, q2, z2⟩ := K2.out (by omega)
      have z1 := z1 k (by simpa using c)
      have z2 := z2 k (by simpa using c)
      simp only [List.getElem_map] at z1 z2
      generalize l[k] = v at *
      have SC := Lib.hid (fun n os => (sameif_calls (Go.Sort.grow (wr.drewN n) os) v).mono fun _ _ h => (⟨h.1, h.2.grow⟩ : _ ∧ ∃ q os', _ = Go.Sort.grow (World.drewN _ q) os'))
      obtain ⟨kind, pa, pl, ad, area, cost, prio, hel, dead⟩ := v
      simp only [ifsE] at z1 z2 SC
      have x0 : ∀ n os, (Go.Sort.grow (wr.drewN n) os).cell? ⟨b1, o1 + k * 15, none⟩ = some (.int .i64 kind) := cell_grown (Nat.lt_of_lt_of_le q1 R.out.b.size) (bcell R.out.b (z1 0 _ rfl))
      have y0 : ∀ n os, (Go.Sort.grow (wr.drewN n) os).cell? ⟨b2, o2 + k * 15, none⟩ = some (.int .i64 kind) := cell_grown (Nat.lt_of_lt_of_le q2 R.out.b.size) (bcell R.out.b (z2 0 _ rfl))
      have x1 : ∀ n os, (Go.Sort.grow (wr.drewN n) os).cell? ⟨b1, o1 + k * 15 + 1, none⟩ = some (.int .u32 pa) := cell_grown (Nat.lt_of_lt_of_le q1 R.out.b.size) (bcell R.out.b (z1 1 _ rfl))
      have y1 : ∀ n os, (Go.Sort.grow (wr.drewN n) os).cell? ⟨b2, o2 + k * 15 + 1, none⟩ = some (.int .u32 pa) := cell_grown (Nat.lt_of_lt_of_le q2 R.out.b.size) (bcell R.out.b (z2 1 _ rfl))
      have x2 : ∀ n os, (Go.Sort.grow (wr.drewN n) os).cell? ⟨b1, o1 + k * 15 + 2, none⟩ = some (.int .i64 pl) := cell_grown (Nat.lt_of_lt_of_le q1 R.out.b.size) (bcell R.out.b (z1 2 _ rfl))
      have y2 : ∀ n os, (Go.Sort.grow (wr.drewN n) os).cell? ⟨b2, o2 + k * 15 + 2, none⟩ = some (.int .i64 pl) := cell_grown (Nat.lt_of_lt_of_le q2 R.out.b.size) (bcell R.out.b (z2 2 _ rfl))
      have x3 : ∀ n os, (Go.Sort.grow (wr.drewN n) os).cell? ⟨b1, o1 + k * 15 + 3, none⟩ = some (.int .u32 ad) := cell_grown (Nat.lt_of_lt_of_le q1 R.out.b.size) (bcell R.out.b (z1 3 _ rfl))
      have y3 : ∀ n os, (Go.Sort.grow (wr.drewN n) os).cell? ⟨b2, o2 + k * 15 + 3, none⟩ = some (.int .u32 ad) := cell_grown (Nat.lt_of_lt_of_le q2 R.out.b.size) (bcell R.out.b (z2 3 _ rfl))
      have x4 : ∀ n os, (Go.Sort.grow (wr.drewN n) os).cell? ⟨b1, o1 + k * 15 + 4, none⟩ = some (.int .u32 area) := cell_grown (Nat.lt_of_lt_of_le q1 R.out.b.size) (bcell R.out.b (z1 4 _ rfl))
      have y4 : ∀ n os, (Go.Sort.grow (wr.drewN n) os).cell? ⟨b2, o2 + k * 15 + 4, none⟩ = some (.int .u32 area) := cell_grown (Nat.lt_of_lt_of_le q2 R.out.b.size) (bcell R.out.b (z2 4 _ rfl))
      have x5 : ∀ n os, (Go.Sort.grow (wr.drewN n) os).cell? ⟨b1, o1 + k * 15 + 5, none⟩ = some (.int .i64 cost) := cell_grown (Nat.lt_of_lt_of_le q1 R.out.b.size) (bcell R.out.b (z1 5 _ rfl))
      have y5 : ∀ n os, (Go.Sort.grow (wr.drewN n) os).cell? ⟨b2, o2 + k * 15 + 5, none⟩ = some (.int .i64 cost) := cell_grown (Nat.lt_of_lt_of_le q2 R.out.b.size) (bcell R.out.b (z2 5 _ rfl))
      have x6 : ∀ n os, (Go.Sort.grow (wr.drewN n) os).cell? ⟨b1, o1 + k * 15 + 6, none⟩ = some (.int .i64 prio) := cell_grown (Nat.lt_of_lt_of_le q1 R.out.b.size) (bcell R.out.b (z1 6 _ rfl))
      have y6 : ∀ n os, (Go.Sort.grow (wr.drewN n) os).cell? ⟨b2, o2 + k * 15 + 6, none⟩ = some (.int .i64 prio) := cell_grown (Nat.lt_of_lt_of_le q2 R.out.b.size) (bcell R.out.b (z2 6 _ rfl))
      have x7 : ∀ n os, (Go.Sort.grow (wr.drewN n) os).cell? ⟨b1, o1 + k * 15 + 7, none⟩ = some (.int .i64 hel) := cell_grown (Nat.lt_of_lt_of_le q1 R.out.b.size) (bcell R.out.b (z1 7 _ rfl))
      have y7 : ∀ n os, (Go.Sort.grow (wr.drewN n) os).cell? ⟨b2, o2 + k * 15 + 7, none⟩ = some (.int .i64 hel) := cell_grown (Nat.lt_of_lt_of_le q2 R.out.b.size) (bcell R.out.b (z2 7 _ rfl))
      have x8 : ∀ n os, (Go.Sort.grow (wr.drewN n) os).cell? ⟨b1, o1 + k * 15 + 8, none⟩ = some (.int .i64 dead) := cell_grown (Nat.lt_of_lt_of_le q1 R.out.b.size) (bcell R.out.b (z1 8 _ rfl))
      have y8 : ∀ n os, (Go.Sort.grow (wr.drewN n) os).cell? ⟨b2, o2 + k * 15 + 8, none⟩ = some (.int .i64 dead) := cell_grown (Nat.lt_of_lt_of_le q2 R.out.b.size) (bcell R.out.b (z2 8 _ rfl))
      have x9 : ∀ n os, (Go.Sort.grow (wr.drewN n) os).cell? ⟨b1, o1 + k * 15 + 9, none⟩ = some (.bool false) := cell_grown (Nat.lt_of_lt_of_le q1 R.out.b.size) (bcell R.out.b (z1 9 _ rfl))
      have y9 : ∀ n os, (Go.Sort.grow (wr.drewN n) os).cell? ⟨b2, o2 + k * 15 + 9, none⟩ = some (.bool false) := cell_grown (Nat.lt_of_lt_of_le q2 R.out.b.size) (bcell R.out.b (z2 9 _ rfl))
      have x10 : ∀ n os, (Go.Sort.grow (wr.drewN n) os).cell? ⟨b1, o1 + k * 15 + 10, none⟩ = some (.int .u32 0) := cell_grown (Nat.lt_of_lt_of_le q1 R.out.b.size) (bcell R.out.b (z1 10 _ rfl))
      have y10 : ∀ n os, (Go.Sort.grow (wr.drewN n) os).cell? ⟨b2, o2 + k * 15 + 10, none⟩ = some (.int .u32 0) := cell_grown (Nat.lt_of_lt_of_le q2 R.out.b.size) (bcell R.out.b (z2 10 _ rfl))
      have x11 : ∀ n os, (Go.Sort.grow (wr.drewN n) os).cell? ⟨b1, o1 + k * 15 + 11, none⟩ = some (.int .u32 0) := cell_grown (Nat.lt_of_lt_of_le q1 R.out.b.size) (bcell R.out.b (z1 11 _ rfl))
      have y11 : ∀ n os, (Go.Sort.grow (wr.drewN n) os).cell? ⟨b2, o2 + k * 15 + 11, none⟩ = some (.int .u32 0) := cell_grown (Nat.lt_of_lt_of_le q2 R.out.b.size) (bcell R.out.b (z2 11 _ rfl))
      have x12 : ∀ n os, (Go.Sort.grow (wr.drewN n) os).cell? ⟨b1, o1 + k * 15 + 12, none⟩ = some (.int .i64 0) := cell_grown (Nat.lt_of_lt_of_le q1 R.out.b.size) (bcell R.out.b (z1 12 _ rfl))
      have y12 : ∀ n os, (Go.Sort.grow (wr.drewN n) os).cell? ⟨b2, o2 + k * 15 + 12, none⟩ = some (.int .i64 0) := cell_grown (Nat.lt_of_lt_of_le q2 R.out.b.size) (bcell R.out.b (z2 12 _ rfl))
      have x13 : ∀ n os, (Go.Sort.grow (wr.drewN n) os).cell? ⟨b1, o1 + k * 15 + 13, none⟩ = some (.int .i64 0) := cell_grown (Nat.lt_of_lt_of_le q1 R.out.b.size) (bcell R.out.b (z1 13 _ rfl))
      have y13 : ∀ n os, (Go.Sort.grow (wr.drewN n) os).cell? ⟨b2, o2 + k * 15 + 13, none⟩ = some (.int .i64 0) := cell_grown (Nat.lt_of_lt_of_le q2 R.out.b.size) (bcell R.out.b (z2 13 _ rfl))
      have x14 : ∀ n os, (Go.Sort.grow (wr.drewN n) os).cell? ⟨b1, o1 + k * 15 + 14, none⟩ = some (.slice none 0 0) := cell_grown (Nat.lt_of_lt_of_le q1 R.out.b.size) (bcell R.out.b (z1 14 _ rfl))
      have y14 : ∀ n os, (Go.Sort.grow (wr.drewN n) os).cell? ⟨b2, o2 + k * 15 + 14, none⟩ = some (.slice none 0 0) := cell_grown (Nat.lt_of_lt_of_le q2 R.out.b.size) (bcell R.out.b (z2 14 _ rfl))
      clear z1 z2
      have NX : Hid (∀ n os, Gr w (Go.Sort.grow (wr.drewN n) os)) := Lib.hid (fun n os => R.out.trans (Gr.of_grow n os))
      have i0 : (0 : Int) ≤ (k : Int) := by omega
      have i1 : (k : Int) < (l.length : Int) := by omega
      have s3 : ((k : Int)).toNat = k := by omega
      go_wp2_with fail
      refine wp_region_quiet_grown (by assumption) (by kernel_rfl) ?_
      repeat (go_big_quiet_step ((go_at_call 56; with_reducible exact Calls.grown_of (SC.out _ _))))
      refine wpQuiet_nil ?_
      intro _ hw'
      obtain ⟨⟨nq, osq⟩, hw''⟩ := hw'
      subst hw''
      have NXz := Lib.hid (NX.out nq osq)
      clear SC x0 y0 x1 y1 x2 y2 x3 y3 x4 y4 x5 y5 x6 y6 x7 y7 x8 y8 x9 y9 x10 y10 x11 y11 x12 y12 x13 y13 x14 y14
      go_wp2_with fail
      go_roundw
      case rel => exact ⟨k + 1, by go_num, by omega, NXz⟩
      case measure => simp [intOf]; omega
    · have FIN := Lib.hid R.out
      clear R
      go_wp2_with fail
      go_ret
      exact ⟨rfl, FIN.out⟩

end Go.Proofs.YtombnejipaoinaaGreat
