/-
  lsa.Key, lsa.CompareKeys, and the comparison of inter.Summaries.
-/
import Derived.Test.YtogdconliofblaaGreatLkk
import Derived.Test.YtogdconliofblaaGreatCmr
import Derived.Test.YtogdconliofblaaGreatHed
import Derived.Deep.DeepCutAuto
namespace Go.Proofs.YtogdconliofblaaGreat
open Go.RowKit

set_option maxHeartbeats 1000000 in
theorem pkey_calls (t id len r seq age sum : Int) (w : World) : Calls Tryz.prog 40 #[.agg #[.int .i64 t, .int .u32 id, .int .i64 len, .int .u32 r, .int .i64 seq, .int .i64 age, .int .i64 sum]] w fun e w' => e = .returned (.agg (keyE ⟨t, id, len, r⟩).toArray) ∧ Gr w w' := by
  go_enter Tryz.func40, Tryz.ntmps40
  go_wp2_with fail
  exact bodyPost_ret (v := .agg #[.int .i64 t, .int .u32 id, .int .i64 len, .int .u32 r]) (by simp [results, Tryz.results40, go_sem]) rfl ⟨rfl, by repeat (first | exact Gr.refl _ | refine Gr.drew ?_ | refine Gr.alloc ?_ _ | refine Gr.setCell ?_ (by simp) _)⟩

set_option maxHeartbeats 2000000 in
theorem pckeys_calls (a b : Kk) (w : World) : Calls Tryz.prog 39 #[.agg (keyE a).toArray, .agg (keyE b).toArray] w fun e w' => e = .returned (.int .i64 (kkCmp a b)) ∧ Gr w w' := by
  obtain ⟨a1, a2, a3, a4⟩ := a
  obtain ⟨b1, b2, b3, b4⟩ := b
  unfold keyE kkCmp
  generalize hx1 : cmpI a1 b1 = x1
  generalize hx2 : cmpI a2 b2 = x2
  generalize hx3 : cmpI a3 b3 = x3
  generalize hx4 : cmpI a4 b4 = x4
  have X1 := Lib.hid hx1
  have X2 := Lib.hid hx2
  have X3 := Lib.hid hx3
  have X4 := Lib.hid hx4
  clear hx1 hx2 hx3 hx4
  go_enter Tryz.func39, Tryz.ntmps39
  go_wp2_with fail
  go_region_held3 (fun W' => W'.cell? ⟨w.heap.size, 0, none⟩ = some (.int .i64 a1) ∧ W'.cell? ⟨w.heap.size, 1, none⟩ = some (.int .u32 a2) ∧ W'.cell? ⟨w.heap.size, 2, none⟩ = some (.int .i64 a3) ∧ W'.cell? ⟨w.heap.size, 3, none⟩ = some (.int .u32 a4) ∧ W'.cell? ⟨w.heap.size + 1, 0, none⟩ = some (.int .i64 b1) ∧ W'.cell? ⟨w.heap.size + 1, 1, none⟩ = some (.int .u32 b2) ∧ W'.cell? ⟨w.heap.size + 1, 2, none⟩ = some (.int .i64 b3) ∧ W'.cell? ⟨w.heap.size + 1, 3, none⟩ = some (.int .u32 b4)) (go_keep)
    (first
    | (go_at_call 58; refine (cmp_int _ _ _).mono ?_; rintro e w' ⟨rfl, rfl⟩; first | rw [X1.out] | rw [X3.out])
    | (go_at_call 78; refine (cmp_u32 _ _ _).mono ?_; rintro e w' ⟨rfl, rfl⟩; first | rw [X2.out] | rw [X4.out])
    | (go_at_call 57; refine (or_int [x1, x2, x3, x4] _ _ _ (by simp) ?_).mono ?_; (exact fun _ => ⟨_, 0, rfl, fun i hi => by match i, hi with | 0, _ => exact new_cell (by simp) rfl | 1, _ => exact new_cell (by simp) rfl | 2, _ => exact new_cell (by simp) rfl | 3, _ => exact new_cell (by simp) rfl⟩); rintro e w' ⟨rfl, rfl⟩))
  go_wp2_with fail
  go_ret
  exact ⟨rfl, by repeat (first | exact Gr.refl _ | refine Gr.drew ?_ | refine Gr.alloc ?_ _ | refine Gr.drewN ?_ _)⟩

set_option maxHeartbeats 4000000 in
set_option maxRecDepth 100000 in
theorem border_calls (x y : Lsa) (w : World) : Calls Tryz.prog 38 #[.agg (lsaE x).toArray, .agg (lsaE y).toArray] w fun e w' => e = .returned (.int .i64 (kkCmp (lkOf x) (lkOf y))) ∧ Gr w w' := by
  have CK := Lib.hid (fun W => (pckeys_calls (lkOf x) (lkOf y) W).mono fun _ _ h => (⟨h.1, h.2.grow⟩ : _ ∧ ∃ q os, _ = Go.Sort.grow (World.drewN W q) os))
  have K1 := Lib.hid (fun W => (pkey_calls x.typ x.id x.len x.router x.seq x.age x.sum W).mono fun _ _ h => (⟨h.1, h.2.grow⟩ : _ ∧ ∃ q os, _ = Go.Sort.grow (World.drewN W q) os))
  have K2 := Lib.hid (fun W => (pkey_calls y.typ y.id y.len y.router y.seq y.age y.sum W).mono fun _ _ h => (⟨h.1, h.2.grow⟩ : _ ∧ ∃ q os, _ = Go.Sort.grow (World.drewN W q) os))
  generalize kkCmp (lkOf x) (lkOf y) = cv at *
  simp only [keyE, lkOf] at CK K1 K2
  have mixed : Tryz.prog.follows .mixedOrders = true := by kernel_rfl
  obtain ⟨W0, hW0⟩ : ∃ W0, (w.alloc (.cells (lsaE x).toArray 47)).alloc (.cells (lsaE y).toArray 47) = W0 := ⟨_, rfl⟩
  have b0 : W0.heap[w.heap.size]? = some (.cells (lsaE x).toArray 47 (0, 0)) := by rw [← hW0]; exact (alloc_get _ _ _ (by simp)).trans (alloc_new w _)
  have b1 : W0.heap[w.heap.size + 1]? = some (.cells (lsaE y).toArray 47 (0, 0)) := by rw [← hW0]; exact blk_new2 w _ _
  have G0 : Hid (Gr w W0) := Lib.hid (by rw [← hW0]; exact ((Gr.refl _).alloc _).alloc _)
  obtain ⟨xtyp, xid, xlen, xrouter, xseq, xage, xsum, xborder, xboundary, xla, xln, xlc, xaa, xan, xac, xcost, xsecond, xfwd, xtag⟩ := x
  obtain ⟨ytyp, yid, ylen, yrouter, yseq, yage, ysum, yborder, yboundary, yla, yln, ylc, yaa, yan, yac, ycost, ysecond, yfwd, ytag⟩ := y
  simp only [lsaE] at *
  obtain ⟨⟨⟨d0, d1, d2, d3, d4⟩, ⟨d5, d6, -, -, -⟩, -⟩, -⟩ := blk15 b0
  obtain ⟨⟨⟨e0, e1, e2, e3, e4⟩, ⟨e5, e6, -, -, -⟩, -⟩, -⟩ := blk15 b1
  have y0 : ∀ n os, (Go.Sort.grow (W0.drewN n) os).cell? ⟨w.heap.size, 0, none⟩ = some (.int .i64 xtyp) := cell_grown (World.block_lt_of_cell? _ _ d0) d0
  have y1 : ∀ n os, (Go.Sort.grow (W0.drewN n) os).cell? ⟨w.heap.size, 1, none⟩ = some (.int .u32 xid) := cell_grown (World.block_lt_of_cell? _ _ d1) d1
  have y2 : ∀ n os, (Go.Sort.grow (W0.drewN n) os).cell? ⟨w.heap.size, 2, none⟩ = some (.int .i64 xlen) := cell_grown (World.block_lt_of_cell? _ _ d2) d2
  have y3 : ∀ n os, (Go.Sort.grow (W0.drewN n) os).cell? ⟨w.heap.size, 3, none⟩ = some (.int .u32 xrouter) := cell_grown (World.block_lt_of_cell? _ _ d3) d3
  have y4 : ∀ n os, (Go.Sort.grow (W0.drewN n) os).cell? ⟨w.heap.size, 4, none⟩ = some (.int .i64 xseq) := cell_grown (World.block_lt_of_cell? _ _ d4) d4
  have y5 : ∀ n os, (Go.Sort.grow (W0.drewN n) os).cell? ⟨w.heap.size, 5, none⟩ = some (.int .i64 xage) := cell_grown (World.block_lt_of_cell? _ _ d5) d5
  have y6 : ∀ n os, (Go.Sort.grow (W0.drewN n) os).cell? ⟨w.heap.size, 6, none⟩ = some (.int .i64 xsum) := cell_grown (World.block_lt_of_cell? _ _ d6) d6
  have z0 : ∀ n os, (Go.Sort.grow (W0.drewN n) os).cell? ⟨w.heap.size + 1, 0, none⟩ = some (.int .i64 ytyp) := cell_grown (World.block_lt_of_cell? _ _ e0) e0
  have z1 : ∀ n os, (Go.Sort.grow (W0.drewN n) os).cell? ⟨w.heap.size + 1, 1, none⟩ = some (.int .u32 yid) := cell_grown (World.block_lt_of_cell? _ _ e1) e1
  have z2 : ∀ n os, (Go.Sort.grow (W0.drewN n) os).cell? ⟨w.heap.size + 1, 2, none⟩ = some (.int .i64 ylen) := cell_grown (World.block_lt_of_cell? _ _ e2) e2
  have z3 : ∀ n os, (Go.Sort.grow (W0.drewN n) os).cell? ⟨w.heap.size + 1, 3, none⟩ = some (.int .u32 yrouter) := cell_grown (World.block_lt_of_cell? _ _ e3) e3
  have z4 : ∀ n os, (Go.Sort.grow (W0.drewN n) os).cell? ⟨w.heap.size + 1, 4, none⟩ = some (.int .i64 yseq) := cell_grown (World.block_lt_of_cell? _ _ e4) e4
  have z5 : ∀ n os, (Go.Sort.grow (W0.drewN n) os).cell? ⟨w.heap.size + 1, 5, none⟩ = some (.int .i64 yage) := cell_grown (World.block_lt_of_cell? _ _ e5) e5
  have z6 : ∀ n os, (Go.Sort.grow (W0.drewN n) os).cell? ⟨w.heap.size + 1, 6, none⟩ = some (.int .i64 ysum) := cell_grown (World.block_lt_of_cell? _ _ e6) e6
  have HW0 := Lib.hid hW0
  clear hW0 b0 b1 d0 e0 d1 e1 d2 e2 d3 e3 d4 e4 d5 e5 d6 e6
  go_enter Tryz.func38, Tryz.ntmps38
  go_upto_region 1 with fail
  rw [HW0.out]
  refine wp_region_quiet_grown (by assumption) (by kernel_rfl) ?_
  repeat (go_big_quiet_step (first | (go_at_call 40; first | with_reducible exact Calls.grown_of (K1.out _) | with_reducible exact Calls.grown_of (K2.out _)) | (go_at_call 39; with_reducible exact Calls.grown_of (CK.out _))))
  refine wpQuiet_nil ?_
  intro _ hw'
  obtain ⟨⟨nq, osq⟩, hw''⟩ := hw'
  subst hw''
  have FIN : Hid (Gr w (Go.Sort.grow (W0.drewN nq) osq)) := Lib.hid (G0.out.trans (Gr.of_grow nq osq))
  clear y0 y1 y2 y3 y4 y5 y6 z0 z1 z2 z3 z4 z5 z6 K1 K2 CK
  go_wp2_with fail
  go_ret
  exact ⟨rfl, FIN.out⟩

end Go.Proofs.YtogdconliofblaaGreat
