/-
  routingref23.SameBody, Same, routingref25.Equal: of equal rows (without links and routers) they tell true.
-/
import Derived.Test.YtogdconliofblaaGreatLkk
import Derived.Test.YtogdconliofblaaGreatHed
import Derived.Test.YtogdconliofblaaGreatCmr
import Derived.Deep.DeepCutAuto
namespace Go.Proofs.YtogdconliofblaaGreat
open Go.RowKit

theorem eqKeyS (t id len r : Int) (w : World) : (binOp .neq 66 (.agg #[.int .i64 t, .int .u32 id, .int .i64 len, .int .u32 r]) (.agg #[.int .i64 t, .int .u32 id, .int .i64 len, .int .u32 r])).run Tryz.prog w = .ok (.bool false) w := by
  have u3 := Tryz.underlying3
  have u22 := Tryz.underlying22
  have a3 := Tryz.isAgg3
  have z3 := Tryz.sizeOf3
  have a22 := Tryz.isAgg22
  have z22 := Tryz.sizeOf22
  have hS : Tryz.prog.underlying 66 = some (.struct (Tryz.prog.fieldsOf 66)) := by kernel_rfl
  have hp : Tryz.prog.stoodInHeld 66 = false := by kernel_rfl
  have h : (binOp .eql 66 (.agg #[.int .i64 t, .int .u32 id, .int .i64 len, .int .u32 r]) (.agg #[.int .i64 t, .int .u32 id, .int .i64 len, .int .u32 r])).run Tryz.prog w = .ok (.bool true) w := by
    rw [run_eql_struct, show (10000 : Nat) = 9999 + 1 from rfl, run_equalIn_agg w 9999 66 _ _ hS hp]
    simp only [Program.fieldsOf, Tryz.underlying66]
    go_simp
  simp only [binOp] at h ⊢
  revert h
  simp only [Sem.run_bind, Sem.run_pure]
  cases (Op.equal 66 (.agg #[.int .i64 t, .int .u32 id, .int .i64 len, .int .u32 r]) (.agg #[.int .i64 t, .int .u32 id, .int .i64 len, .int .u32 r])).run Tryz.prog w <;> simp

theorem eqHeadS (t id len r seq age sum : Int) (w : World) : (binOp .eql 42 (.agg #[.int .i64 t, .int .u32 id, .int .i64 len, .int .u32 r, .int .i64 seq, .int .i64 age, .int .i64 sum]) (.agg #[.int .i64 t, .int .u32 id, .int .i64 len, .int .u32 r, .int .i64 seq, .int .i64 age, .int .i64 sum])).run Tryz.prog w = .ok (.bool true) w := by
  have u3 := Tryz.underlying3
  have u22 := Tryz.underlying22
  have a3 := Tryz.isAgg3
  have z3 := Tryz.sizeOf3
  have a22 := Tryz.isAgg22
  have z22 := Tryz.sizeOf22
  have hS : Tryz.prog.underlying 42 = some (.struct (Tryz.prog.fieldsOf 42)) := by kernel_rfl
  have hp : Tryz.prog.stoodInHeld 42 = false := by kernel_rfl
  rw [run_eql_struct, show (10000 : Nat) = 9999 + 1 from rfl, run_equalIn_agg w 9999 42 _ _ hS hp]
  simp only [Program.fieldsOf, Tryz.underlying42]
  go_simp

set_option maxHeartbeats 8000000 in
set_option maxRecDepth 100000 in
theorem samebody_calls (x : Lsa) (h1 : x.ln = 0) (h2 : x.an = 0) (w : World) : Calls Tryz.prog 73 #[.agg (lsaE x).toArray, .agg (lsaE x).toArray] w fun e w' => e = .returned (.bool true) ∧ Gr w w' := by
  obtain ⟨xtyp, xid, xlen, xrouter, xseq, xage, xsum, xborder, xboundary, xla, xln, xlc, xaa, xan, xac, xcost, xsecond, xfwd, xtag⟩ := x
  simp only at h1 h2
  subst h1 h2
  have NE := eqKeyS xtyp xid xlen xrouter
  have K1 := Lib.hid (fun W => (key_calls xtyp xid xlen xrouter xseq xage xsum W).mono fun _ _ h => (⟨h.1, h.2.grow⟩ : _ ∧ ∃ q os, _ = Go.Sort.grow (World.drewN W q) os))
  have mixed : Tryz.prog.follows .mixedOrders = true := by kernel_rfl
  simp only [lsaE]
  simp only [keyE] at K1
  obtain ⟨W0, hW0⟩ : ∃ W0, (w.alloc (.cells #[.int .i64 xtyp, .int .u32 xid, .int .i64 xlen, .int .u32 xrouter, .int .i64 xseq, .int .i64 xage, .int .i64 xsum, .bool xborder, .bool xboundary, .slice xla 0 xlc, .slice xaa 0 xac, .int .i64 xcost, .bool xsecond, .int .u32 xfwd, .int .i64 xtag] 47)).alloc (.cells #[.int .i64 xtyp, .int .u32 xid, .int .i64 xlen, .int .u32 xrouter, .int .i64 xseq, .int .i64 xage, .int .i64 xsum, .bool xborder, .bool xboundary, .slice xla 0 xlc, .slice xaa 0 xac, .int .i64 xcost, .bool xsecond, .int .u32 xfwd, .int .i64 xtag] 47) = W0 := ⟨_, rfl⟩
  have b0 : W0.heap[w.heap.size]? = some (.cells #[.int .i64 xtyp, .int .u32 xid, .int .i64 xlen, .int .u32 xrouter, .int .i64 xseq, .int .i64 xage, .int .i64 xsum, .bool xborder, .bool xboundary, .slice xla 0 xlc, .slice xaa 0 xac, .int .i64 xcost, .bool xsecond, .int .u32 xfwd, .int .i64 xtag] 47 (0, 0)) := by rw [← hW0]; exact (alloc_get _ _ _ (by simp)).trans (alloc_new w _)
  have b1 : W0.heap[w.heap.size + 1]? = some (.cells #[.int .i64 xtyp, .int .u32 xid, .int .i64 xlen, .int .u32 xrouter, .int .i64 xseq, .int .i64 xage, .int .i64 xsum, .bool xborder, .bool xboundary, .slice xla 0 xlc, .slice xaa 0 xac, .int .i64 xcost, .bool xsecond, .int .u32 xfwd, .int .i64 xtag] 47 (0, 0)) := by rw [← hW0]; exact blk_new2 w _ _
  have G0 : Hid (Gr w W0) := Lib.hid (by rw [← hW0]; exact ((Gr.refl _).alloc _).alloc _)
  have HW0 := Lib.hid hW0
  clear hW0
  obtain ⟨⟨⟨d0, d1, d2, d3, d4⟩, ⟨d5, d6, d7, d8, d9⟩, ⟨d10, d11, d12, d13, d14⟩⟩, -⟩ := blk15 b0
  obtain ⟨⟨⟨e0, e1, e2, e3, e4⟩, ⟨e5, e6, e7, e8, e9⟩, ⟨e10, e11, e12, e13, e14⟩⟩, -⟩ := blk15 b1
  have B0 := Lib.hid b0
  have B1 := Lib.hid b1
  clear b0 b1
  go_enter Tryz.func73, Tryz.ntmps73
  go_upto_region 1 with fail
  rw [HW0.out]
  clear HW0
  have p0 : ∀ n os, (Go.Sort.grow (W0.drewN n) os).cell? ⟨w.heap.size, 0, none⟩ = some (.int .i64 xtyp) := cell_grown (World.block_lt_of_cell? _ _ d0) d0
  have p1 : ∀ n os, (Go.Sort.grow (W0.drewN n) os).cell? ⟨w.heap.size, 1, none⟩ = some (.int .u32 xid) := cell_grown (World.block_lt_of_cell? _ _ d1) d1
  have p2 : ∀ n os, (Go.Sort.grow (W0.drewN n) os).cell? ⟨w.heap.size, 2, none⟩ = some (.int .i64 xlen) := cell_grown (World.block_lt_of_cell? _ _ d2) d2
  have p3 : ∀ n os, (Go.Sort.grow (W0.drewN n) os).cell? ⟨w.heap.size, 3, none⟩ = some (.int .u32 xrouter) := cell_grown (World.block_lt_of_cell? _ _ d3) d3
  have p4 : ∀ n os, (Go.Sort.grow (W0.drewN n) os).cell? ⟨w.heap.size, 4, none⟩ = some (.int .i64 xseq) := cell_grown (World.block_lt_of_cell? _ _ d4) d4
  have p5 : ∀ n os, (Go.Sort.grow (W0.drewN n) os).cell? ⟨w.heap.size, 5, none⟩ = some (.int .i64 xage) := cell_grown (World.block_lt_of_cell? _ _ d5) d5
  have p6 : ∀ n os, (Go.Sort.grow (W0.drewN n) os).cell? ⟨w.heap.size, 6, none⟩ = some (.int .i64 xsum) := cell_grown (World.block_lt_of_cell? _ _ d6) d6
  have p7 : ∀ n os, (Go.Sort.grow (W0.drewN n) os).cell? ⟨w.heap.size, 7, none⟩ = some (.bool xborder) := cell_grown (World.block_lt_of_cell? _ _ d7) d7
  have p8 : ∀ n os, (Go.Sort.grow (W0.drewN n) os).cell? ⟨w.heap.size, 8, none⟩ = some (.bool xboundary) := cell_grown (World.block_lt_of_cell? _ _ d8) d8
  have p9 : ∀ n os, (Go.Sort.grow (W0.drewN n) os).cell? ⟨w.heap.size, 9, none⟩ = some (.slice xla 0 xlc) := cell_grown (World.block_lt_of_cell? _ _ d9) d9
  have p10 : ∀ n os, (Go.Sort.grow (W0.drewN n) os).cell? ⟨w.heap.size, 10, none⟩ = some (.slice xaa 0 xac) := cell_grown (World.block_lt_of_cell? _ _ d10) d10
  have p11 : ∀ n os, (Go.Sort.grow (W0.drewN n) os).cell? ⟨w.heap.size, 11, none⟩ = some (.int .i64 xcost) := cell_grown (World.block_lt_of_cell? _ _ d11) d11
  have p12 : ∀ n os, (Go.Sort.grow (W0.drewN n) os).cell? ⟨w.heap.size, 12, none⟩ = some (.bool xsecond) := cell_grown (World.block_lt_of_cell? _ _ d12) d12
  have p13 : ∀ n os, (Go.Sort.grow (W0.drewN n) os).cell? ⟨w.heap.size, 13, none⟩ = some (.int .u32 xfwd) := cell_grown (World.block_lt_of_cell? _ _ d13) d13
  have p14 : ∀ n os, (Go.Sort.grow (W0.drewN n) os).cell? ⟨w.heap.size, 14, none⟩ = some (.int .i64 xtag) := cell_grown (World.block_lt_of_cell? _ _ d14) d14
  have q0 : ∀ n os, (Go.Sort.grow (W0.drewN n) os).cell? ⟨w.heap.size + 1, 0, none⟩ = some (.int .i64 xtyp) := cell_grown (World.block_lt_of_cell? _ _ e0) e0
  have q1 : ∀ n os, (Go.Sort.grow (W0.drewN n) os).cell? ⟨w.heap.size + 1, 1, none⟩ = some (.int .u32 xid) := cell_grown (World.block_lt_of_cell? _ _ e1) e1
  have q2 : ∀ n os, (Go.Sort.grow (W0.drewN n) os).cell? ⟨w.heap.size + 1, 2, none⟩ = some (.int .i64 xlen) := cell_grown (World.block_lt_of_cell? _ _ e2) e2
  have q3 : ∀ n os, (Go.Sort.grow (W0.drewN n) os).cell? ⟨w.heap.size + 1, 3, none⟩ = some (.int .u32 xrouter) := cell_grown (World.block_lt_of_cell? _ _ e3) e3
  have q4 : ∀ n os, (Go.Sort.grow (W0.drewN n) os).cell? ⟨w.heap.size + 1, 4, none⟩ = some (.int .i64 xseq) := cell_grown (World.block_lt_of_cell? _ _ e4) e4
  have q5 : ∀ n os, (Go.Sort.grow (W0.drewN n) os).cell? ⟨w.heap.size + 1, 5, none⟩ = some (.int .i64 xage) := cell_grown (World.block_lt_of_cell? _ _ e5) e5
  have q6 : ∀ n os, (Go.Sort.grow (W0.drewN n) os).cell? ⟨w.heap.size + 1, 6, none⟩ = some (.int .i64 xsum) := cell_grown (World.block_lt_of_cell? _ _ e6) e6
  have q7 : ∀ n os, (Go.Sort.grow (W0.drewN n) os).cell? ⟨w.heap.size + 1, 7, none⟩ = some (.bool xborder) := cell_grown (World.block_lt_of_cell? _ _ e7) e7
  have q8 : ∀ n os, (Go.Sort.grow (W0.drewN n) os).cell? ⟨w.heap.size + 1, 8, none⟩ = some (.bool xboundary) := cell_grown (World.block_lt_of_cell? _ _ e8) e8
  have q9 : ∀ n os, (Go.Sort.grow (W0.drewN n) os).cell? ⟨w.heap.size + 1, 9, none⟩ = some (.slice xla 0 xlc) := cell_grown (World.block_lt_of_cell? _ _ e9) e9
  have q10 : ∀ n os, (Go.Sort.grow (W0.drewN n) os).cell? ⟨w.heap.size + 1, 10, none⟩ = some (.slice xaa 0 xac) := cell_grown (World.block_lt_of_cell? _ _ e10) e10
  have q11 : ∀ n os, (Go.Sort.grow (W0.drewN n) os).cell? ⟨w.heap.size + 1, 11, none⟩ = some (.int .i64 xcost) := cell_grown (World.block_lt_of_cell? _ _ e11) e11
  have q12 : ∀ n os, (Go.Sort.grow (W0.drewN n) os).cell? ⟨w.heap.size + 1, 12, none⟩ = some (.bool xsecond) := cell_grown (World.block_lt_of_cell? _ _ e12) e12
  have q13 : ∀ n os, (Go.Sort.grow (W0.drewN n) os).cell? ⟨w.heap.size + 1, 13, none⟩ = some (.int .u32 xfwd) := cell_grown (World.block_lt_of_cell? _ _ e13) e13
  have q14 : ∀ n os, (Go.Sort.grow (W0.drewN n) os).cell? ⟨w.heap.size + 1, 14, none⟩ = some (.int .i64 xtag) := cell_grown (World.block_lt_of_cell? _ _ e14) e14
  clear d0 d1 d2 d3 d4 d5 d6 d7 d8 d9 d10 d11 d12 d13 d14 e0 e1 e2 e3 e4 e5 e6 e7 e8 e9 e10 e11 e12 e13 e14
  go_wp2_with fail
  refine wp_region_quiet_grown (by assumption) (by kernel_rfl) ?_
  dsimp only [List.append]
  repeat (go_big_quiet_step ((go_at_call 79; with_reducible exact Calls.grown_of (K1.out _))))
  refine wpQuiet_nil ?_
  intro _ hw'
  obtain ⟨⟨nq, osq⟩, hw''⟩ := hw'
  subst hw''
  clear p0 p1 p2 p3 p4 p5 p6 p7 p8 p9 p10 p11 p12 p13 p14 q0 q1 q2 q3 q4 q5 q6 q7 q8 q9 q10 q11 q12 q13 q14 K1
  generalize hw2 : Go.Sort.grow (W0.drewN nq) osq = w2
  have G2 : Gr W0 w2 := by rw [← hw2]; exact Gr.of_grow nq osq
  have HG2 := Lib.hid (G0.out.trans G2)
  have b0 := (G2.b.block w.heap.size (blk_lt B0.out)).trans B0.out
  have b1 := (G2.b.block (w.heap.size + 1) (blk_lt B1.out)).trans B1.out
  clear hw2 G2 B0 B1
  obtain ⟨⟨⟨d0, d1, d2, d3, d4⟩, ⟨d5, d6, d7, d8, d9⟩, ⟨d10, d11, d12, d13, d14⟩⟩, -⟩ := blk15 b0
  obtain ⟨⟨⟨e0, e1, e2, e3, e4⟩, ⟨e5, e6, e7, e8, e9⟩, ⟨e10, e11, e12, e13, e14⟩⟩, -⟩ := blk15 b1
  clear b0 b1
  go_wp2_with fail
  go_loopw [5] (fun ix wr => ix = .int .i64 0 ∧ wr = w2) (fun ix _ => 0)
  case atStart => exact ⟨rfl, rfl⟩
  case round =>
    obtain ⟨rfl, rfl⟩ := hrel
    go_wp2_with fail
    go_loopw [6] (fun ix wx => ix = .int .i64 0 ∧ wx = wr) (fun ix _ => 0)
    case atStart => exact ⟨rfl, rfl⟩
    case round =>
      obtain ⟨rfl, rfl⟩ := hrel
      go_wp2_with fail
      go_ret
      exact ⟨rfl, HG2.out⟩

set_option maxHeartbeats 8000000 in
set_option maxRecDepth 100000 in
theorem same_calls (x : Lsa) (h1 : x.ln = 0) (h2 : x.an = 0) (w : World) : Calls Tryz.prog 33 #[.agg (lsaE x).toArray, .agg (lsaE x).toArray] w fun e w' => e = .returned (.bool true) ∧ Gr w w' := by
  have SB := Lib.hid (fun W => samebody_calls x h1 h2 W)
  clear h1 h2
  obtain ⟨xtyp, xid, xlen, xrouter, xseq, xage, xsum, xborder, xboundary, xla, xln, xlc, xaa, xan, xac, xcost, xsecond, xfwd, xtag⟩ := x
  have EH := eqHeadS xtyp xid xlen xrouter xseq xage xsum
  simp only [lsaE] at SB ⊢
  obtain ⟨W0, hW0⟩ : ∃ W0, (w.alloc (.cells #[.int .i64 xtyp, .int .u32 xid, .int .i64 xlen, .int .u32 xrouter, .int .i64 xseq, .int .i64 xage, .int .i64 xsum, .bool xborder, .bool xboundary, .slice xla xln xlc, .slice xaa xan xac, .int .i64 xcost, .bool xsecond, .int .u32 xfwd, .int .i64 xtag] 47)).alloc (.cells #[.int .i64 xtyp, .int .u32 xid, .int .i64 xlen, .int .u32 xrouter, .int .i64 xseq, .int .i64 xage, .int .i64 xsum, .bool xborder, .bool xboundary, .slice xla xln xlc, .slice xaa xan xac, .int .i64 xcost, .bool xsecond, .int .u32 xfwd, .int .i64 xtag] 47) = W0 := ⟨_, rfl⟩
  have b0 : W0.heap[w.heap.size]? = some (.cells #[.int .i64 xtyp, .int .u32 xid, .int .i64 xlen, .int .u32 xrouter, .int .i64 xseq, .int .i64 xage, .int .i64 xsum, .bool xborder, .bool xboundary, .slice xla xln xlc, .slice xaa xan xac, .int .i64 xcost, .bool xsecond, .int .u32 xfwd, .int .i64 xtag] 47 (0, 0)) := by rw [← hW0]; exact (alloc_get _ _ _ (by simp)).trans (alloc_new w _)
  have b1 : W0.heap[w.heap.size + 1]? = some (.cells #[.int .i64 xtyp, .int .u32 xid, .int .i64 xlen, .int .u32 xrouter, .int .i64 xseq, .int .i64 xage, .int .i64 xsum, .bool xborder, .bool xboundary, .slice xla xln xlc, .slice xaa xan xac, .int .i64 xcost, .bool xsecond, .int .u32 xfwd, .int .i64 xtag] 47 (0, 0)) := by rw [← hW0]; exact blk_new2 w _ _
  have G0 : Hid (Gr w W0) := Lib.hid (by rw [← hW0]; exact ((Gr.refl _).alloc _).alloc _)
  have HW0 := Lib.hid hW0
  clear hW0
  obtain ⟨⟨⟨d0, d1, d2, d3, d4⟩, ⟨d5, d6, d7, d8, d9⟩, ⟨d10, d11, d12, d13, d14⟩⟩, -⟩ := blk15 b0
  obtain ⟨⟨⟨e0, e1, e2, e3, e4⟩, ⟨e5, e6, e7, e8, e9⟩, ⟨e10, e11, e12, e13, e14⟩⟩, -⟩ := blk15 b1
  clear b0 b1
  go_enter Tryz.func33, Tryz.ntmps33
  go_upto_region 1 with fail
  rw [HW0.out]
  clear HW0
  go_wp2_with fail
  refine (SB.out _).mono ?_
  rintro e w1 ⟨rfl, G1⟩
  have FIN := Lib.hid (G0.out.trans G1)
  clear G1
  go_wp2_with fail
  go_ret
  exact ⟨rfl, FIN.out⟩

set_option maxHeartbeats 8000000 in
set_option maxRecDepth 100000 in
theorem equal_calls (w : World) (v1 v2 : Value) (l : List Lsa) (h1 : LsasAt w v1 l) (h2 : LsasAt w v2 l) (hz : ∀ x ∈ l, x.ln = 0 ∧ x.an = 0) : Calls Tryz.prog 11 #[v1, v2] w fun e w' => e = .returned (.bool true) ∧ Gr w w' := by
  obtain ⟨a1, c1, rfl, hlen, hc1⟩ := h1.get
  obtain ⟨a2, c2, rfl, -, hc2⟩ := h2.get
  have HC1 := Lib.hid hc1
  have HC2 := Lib.hid hc2
  have SC := Lib.hid (fun k (c : k < l.length) W => (same_calls l[k] (hz _ (List.getElem_mem c)).1 (hz _ (List.getElem_mem c)).2 W).mono fun _ _ h => (⟨h.1, h.2.grow⟩ : _ ∧ ∃ q os', _ = Go.Sort.grow (World.drewN _ q) os'))
  have mixed : Tryz.prog.follows .mixedOrders = true := by kernel_rfl
  clear h1 h2 hc1 hc2 hz
  go_enter Tryz.func11, Tryz.ntmps11
  go_wp2_with fail
  go_loopw [5] (fun i wr => ∃ k : Nat, i = .int .i64 k ∧ k ≤ l.length ∧ Hid (Gr w wr)) (fun i _ => l.length - (intOf i).toNat)
  case atStart => exact ⟨0, rfl, Nat.zero_le _, Lib.hid (Gr.refl _)⟩
  case round =>
    obtain ⟨k, rfl, hk, R⟩ := hrel
    by_cases c : k < l.length
    · obtain ⟨b1, o1, rfl, hb1, hcc1⟩ := HC1.out (by omega)
      obtain ⟨b2, o2, rfl, hb2, hcc2⟩ := HC2.out (by omega)
      obtain ⟨⟨d0, d1, d2, d3, d4⟩, ⟨d5, d6, d7, d8, d9⟩, ⟨d10, d11, d12, d13, d14⟩⟩ := (hcc1 k c).below R.out.b hb1
      obtain ⟨⟨e0, e1, e2, e3, e4⟩, ⟨e5, e6, e7, e8, e9⟩, ⟨e10, e11, e12, e13, e14⟩⟩ := (hcc2 k c).below R.out.b hb2
      have SC2 := Lib.hid (SC.out k c)
      have NX : Hid (∀ n os, Gr w (Go.Sort.grow (wr.drewN n) os)) := Lib.hid (fun n os => R.out.trans (Gr.of_grow n os))
      have KC := Lib.hid c
      have i0 : (0 : Int) ≤ (k : Int) := by omega
      have i1 : (k : Int) < (l.length : Int) := by omega
      have s3 : ((k : Int)).toNat = k := by omega
      clear hcc1 hcc2 R
      generalize l[k] = x at *
      clear c
      obtain ⟨xtyp, xid, xlen, xrouter, xseq, xage, xsum, xborder, xboundary, xla, xln, xlc, xaa, xan, xac, xcost, xsecond, xfwd, xtag⟩ := x
      simp only [lsaE] at SC2
      simp only at d0 d1 d2 d3 d4 d5 d6 d7 d8 d9 d10 d11 d12 d13 d14 e0 e1 e2 e3 e4 e5 e6 e7 e8 e9 e10 e11 e12 e13 e14
      have p0 : ∀ n os, (Go.Sort.grow (wr.drewN n) os).cell? ⟨b1, o1 + k * 15, none⟩ = some (.int .i64 xtyp) := cell_grown (World.block_lt_of_cell? _ _ d0) d0
      have p1 : ∀ n os, (Go.Sort.grow (wr.drewN n) os).cell? ⟨b1, o1 + k * 15 + 1, none⟩ = some (.int .u32 xid) := cell_grown (World.block_lt_of_cell? _ _ d1) d1
      have p2 : ∀ n os, (Go.Sort.grow (wr.drewN n) os).cell? ⟨b1, o1 + k * 15 + 2, none⟩ = some (.int .i64 xlen) := cell_grown (World.block_lt_of_cell? _ _ d2) d2
      have p3 : ∀ n os, (Go.Sort.grow (wr.drewN n) os).cell? ⟨b1, o1 + k * 15 + 3, none⟩ = some (.int .u32 xrouter) := cell_grown (World.block_lt_of_cell? _ _ d3) d3
      have p4 : ∀ n os, (Go.Sort.grow (wr.drewN n) os).cell? ⟨b1, o1 + k * 15 + 4, none⟩ = some (.int .i64 xseq) := cell_grown (World.block_lt_of_cell? _ _ d4) d4
      have p5 : ∀ n os, (Go.Sort.grow (wr.drewN n) os).cell? ⟨b1, o1 + k * 15 + 5, none⟩ = some (.int .i64 xage) := cell_grown (World.block_lt_of_cell? _ _ d5) d5
      have p6 : ∀ n os, (Go.Sort.grow (wr.drewN n) os).cell? ⟨b1, o1 + k * 15 + 6, none⟩ = some (.int .i64 xsum) := cell_grown (World.block_lt_of_cell? _ _ d6) d6
      have p7 : ∀ n os, (Go.Sort.grow (wr.drewN n) os).cell? ⟨b1, o1 + k * 15 + 7, none⟩ = some (.bool xborder) := cell_grown (World.block_lt_of_cell? _ _ d7) d7
      have p8 : ∀ n os, (Go.Sort.grow (wr.drewN n) os).cell? ⟨b1, o1 + k * 15 + 8, none⟩ = some (.bool xboundary) := cell_grown (World.block_lt_of_cell? _ _ d8) d8
      have p9 : ∀ n os, (Go.Sort.grow (wr.drewN n) os).cell? ⟨b1, o1 + k * 15 + 9, none⟩ = some (.slice xla xln xlc) := cell_grown (World.block_lt_of_cell? _ _ d9) d9
      have p10 : ∀ n os, (Go.Sort.grow (wr.drewN n) os).cell? ⟨b1, o1 + k * 15 + 10, none⟩ = some (.slice xaa xan xac) := cell_grown (World.block_lt_of_cell? _ _ d10) d10
      have p11 : ∀ n os, (Go.Sort.grow (wr.drewN n) os).cell? ⟨b1, o1 + k * 15 + 11, none⟩ = some (.int .i64 xcost) := cell_grown (World.block_lt_of_cell? _ _ d11) d11
      have p12 : ∀ n os, (Go.Sort.grow (wr.drewN n) os).cell? ⟨b1, o1 + k * 15 + 12, none⟩ = some (.bool xsecond) := cell_grown (World.block_lt_of_cell? _ _ d12) d12
      have p13 : ∀ n os, (Go.Sort.grow (wr.drewN n) os).cell? ⟨b1, o1 + k * 15 + 13, none⟩ = some (.int .u32 xfwd) := cell_grown (World.block_lt_of_cell? _ _ d13) d13
      have p14 : ∀ n os, (Go.Sort.grow (wr.drewN n) os).cell? ⟨b1, o1 + k * 15 + 14, none⟩ = some (.int .i64 xtag) := cell_grown (World.block_lt_of_cell? _ _ d14) d14
      have q0 : ∀ n os, (Go.Sort.grow (wr.drewN n) os).cell? ⟨b2, o2 + k * 15, none⟩ = some (.int .i64 xtyp) := cell_grown (World.block_lt_of_cell? _ _ e0) e0
      have q1 : ∀ n os, (Go.Sort.grow (wr.drewN n) os).cell? ⟨b2, o2 + k * 15 + 1, none⟩ = some (.int .u32 xid) := cell_grown (World.block_lt_of_cell? _ _ e1) e1
      have q2 : ∀ n os, (Go.Sort.grow (wr.drewN n) os).cell? ⟨b2, o2 + k * 15 + 2, none⟩ = some (.int .i64 xlen) := cell_grown (World.block_lt_of_cell? _ _ e2) e2
      have q3 : ∀ n os, (Go.Sort.grow (wr.drewN n) os).cell? ⟨b2, o2 + k * 15 + 3, none⟩ = some (.int .u32 xrouter) := cell_grown (World.block_lt_of_cell? _ _ e3) e3
      have q4 : ∀ n os, (Go.Sort.grow (wr.drewN n) os).cell? ⟨b2, o2 + k * 15 + 4, none⟩ = some (.int .i64 xseq) := cell_grown (World.block_lt_of_cell? _ _ e4) e4
      have q5 : ∀ n os, (Go.Sort.grow (wr.drewN n) os).cell? ⟨b2, o2 + k * 15 + 5, none⟩ = some (.int .i64 xage) := cell_grown (World.block_lt_of_cell? _ _ e5) e5
      have q6 : ∀ n os, (Go.Sort.grow (wr.drewN n) os).cell? ⟨b2, o2 + k * 15 + 6, none⟩ = some (.int .i64 xsum) := cell_grown (World.block_lt_of_cell? _ _ e6) e6
      have q7 : ∀ n os, (Go.Sort.grow (wr.drewN n) os).cell? ⟨b2, o2 + k * 15 + 7, none⟩ = some (.bool xborder) := cell_grown (World.block_lt_of_cell? _ _ e7) e7
      have q8 : ∀ n os, (Go.Sort.grow (wr.drewN n) os).cell? ⟨b2, o2 + k * 15 + 8, none⟩ = some (.bool xboundary) := cell_grown (World.block_lt_of_cell? _ _ e8) e8
      have q9 : ∀ n os, (Go.Sort.grow (wr.drewN n) os).cell? ⟨b2, o2 + k * 15 + 9, none⟩ = some (.slice xla xln xlc) := cell_grown (World.block_lt_of_cell? _ _ e9) e9
      have q10 : ∀ n os, (Go.Sort.grow (wr.drewN n) os).cell? ⟨b2, o2 + k * 15 + 10, none⟩ = some (.slice xaa xan xac) := cell_grown (World.block_lt_of_cell? _ _ e10) e10
      have q11 : ∀ n os, (Go.Sort.grow (wr.drewN n) os).cell? ⟨b2, o2 + k * 15 + 11, none⟩ = some (.int .i64 xcost) := cell_grown (World.block_lt_of_cell? _ _ e11) e11
      have q12 : ∀ n os, (Go.Sort.grow (wr.drewN n) os).cell? ⟨b2, o2 + k * 15 + 12, none⟩ = some (.bool xsecond) := cell_grown (World.block_lt_of_cell? _ _ e12) e12
      have q13 : ∀ n os, (Go.Sort.grow (wr.drewN n) os).cell? ⟨b2, o2 + k * 15 + 13, none⟩ = some (.int .u32 xfwd) := cell_grown (World.block_lt_of_cell? _ _ e13) e13
      have q14 : ∀ n os, (Go.Sort.grow (wr.drewN n) os).cell? ⟨b2, o2 + k * 15 + 14, none⟩ = some (.int .i64 xtag) := cell_grown (World.block_lt_of_cell? _ _ e14) e14
      clear d0 d1 d2 d3 d4 d5 d6 d7 d8 d9 d10 d11 d12 d13 d14 e0 e1 e2 e3 e4 e5 e6 e7 e8 e9 e10 e11 e12 e13 e14
      go_wp2_with fail
      refine wp_region_quiet_grown (by assumption) (by kernel_rfl) ?_
      repeat (go_big_quiet_step ((go_at_call 33; with_reducible exact Calls.grown_of (SC2.out _))))
      refine wpQuiet_nil ?_
      intro _ hw'
      obtain ⟨⟨nq, osq⟩, hw''⟩ := hw'
      subst hw''
      have NXz := Lib.hid (NX.out nq osq)
      clear SC2 p0 p1 p2 p3 p4 p5 p6 p7 p8 p9 p10 p11 p12 p13 p14 q0 q1 q2 q3 q4 q5 q6 q7 q8 q9 q10 q11 q12 q13 q14
      go_wp2_with fail
      go_roundw
      case rel => exact ⟨k + 1, by go_num, by have := KC.out; omega, NXz⟩
      case measure => simp [intOf]; have := KC.out; omega
    · have FIN := Lib.hid R.out
      clear R
      go_wp2_with fail
      go_ret
      exact ⟨rfl, FIN.out⟩

end Go.Proofs.YtogdconliofblaaGreat
