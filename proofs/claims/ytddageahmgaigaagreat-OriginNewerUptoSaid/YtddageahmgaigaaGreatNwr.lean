import Derived.Test.YtddageahmgaigaaGreatGet
import Derived.Test.YtddageahmgaigaaGreatBit
import Derived.BigQuiet
import Derived.Deep.DeepCutAuto
namespace Go.Proofs.YtddageahmgaigaaGreat
open Go.RowKit

def Nwr (aseq aage asum bseq bage bsum : Int) : Prop := bseq < aseq ∨ (aseq = bseq ∧ asum = bsum ∧ aage = 3600 ∧ bage ≠ 3600)

set_option maxHeartbeats 4000000 in
theorem cmp23_calls (at' aid alen ar aseq aage asum bt bid blen br bseq bage bsum : Int) (h : Nwr aseq aage asum bseq bage bsum) (w : World) :
    Calls Tryz.prog 64 #[.agg #[.int .i64 at', .int .u32 aid, .int .i64 alen, .int .u32 ar, .int .i64 aseq, .int .i64 aage, .int .i64 asum], .agg #[.int .i64 bt, .int .u32 bid, .int .i64 blen, .int .u32 br, .int .i64 bseq, .int .i64 bage, .int .i64 bsum]] w fun e w' => e = .returned (.int .i64 1) ∧ Gr w w' := by
  obtain ⟨W0, hW0⟩ : ∃ W0, (w.alloc (.cells #[.int .i64 at', .int .u32 aid, .int .i64 alen, .int .u32 ar, .int .i64 aseq, .int .i64 aage, .int .i64 asum] 37)).alloc (.cells #[.int .i64 bt, .int .u32 bid, .int .i64 blen, .int .u32 br, .int .i64 bseq, .int .i64 bage, .int .i64 bsum] 37) = W0 := ⟨_, rfl⟩
  have b0 : W0.heap[w.heap.size]? = some (.cells #[.int .i64 at', .int .u32 aid, .int .i64 alen, .int .u32 ar, .int .i64 aseq, .int .i64 aage, .int .i64 asum] 37 (0, 0)) := by rw [← hW0]; exact (alloc_get _ _ _ (by simp)).trans (alloc_new w _)
  have b1 : W0.heap[w.heap.size + 1]? = some (.cells #[.int .i64 bt, .int .u32 bid, .int .i64 blen, .int .u32 br, .int .i64 bseq, .int .i64 bage, .int .i64 bsum] 37 (0, 0)) := by rw [← hW0]; exact blk_new2 w _ _
  have G0 : Hid (Gr w W0) := Lib.hid (by rw [← hW0]; exact ((Gr.refl _).alloc _).alloc _)
  have x4 : W0.cell? ⟨w.heap.size, 4, none⟩ = some (.int .i64 aseq) := blk_cell b0 rfl
  have x5 : W0.cell? ⟨w.heap.size, 5, none⟩ = some (.int .i64 aage) := blk_cell b0 rfl
  have x6 : W0.cell? ⟨w.heap.size, 6, none⟩ = some (.int .i64 asum) := blk_cell b0 rfl
  have y4 : W0.cell? ⟨w.heap.size + 1, 4, none⟩ = some (.int .i64 bseq) := blk_cell b1 rfl
  have y5 : W0.cell? ⟨w.heap.size + 1, 5, none⟩ = some (.int .i64 bage) := blk_cell b1 rfl
  have y6 : W0.cell? ⟨w.heap.size + 1, 6, none⟩ = some (.int .i64 bsum) := blk_cell b1 rfl
  have HW0 := Lib.hid hW0
  clear hW0 b0 b1
  rcases h with h | ⟨rfl, rfl, rfl, h⟩
  · have q : (aseq != bseq) = true := by simp; omega
    have NC := Lib.hid (numbers_calls aseq bseq W0)
    have e : cmpI aseq bseq = 1 := by unfold cmpI; split <;> (try split) <;> omega
    rw [e] at NC
    clear e h
    go_enter Tryz.func64, Tryz.ntmps64
    go_upto_region 1 with fail
    rw [HW0.out]
    go_wp2_with fail
    refine NC.out.mono ?_
    rintro e w' ⟨rfl, rfl⟩
    go_wp2_with fail
    go_ret
    exact ⟨rfl, G0.out⟩
  · have q : (bage == 3600) = false := by simpa using h
    clear h
    go_enter Tryz.func64, Tryz.ntmps64
    go_upto_region 1 with fail
    rw [HW0.out]
    go_wp2_with fail
    go_ret
    exact ⟨rfl, G0.out⟩

set_option maxHeartbeats 8000000 in
set_option maxRecDepth 100000 in
theorem cmp25_calls (w : World) (v : Value) (l : List Lsa) (h : LsasAt w v l) (at' aid alen ar aseq aage asum : Int) (hn : ∀ x ∈ l, lkOf x = ⟨at', aid, alen, ar⟩ → Nwr aseq aage asum x.seq x.age x.sum) :
    Calls Tryz.prog 29 #[v, .agg #[.int .i64 at', .int .u32 aid, .int .i64 alen, .int .u32 ar, .int .i64 aseq, .int .i64 aage, .int .i64 asum]] w fun e w' => e = .returned (.int .i64 1) ∧ Gr w w' := by
  obtain ⟨W0, hW0⟩ : ∃ W0, w.alloc (.cells #[.int .i64 at', .int .u32 aid, .int .i64 alen, .int .u32 ar, .int .i64 aseq, .int .i64 aage, .int .i64 asum] 37) = W0 := ⟨_, rfl⟩
  have G0 : Hid (Gr w W0) := Lib.hid (by rw [← hW0]; exact (Gr.refl _).alloc _)
  have b0 := Lib.hid (show W0.heap[w.heap.size]? = some (.cells #[.int .i64 at', .int .u32 aid, .int .i64 alen, .int .u32 ar, .int .i64 aseq, .int .i64 aage, .int .i64 asum] 37 (0, 0)) by rw [← hW0]; exact alloc_new w _)
  have FC := Lib.hid (fun W (G : Gr w W) => find_calls W v l (h.below G.b) at' aid alen ar)
  have HR := Lib.hid h
  have HN := Lib.hid (fun j (hj : j < l.length) => hn l[j] (List.getElem_mem hj))
  have CC := Lib.hid (fun bt bid blen br bseq bage bsum hh W => cmp23_calls at' aid alen ar aseq aage asum bt bid blen br bseq bage bsum hh W)
  have KY := Lib.hid (fun W => key_calls at' aid alen ar aseq aage asum W)
  simp only [keyE] at KY
  have mixed : Tryz.prog.follows .mixedOrders = true := by kernel_rfl
  have HW0 := Lib.hid hW0
  clear hW0 h hn
  have x0 : W0.cell? ⟨w.heap.size, 0, none⟩ = some (.int .i64 at') := blk_cell b0.out rfl
  have x1 : W0.cell? ⟨w.heap.size, 1, none⟩ = some (.int .u32 aid) := blk_cell b0.out rfl
  have x2 : W0.cell? ⟨w.heap.size, 2, none⟩ = some (.int .i64 alen) := blk_cell b0.out rfl
  have x3 : W0.cell? ⟨w.heap.size, 3, none⟩ = some (.int .u32 ar) := blk_cell b0.out rfl
  have x4 : W0.cell? ⟨w.heap.size, 4, none⟩ = some (.int .i64 aseq) := blk_cell b0.out rfl
  have x5 : W0.cell? ⟨w.heap.size, 5, none⟩ = some (.int .i64 aage) := blk_cell b0.out rfl
  have x6 : W0.cell? ⟨w.heap.size, 6, none⟩ = some (.int .i64 asum) := blk_cell b0.out rfl
  go_enter Tryz.func29, Tryz.ntmps29
  go_upto_region 1 with fail
  rw [HW0.out]
  go_wp2_with fail
  refine (KY.out _).mono ?_
  rintro e w1 ⟨rfl, G1⟩
  have GG1 := Lib.hid (G0.out.trans G1)
  have FC1 := Lib.hid (FC.out w1 GG1.out)
  have b1 := Lib.hid ((G1.b.block _ (blk_lt b0.out)).trans b0.out)
  clear G1 FC KY x0 x1 x2 x3 x4 x5 x6 b0
  go_wp2_with fail
  refine FC1.out.mono ?_
  rintro e w2 ⟨i, rfl, G2, hi⟩
  have GG2 := Lib.hid (GG1.out.trans G2)
  have b2 := Lib.hid ((G2.b.block _ (blk_lt b1.out)).trans b1.out)
  clear G2 FC1 b1
  rcases hi with ⟨rfl, no⟩ | ⟨j, rfl, hj, hkey, -⟩
  · clear no CC HN HR
    go_wp2_with fail
    go_ret
    exact ⟨rfl, GG2.out⟩
  · have NW := Lib.hid (HN.out j hj hkey)
    obtain ⟨a1, c1, rfl, hlen, hc1⟩ := HR.out.get
    obtain ⟨b, off, rfl, hb, hcc⟩ := hc1 (by omega)
    obtain ⟨⟨d0, d1, d2, d3, d4⟩, ⟨d5, d6, -, -, -⟩, -⟩ := (hcc j hj).below GG2.out.b hb
    have i0 : (0 : Int) ≤ (j : Int) := by omega
    have i1 : (j : Int) < (l.length : Int) := by omega
    have s3 : ((j : Int)).toNat = j := by omega
    clear hcc hc1 hkey HN HR
    generalize l[j] = x at *
    clear hj
    obtain ⟨xtyp, xid, xlen, xrouter, xseq, xage, xsum, xborder, xboundary, xla, xln, xlc, xaa, xan, xac, xcost, xsecond, xfwd, xtag⟩ := x
    simp only at d0 d1 d2 d3 d4 d5 d6 NW
    have C2 := Lib.hid (fun W => (CC.out xtyp xid xlen xrouter xseq xage xsum NW.out W).mono fun _ _ h => (⟨h.1, h.2.grow⟩ : _ ∧ ∃ q os', _ = Go.Sort.grow (World.drewN W q) os'))
    have FIN : Hid (∀ n os, Gr w (Go.Sort.grow (w2.drewN n) os)) := Lib.hid (fun n os => GG2.out.trans (Gr.of_grow n os))
    have x0 : w2.cell? ⟨w.heap.size, 0, none⟩ = some (.int .i64 at') := blk_cell b2.out rfl
    have p0 : ∀ n os, (Go.Sort.grow (w2.drewN n) os).cell? ⟨w.heap.size, 0, none⟩ = some (.int .i64 at') := cell_grown (World.block_lt_of_cell? _ _ x0) x0
    have x1 : w2.cell? ⟨w.heap.size, 1, none⟩ = some (.int .u32 aid) := blk_cell b2.out rfl
    have p1 : ∀ n os, (Go.Sort.grow (w2.drewN n) os).cell? ⟨w.heap.size, 1, none⟩ = some (.int .u32 aid) := cell_grown (World.block_lt_of_cell? _ _ x1) x1
    have x2 : w2.cell? ⟨w.heap.size, 2, none⟩ = some (.int .i64 alen) := blk_cell b2.out rfl
    have p2 : ∀ n os, (Go.Sort.grow (w2.drewN n) os).cell? ⟨w.heap.size, 2, none⟩ = some (.int .i64 alen) := cell_grown (World.block_lt_of_cell? _ _ x2) x2
    have x3 : w2.cell? ⟨w.heap.size, 3, none⟩ = some (.int .u32 ar) := blk_cell b2.out rfl
    have p3 : ∀ n os, (Go.Sort.grow (w2.drewN n) os).cell? ⟨w.heap.size, 3, none⟩ = some (.int .u32 ar) := cell_grown (World.block_lt_of_cell? _ _ x3) x3
    have x4 : w2.cell? ⟨w.heap.size, 4, none⟩ = some (.int .i64 aseq) := blk_cell b2.out rfl
    have p4 : ∀ n os, (Go.Sort.grow (w2.drewN n) os).cell? ⟨w.heap.size, 4, none⟩ = some (.int .i64 aseq) := cell_grown (World.block_lt_of_cell? _ _ x4) x4
    have x5 : w2.cell? ⟨w.heap.size, 5, none⟩ = some (.int .i64 aage) := blk_cell b2.out rfl
    have p5 : ∀ n os, (Go.Sort.grow (w2.drewN n) os).cell? ⟨w.heap.size, 5, none⟩ = some (.int .i64 aage) := cell_grown (World.block_lt_of_cell? _ _ x5) x5
    have x6 : w2.cell? ⟨w.heap.size, 6, none⟩ = some (.int .i64 asum) := blk_cell b2.out rfl
    have p6 : ∀ n os, (Go.Sort.grow (w2.drewN n) os).cell? ⟨w.heap.size, 6, none⟩ = some (.int .i64 asum) := cell_grown (World.block_lt_of_cell? _ _ x6) x6
    have q0 : ∀ n os, (Go.Sort.grow (w2.drewN n) os).cell? ⟨b, off + j * 15, none⟩ = some (.int .i64 xtyp) := cell_grown (World.block_lt_of_cell? _ _ d0) d0
    have q1 : ∀ n os, (Go.Sort.grow (w2.drewN n) os).cell? ⟨b, off + j * 15 + 1, none⟩ = some (.int .u32 xid) := cell_grown (World.block_lt_of_cell? _ _ d1) d1
    have q2 : ∀ n os, (Go.Sort.grow (w2.drewN n) os).cell? ⟨b, off + j * 15 + 2, none⟩ = some (.int .i64 xlen) := cell_grown (World.block_lt_of_cell? _ _ d2) d2
    have q3 : ∀ n os, (Go.Sort.grow (w2.drewN n) os).cell? ⟨b, off + j * 15 + 3, none⟩ = some (.int .u32 xrouter) := cell_grown (World.block_lt_of_cell? _ _ d3) d3
    have q4 : ∀ n os, (Go.Sort.grow (w2.drewN n) os).cell? ⟨b, off + j * 15 + 4, none⟩ = some (.int .i64 xseq) := cell_grown (World.block_lt_of_cell? _ _ d4) d4
    have q5 : ∀ n os, (Go.Sort.grow (w2.drewN n) os).cell? ⟨b, off + j * 15 + 5, none⟩ = some (.int .i64 xage) := cell_grown (World.block_lt_of_cell? _ _ d5) d5
    have q6 : ∀ n os, (Go.Sort.grow (w2.drewN n) os).cell? ⟨b, off + j * 15 + 6, none⟩ = some (.int .i64 xsum) := cell_grown (World.block_lt_of_cell? _ _ d6) d6
    clear CC NW x0 x1 x2 x3 x4 x5 x6 d0 d1 d2 d3 d4 d5 d6 b2
    go_upto_region 4 with fail
    refine wp_region_quiet_grown (by assumption) (by kernel_rfl) ?_
    repeat (go_big_quiet_step ((go_at_call 64; with_reducible exact Calls.grown_of (C2.out _))))
    refine wpQuiet_nil ?_
    intro _ hw'
    obtain ⟨⟨nq, osq⟩, hw''⟩ := hw'
    subst hw''
    have FI := Lib.hid (FIN.out nq osq)
    clear C2 FIN p0 p1 p2 p3 p4 p5 p6 q0 q1 q2 q3 q4 q5 q6
    go_wp2_with fail
    go_ret
    exact ⟨rfl, FI.out⟩

end Go.Proofs.YtddageahmgaigaaGreat
