import Derived.Test.YtddageahmgaigaaGreatKys
import Derived.Test.YtddageahmgaigaaGreatSel
import Derived.Deep.DeepCutAuto
import Derived.BigQuiet
import Derived.IntWalk
namespace Go.Proofs.YtddageahmgaigaaGreat
open Go.RowKit

theorem eqKk (t id len r t' id' len' r' : Int) (w : World) : (binOp .eql 60 (.agg #[.int .i64 t, .int .u32 id, .int .i64 len, .int .u32 r]) (.agg #[.int .i64 t', .int .u32 id', .int .i64 len', .int .u32 r'])).run Tryz.prog w = .ok (.bool (decide ((⟨t, id, len, r⟩ : Kk) = ⟨t', id', len', r'⟩))) w := by
  have u3 := Tryz.underlying3
  have u22 := Tryz.underlying22
  have a3 := Tryz.isAgg3
  have z3 := Tryz.sizeOf3
  have a22 := Tryz.isAgg22
  have z22 := Tryz.sizeOf22
  have hS : Tryz.prog.underlying 60 = some (.struct (Tryz.prog.fieldsOf 60)) := by kernel_rfl
  have hp : Tryz.prog.stoodInHeld 60 = false := by kernel_rfl
  rw [run_eql_struct, show (10000 : Nat) = 9999 + 1 from rfl, run_equalIn_agg w 9999 60 _ _ hS hp]
  simp only [Program.fieldsOf, Tryz.underlying60]
  go_simp
  by_cases h1 : t = t' <;> by_cases h2 : id = id' <;> by_cases h3 : len = len' <;> by_cases h4 : r = r' <;> simp [h1, h2, h3, h4]

def FindIs (l : List Lsa) (k : Kk) (i : Int) : Prop := (i = -1 ∧ ∀ x ∈ l, lkOf x ≠ k) ∨ ∃ j : Nat, i = (j : Int) ∧ ∃ h : j < l.length, lkOf l[j] = k ∧ ∀ m (hm : m < j), lkOf (l[m]'(by omega)) ≠ k
def FindPost (w : World) (l : List Lsa) (k : Kk) (e : Ending) (w' : World) : Prop := ∃ i : Int, e = .returned (.int .i64 i) ∧ Gr w w' ∧ FindIs l k i

set_option maxHeartbeats 8000000 in
set_option maxRecDepth 100000 in
theorem find_calls (w : World) (v : Value) (l : List Lsa) (h : LsasAt w v l) (t id len r : Int) :
    Calls Tryz.prog 62 #[v, .agg #[.int .i64 t, .int .u32 id, .int .i64 len, .int .u32 r]] w (FindPost w l ⟨t, id, len, r⟩) := by
  obtain ⟨a1, c1, rfl, hlen, hc1⟩ := h.get
  have HC1 := Lib.hid hc1
  have mixed : Tryz.prog.follows .mixedOrders = true := by kernel_rfl
  clear h hc1
  obtain ⟨W0, hW0⟩ : ∃ W0, w.alloc (.cells #[.int .i64 t, .int .u32 id, .int .i64 len, .int .u32 r] 60) = W0 := ⟨_, rfl⟩
  have b0 : W0.heap[w.heap.size]? = some (.cells #[.int .i64 t, .int .u32 id, .int .i64 len, .int .u32 r] 60 (0, 0)) := by rw [← hW0]; exact alloc_new w _
  have G0 : Hid (Gr w W0) := Lib.hid (by rw [← hW0]; exact (Gr.refl _).alloc _)
  have HB := Lib.hid b0
  have HW0 := Lib.hid hW0
  have hs0 : w.heap.size < W0.heap.size := by rw [← hW0]; simp
  clear hW0 b0
  go_enter Tryz.func62, Tryz.ntmps62
  go_upto_region 1 with fail
  rw [HW0.out]
  go_wp2_with fail
  go_loopw [5] (fun i wr => ∃ k : Nat, i = .int .i64 k ∧ k ≤ l.length ∧ Hid (Gr W0 wr) ∧ Hid (∀ m (hm : m < l.length), m < k → lkOf l[m] ≠ ⟨t, id, len, r⟩)) (fun i _ => l.length - (intOf i).toNat)
  case atStart => exact ⟨0, rfl, Nat.zero_le _, Lib.hid (Gr.refl _), Lib.hid (fun m _ hm => absurd hm (by omega))⟩
  case round =>
    obtain ⟨k, rfl, hk, GG, NO⟩ := hrel
    by_cases c : k < l.length
    · obtain ⟨b1, o1, rfl, hb1, hcc1⟩ := HC1.out (by omega)
      have hb2 : b1 < W0.heap.size := Nat.lt_of_lt_of_le hb1 G0.out.b.size
      obtain ⟨⟨d0, d1, d2, d3, d4⟩, ⟨d5, d6, d7, d8, d9⟩, ⟨d10, d11, d12, d13, d14⟩⟩ := ((hcc1 k c).below G0.out.b hb1).below GG.out.b hb2
      have br : wr.heap[w.heap.size]? = some (.cells #[.int .i64 t, .int .u32 id, .int .i64 len, .int .u32 r] 60 (0, 0)) := (GG.out.b.block _ hs0).trans HB.out
      have GR := Lib.hid (fun n os => GG.out.trans (Gr.of_grow (W := wr) n os))
      have GR2 := Lib.hid (fun n os => G0.out.trans (GG.out.trans (Gr.of_grow (W := wr) n os)))
      have KC := Lib.hid c
      have i0 : (0 : Int) ≤ (k : Int) := by omega
      have i1 : (k : Int) < (l.length : Int) := by omega
      have s3 : ((k : Int)).toNat = k := by omega
      have YES : Hid (lkOf l[k] = ⟨t, id, len, r⟩ → ∀ W, Gr w W → FindPost w l ⟨t, id, len, r⟩ (.returned (.int .i64 (k : Int))) W) := Lib.hid (fun e W g => ⟨_, rfl, g, .inr ⟨k, rfl, c, e, fun m hm => NO.out m _ hm⟩⟩)
      have NXT : Hid (lkOf l[k] ≠ ⟨t, id, len, r⟩ → ∀ m (hm : m < l.length), m < k + 1 → lkOf l[m] ≠ ⟨t, id, len, r⟩) := Lib.hid (fun e m hm h => by
        rcases Nat.lt_or_ge m k with h' | h'
        · exact NO.out m hm h'
        · obtain rfl : m = k := by omega
          exact e)
      clear hcc1 NO
      generalize l[k] = x at *
      clear c
      obtain ⟨xtyp, xid, xlen, xrouter, xseq, xage, xsum, xborder, xboundary, xla, xln, xlc, xaa, xan, xac, xcost, xsecond, xfwd, xtag⟩ := x
      simp only at d0 d1 d2 d3 d4 d5 d6
      have p0 : ∀ n os, (Go.Sort.grow (wr.drewN n) os).cell? ⟨b1, o1 + k * 15, none⟩ = some (.int .i64 xtyp) := cell_grown (World.block_lt_of_cell? _ _ d0) d0
      have p1 : ∀ n os, (Go.Sort.grow (wr.drewN n) os).cell? ⟨b1, o1 + k * 15 + 1, none⟩ = some (.int .u32 xid) := cell_grown (World.block_lt_of_cell? _ _ d1) d1
      have p2 : ∀ n os, (Go.Sort.grow (wr.drewN n) os).cell? ⟨b1, o1 + k * 15 + 2, none⟩ = some (.int .i64 xlen) := cell_grown (World.block_lt_of_cell? _ _ d2) d2
      have p3 : ∀ n os, (Go.Sort.grow (wr.drewN n) os).cell? ⟨b1, o1 + k * 15 + 3, none⟩ = some (.int .u32 xrouter) := cell_grown (World.block_lt_of_cell? _ _ d3) d3
      have p4 : ∀ n os, (Go.Sort.grow (wr.drewN n) os).cell? ⟨b1, o1 + k * 15 + 4, none⟩ = some (.int .i64 xseq) := cell_grown (World.block_lt_of_cell? _ _ d4) d4
      have p5 : ∀ n os, (Go.Sort.grow (wr.drewN n) os).cell? ⟨b1, o1 + k * 15 + 5, none⟩ = some (.int .i64 xage) := cell_grown (World.block_lt_of_cell? _ _ d5) d5
      have p6 : ∀ n os, (Go.Sort.grow (wr.drewN n) os).cell? ⟨b1, o1 + k * 15 + 6, none⟩ = some (.int .i64 xsum) := cell_grown (World.block_lt_of_cell? _ _ d6) d6
      have y0 := blk_cell (i := 0) br rfl
      have y1 := blk_cell (i := 1) br rfl
      have y2 := blk_cell (i := 2) br rfl
      have y3 := blk_cell (i := 3) br rfl
      have y0 : ∀ n os, (Go.Sort.grow (wr.drewN n) os).cell? ⟨w.heap.size, 0, none⟩ = some (.int .i64 t) := cell_grown (World.block_lt_of_cell? _ _ y0) y0
      have y1 : ∀ n os, (Go.Sort.grow (wr.drewN n) os).cell? ⟨w.heap.size, 1, none⟩ = some (.int .u32 id) := cell_grown (World.block_lt_of_cell? _ _ y1) y1
      have y2 : ∀ n os, (Go.Sort.grow (wr.drewN n) os).cell? ⟨w.heap.size, 2, none⟩ = some (.int .i64 len) := cell_grown (World.block_lt_of_cell? _ _ y2) y2
      have y3 : ∀ n os, (Go.Sort.grow (wr.drewN n) os).cell? ⟨w.heap.size, 3, none⟩ = some (.int .u32 r) := cell_grown (World.block_lt_of_cell? _ _ y3) y3
      have KK := Lib.hid (fun W => (key_calls xtyp xid xlen xrouter xseq xage xsum W).mono fun _ _ h => (⟨h.1, h.2.grow⟩ : _ ∧ ∃ q os, _ = Go.Sort.grow (World.drewN W q) os))
      simp only [keyE] at KK
      have EQ := fun W => eqKk xtyp xid xlen xrouter t id len r W
      simp only [lkOf] at YES NXT
      clear br d0 d1 d2 d3 d4 d5 d6 d7 d8 d9 d10 d11 d12 d13 d14
      by_cases he : (⟨xtyp, xid, xlen, xrouter⟩ : Kk) = ⟨t, id, len, r⟩
      · have Y := Lib.hid (YES.out he)
        simp only [decide_eq_true he] at EQ
        clear he YES NXT
        go_wp2_with fail
        refine wp_region_quiet_grown (by assumption) (by kernel_rfl) ?_
        repeat (go_big_quiet_step ((go_at_call 27; with_reducible exact Calls.grown_of (KK.out _))))
        refine wpQuiet_nil ?_
        intro _ hw'
        obtain ⟨⟨nq, osq⟩, hw''⟩ := hw'
        subst hw''
        have FI := Lib.hid (Y.out _ (GR2.out nq osq))
        clear p0 p1 p2 p3 p4 p5 p6 y0 y1 y2 y3 EQ KK
        go_wp2_with fail
        go_returns
        exact FI.out
      · have N := Lib.hid (NXT.out he)
        simp only [decide_eq_false he] at EQ
        clear he YES NXT
        go_wp2_with fail
        refine wp_region_quiet_grown (by assumption) (by kernel_rfl) ?_
        repeat (go_big_quiet_step ((go_at_call 27; with_reducible exact Calls.grown_of (KK.out _))))
        refine wpQuiet_nil ?_
        intro _ hw'
        obtain ⟨⟨nq, osq⟩, hw''⟩ := hw'
        subst hw''
        have GZ := Lib.hid (GR.out nq osq)
        clear p0 p1 p2 p3 p4 p5 p6 y0 y1 y2 y3 EQ KK
        go_wp2_with fail
        go_roundw
        case rel => exact ⟨k + 1, by go_num, KC.out, GZ, N⟩
        case measure => simp [intOf]; have := KC.out; omega
    · have E : Hid (FindPost w l ⟨t, id, len, r⟩ (.returned (.int .i64 (-1))) wr) := Lib.hid ⟨-1, rfl, G0.out.trans GG.out, .inl ⟨rfl, fun x hx => by
        obtain ⟨i, hi, rfl⟩ := List.getElem_of_mem hx
        exact NO.out i hi (by omega)⟩⟩
      clear NO
      go_wp2_with fail
      go_ret
      exact E.out

end Go.Proofs.YtddageahmgaigaaGreat

namespace Go.Proofs.YtddageahmgaigaaGreat
open Go.RowKit

def GetIs (l : List Lsa) (k : Kk) (x : Lsa) (b : Bool) : Prop := (b = false ∧ ∀ y ∈ l, lkOf y ≠ k) ∨ (b = true ∧ lkOf x = k ∧ x ∈ l)
def GetPost (w : World) (l : List Lsa) (k : Kk) (e : Ending) (w' : World) : Prop := ∃ x b, e = .returned (.tuple #[.agg (lsaE x).toArray, .bool b]) ∧ Below w.heap.size w w' ∧ GetIs l k x b

set_option maxHeartbeats 8000000 in
set_option maxRecDepth 100000 in
theorem get_calls (w : World) (v : Value) (l : List Lsa) (h : LsasAt w v l) (t id len r : Int) :
    Calls Tryz.prog 26 #[v, .agg #[.int .i64 t, .int .u32 id, .int .i64 len, .int .u32 r]] w (GetPost w l ⟨t, id, len, r⟩) := by
  have FC := Lib.hid (fun W (hb : Below w.heap.size w W) => find_calls W v l (h.below hb) t id len r)
  obtain ⟨a1, c1, rfl, hlen, hc1⟩ := h.get
  have HC1 := Lib.hid hc1
  clear h hc1
  obtain ⟨W0, hW0⟩ : ∃ W0, (w.alloc (.cells #[.int .i64 t, .int .u32 id, .int .i64 len, .int .u32 r] 60)).alloc (.cells #[.int .i64 0, .int .u32 0, .int .i64 0, .int .u32 0, .int .i64 0, .int .i64 0, .int .i64 0, .bool false, .bool false, .slice none 0 0, .slice none 0 0, .int .i64 0, .bool false, .int .u32 0, .int .i64 0] 42) = W0 := ⟨_, rfl⟩
  have b0 : W0.heap[w.heap.size]? = some (.cells #[.int .i64 t, .int .u32 id, .int .i64 len, .int .u32 r] 60 (0, 0)) := by rw [← hW0]; exact (alloc_get _ _ _ (by simp)).trans (alloc_new w _)
  have bz : W0.heap[w.heap.size + 1]? = some (.cells #[.int .i64 0, .int .u32 0, .int .i64 0, .int .u32 0, .int .i64 0, .int .i64 0, .int .i64 0, .bool false, .bool false, .slice none 0 0, .slice none 0 0, .int .i64 0, .bool false, .int .u32 0, .int .i64 0] 42 (0, 0)) := by rw [← hW0]; exact blk_new2 w _ _
  have B0 : Below w.heap.size w W0 := by rw [← hW0]; exact ((Below.refl _ _).alloc (Nat.le_refl _) _).alloc (by simp) _
  have y0 := blk_cell (i := 0) b0 rfl
  have y1 := blk_cell (i := 1) b0 rfl
  have y2 := blk_cell (i := 2) b0 rfl
  have y3 := blk_cell (i := 3) b0 rfl
  have F1 := Lib.hid (FC.out W0 B0)
  have HB0 := Lib.hid B0
  have HBZ := Lib.hid bz
  have HW0 := Lib.hid hW0
  clear hW0 b0 bz B0 FC
  go_enter Tryz.func26, Tryz.ntmps26
  go_upto_region 1 with fail
  rw [HW0.out]
  go_wp2_with fail
  refine F1.out.mono ?_
  rintro e w1 ⟨i, rfl, G1, FI⟩
  have HB1 := Lib.hid (HB0.out.trans (G1.b.mono HB0.out.size))
  have HZ1 := Lib.hid ((G1.b.block _ (blk_lt HBZ.out)).trans HBZ.out)
  clear G1 F1 y0 y1 y2 y3 HBZ HW0
  rcases FI with ⟨rfl, NO⟩ | ⟨j, rfl, hj, hk, -⟩
  · have HNO := Lib.hid NO
    clear NO
    obtain ⟨W', hW'⟩ : ∃ W', setLsa w1 (w.heap.size + 1) ⟨0, 0, 0, 0, 0, 0, 0, false, false, none, 0, 0, none, 0, 0, 0, false, 0, 0⟩ = W' := ⟨_, rfl⟩
    have bk' : W'.heap[w.heap.size + 1]? = some (.cells #[.int .i64 0, .int .u32 0, .int .i64 0, .int .u32 0, .int .i64 0, .int .i64 0, .int .i64 0, .bool false, .bool false, .slice none 0 0, .slice none 0 0, .int .i64 0, .bool false, .int .u32 0, .int .i64 0] 42 (0, 0)) := by rw [← hW']; exact setLsa_blk HZ1.out _
    have BW' : Below w.heap.size w W' := by rw [← hW']; exact setLsa_below HB1.out (Nat.le_succ _) _
    have FIN : Hid (GetPost w l ⟨t, id, len, r⟩ (.returned (.tuple #[.agg #[.int .i64 0, .int .u32 0, .int .i64 0, .int .u32 0, .int .i64 0, .int .i64 0, .int .i64 0, .bool false, .bool false, .slice none 0 0, .slice none 0 0, .int .i64 0, .bool false, .int .u32 0, .int .i64 0], .bool false])) W') := Lib.hid ⟨⟨0, 0, 0, 0, 0, 0, 0, false, false, none, 0, 0, none, 0, 0, 0, false, 0, 0⟩, false, rfl, BW', .inl ⟨rfl, HNO.out⟩⟩
    unfold setLsa at hW'
    simp only at hW'
    have HW' := Lib.hid hW'
    obtain ⟨⟨⟨z0, z1, z2, z3, z4⟩, ⟨z5, z6, z7, z8, z9⟩, ⟨z10, z11, z12, z13, z14⟩⟩, hfz⟩ := blk15 HZ1.out
    have zf0 := hfz 0
    have zf1 := hfz 1
    have zf2 := hfz 2
    have zf3 := hfz 3
    have zf4 := hfz 4
    have zf5 := hfz 5
    have zf6 := hfz 6
    have zf7 := hfz 7
    have zf8 := hfz 8
    have zf9 := hfz 9
    have zf10 := hfz 10
    have zf11 := hfz 11
    have zf12 := hfz 12
    have zf13 := hfz 13
    have zf14 := hfz 14
    obtain ⟨⟨⟨g0, g1, g2, g3, g4⟩, ⟨g5, g6, g7, g8, g9⟩, ⟨g10, g11, g12, g13, g14⟩⟩, -⟩ := blk15 bk'
    have G := Lib.hid (And.intro g0 (And.intro g1 (And.intro g2 (And.intro g3 (And.intro g4 (And.intro g5 (And.intro g6 (And.intro g7 (And.intro g8 (And.intro g9 (And.intro g10 (And.intro g11 (And.intro g12 (And.intro g13 g14))))))))))))))
    clear hW' bk' BW' hfz g0 g1 g2 g3 g4 g5 g6 g7 g8 g9 g10 g11 g12 g13 g14
    go_wp2_with fail
    rw [HW'.out]
    obtain ⟨g0, g1, g2, g3, g4, g5, g6, g7, g8, g9, g10, g11, g12, g13, g14⟩ := G.out
    exact bodyPost_ret (v := .tuple #[.agg #[.int .i64 0, .int .u32 0, .int .i64 0, .int .u32 0, .int .i64 0, .int .i64 0, .int .i64 0, .bool false, .bool false, .slice none 0 0, .slice none 0 0, .int .i64 0, .bool false, .int .u32 0, .int .i64 0], .bool false]) (by simp [results, Tryz.results26, go_sem, g0, g1, g2, g3, g4, g5, g6, g7, g8, g9, g10, g11, g12, g13, g14]) rfl FIN.out
  · obtain ⟨b1, o1, rfl, hb1, hcc1⟩ := HC1.out (by omega)
    have MEM := Lib.hid (List.getElem_mem hj)
    obtain ⟨⟨d0, d1, d2, d3, d4⟩, ⟨d5, d6, d7, d8, d9⟩, ⟨d10, d11, d12, d13, d14⟩⟩ := (hcc1 j hj).below HB1.out hb1
    have HK := Lib.hid hk
    have g0 : decide ((j : Int) < 0) = false := decide_eq_false (by omega)
    have i0 : (0 : Int) ≤ (j : Int) := by omega
    have i1 : (j : Int) < (l.length : Int) := by omega
    have s3 : ((j : Int)).toNat = j := by omega
    clear hcc1 hk
    generalize l[j] = x at *
    clear hj
    obtain ⟨xtyp, xid, xlen, xrouter, xseq, xage, xsum, xborder, xboundary, xla, xln, xlc, xaa, xan, xac, xcost, xsecond, xfwd, xtag⟩ := x
    simp only at d0 d1 d2 d3 d4 d5 d6 d7 d8 d9 d10 d11 d12 d13 d14
    obtain ⟨W', hW'⟩ : ∃ W', setLsa w1 (w.heap.size + 1) ⟨xtyp, xid, xlen, xrouter, xseq, xage, xsum, xborder, xboundary, xla, xln, xlc, xaa, xan, xac, xcost, xsecond, xfwd, xtag⟩ = W' := ⟨_, rfl⟩
    have bk' : W'.heap[w.heap.size + 1]? = some (.cells #[.int .i64 xtyp, .int .u32 xid, .int .i64 xlen, .int .u32 xrouter, .int .i64 xseq, .int .i64 xage, .int .i64 xsum, .bool xborder, .bool xboundary, .slice xla xln xlc, .slice xaa xan xac, .int .i64 xcost, .bool xsecond, .int .u32 xfwd, .int .i64 xtag] 42 (0, 0)) := by rw [← hW']; exact setLsa_blk HZ1.out _
    have BW' : Below w.heap.size w W' := by rw [← hW']; exact setLsa_below HB1.out (Nat.le_succ _) _
    have FIN : Hid (GetPost w l ⟨t, id, len, r⟩ (.returned (.tuple #[.agg #[.int .i64 xtyp, .int .u32 xid, .int .i64 xlen, .int .u32 xrouter, .int .i64 xseq, .int .i64 xage, .int .i64 xsum, .bool xborder, .bool xboundary, .slice xla xln xlc, .slice xaa xan xac, .int .i64 xcost, .bool xsecond, .int .u32 xfwd, .int .i64 xtag], .bool true])) W') := Lib.hid ⟨⟨xtyp, xid, xlen, xrouter, xseq, xage, xsum, xborder, xboundary, xla, xln, xlc, xaa, xan, xac, xcost, xsecond, xfwd, xtag⟩, true, rfl, BW', .inr ⟨rfl, HK.out, MEM.out⟩⟩
    unfold setLsa at hW'
    simp only at hW'
    have HW' := Lib.hid hW'
    obtain ⟨⟨⟨z0, z1, z2, z3, z4⟩, ⟨z5, z6, z7, z8, z9⟩, ⟨z10, z11, z12, z13, z14⟩⟩, hfz⟩ := blk15 HZ1.out
    have zf0 := hfz 0
    have zf1 := hfz 1
    have zf2 := hfz 2
    have zf3 := hfz 3
    have zf4 := hfz 4
    have zf5 := hfz 5
    have zf6 := hfz 6
    have zf7 := hfz 7
    have zf8 := hfz 8
    have zf9 := hfz 9
    have zf10 := hfz 10
    have zf11 := hfz 11
    have zf12 := hfz 12
    have zf13 := hfz 13
    have zf14 := hfz 14
    obtain ⟨⟨⟨g0, g1, g2, g3, g4⟩, ⟨g5, g6, g7, g8, g9⟩, ⟨g10, g11, g12, g13, g14⟩⟩, -⟩ := blk15 bk'
    have G := Lib.hid (And.intro g0 (And.intro g1 (And.intro g2 (And.intro g3 (And.intro g4 (And.intro g5 (And.intro g6 (And.intro g7 (And.intro g8 (And.intro g9 (And.intro g10 (And.intro g11 (And.intro g12 (And.intro g13 g14))))))))))))))
    clear hW' bk' BW' hfz g0 g1 g2 g3 g4 g5 g6 g7 g8 g9 g10 g11 g12 g13 g14
    go_wp2_with fail
    rw [HW'.out]
    obtain ⟨g0, g1, g2, g3, g4, g5, g6, g7, g8, g9, g10, g11, g12, g13, g14⟩ := G.out
    exact bodyPost_ret (v := .tuple #[.agg #[.int .i64 xtyp, .int .u32 xid, .int .i64 xlen, .int .u32 xrouter, .int .i64 xseq, .int .i64 xage, .int .i64 xsum, .bool xborder, .bool xboundary, .slice xla xln xlc, .slice xaa xan xac, .int .i64 xcost, .bool xsecond, .int .u32 xfwd, .int .i64 xtag], .bool true]) (by simp [results, Tryz.results26, go_sem, g0, g1, g2, g3, g4, g5, g6, g7, g8, g9, g10, g11, g12, g13, g14]) rfl FIN.out

end Go.Proofs.YtddageahmgaigaaGreat
