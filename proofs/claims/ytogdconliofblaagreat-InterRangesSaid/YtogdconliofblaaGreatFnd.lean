/-
  routingref25.Find and Get.
-/
import Derived.Test.YtogdconliofblaaGreatKys
import Derived.Test.YtogdconliofblaaGreatLkk
import Derived.Deep.DeepCutAuto
import Derived.BigQuiet
import Derived.IntWalk
namespace Go.Proofs.YtogdconliofblaaGreat
open Go.RowKit

theorem eqKk (t id len r t' id' len' r' : Int) (w : World) : (binOp .eql 66 (.agg #[.int .i64 t, .int .u32 id, .int .i64 len, .int .u32 r]) (.agg #[.int .i64 t', .int .u32 id', .int .i64 len', .int .u32 r'])).run Tryz.prog w = .ok (.bool (decide ((⟨t, id, len, r⟩ : Kk) = ⟨t', id', len', r'⟩))) w := by
  have u3 := Tryz.underlying3
  have u22 := Tryz.underlying22
  have a3 := Tryz.isAgg3
  have z3 := Tryz.sizeOf3
  have a22 := Tryz.isAgg22
  have z22 := Tryz.sizeOf22
  have hS : Tryz.prog.underlying 66 = some (.struct (Tryz.prog.fieldsOf 66)) := by kernel_rfl
  have hp : Tryz.prog.stoodInHeld 66 = false := by kernel_rfl
  rw [run_eql_struct, show (10000 : Nat) = 9999 + 1 from rfl, run_equalIn_agg w 9999 66 _ _ hS hp]
  simp only [Program.fieldsOf, Tryz.underlying66]
  go_simp
  by_cases h1 : t = t' <;> by_cases h2 : id = id' <;> by_cases h3 : len = len' <;> by_cases h4 : r = r' <;> simp [h1, h2, h3, h4]

def FindIs (l : List Lsa) (k : Kk) (i : Int) : Prop := (i = -1 ∧ ∀ x ∈ l, lkOf x ≠ k) ∨ ∃ j : Nat, i = (j : Int) ∧ ∃ h : j < l.length, lkOf l[j] = k ∧ ∀ m (hm : m < j), lkOf (l[m]'(by omega)) ≠ k
def FindPost (w : World) (l : List Lsa) (k : Kk) (e : Ending) (w' : World) : Prop := ∃ i : Int, e = .returned (.int .i64 i) ∧ Gr w w' ∧ FindIs l k i

set_option maxHeartbeats 8000000 in
set_option maxRecDepth 100000 in
theorem find_calls (w : World) (v : Value) (l : List Lsa) (h : LsasAt w v l) (t id len r : Int) :
    Calls Tryz.prog 53 #[v, .agg #[.int .i64 t, .int .u32 id, .int .i64 len, .int .u32 r]] w (FindPost w l ⟨t, id, len, r⟩) := by
  obtain ⟨a1, c1, rfl, hlen, hc1⟩ := h.get
  have HC1 := Lib.hid hc1
  have mixed : Tryz.prog.follows .mixedOrders = true := by kernel_rfl
  clear h hc1
  obtain ⟨W0, hW0⟩ : ∃ W0, w.alloc (.cells #[.int .i64 t, .int .u32 id, .int .i64 len, .int .u32 r] 66) = W0 := ⟨_, rfl⟩
  have b0 : W0.heap[w.heap.size]? = some (.cells #[.int .i64 t, .int .u32 id, .int .i64 len, .int .u32 r] 66 (0, 0)) := by rw [← hW0]; exact alloc_new w _
  have G0 : Hid (Gr w W0) := Lib.hid (by rw [← hW0]; exact (Gr.refl _).alloc _)
  have HB := Lib.hid b0
  have HW0 := Lib.hid hW0
  have hs0 : w.heap.size < W0.heap.size := by rw [← hW0]; simp
  clear hW0 b0
  go_enter Tryz.func53, Tryz.ntmps53
  go_upto_region 1 with fail
  rw [HW0.out]
  go_wp2_with fail
  go_loopw [5] (fun i wr => ∃ k : Nat, i = .int .i64 k ∧ k ≤ l.length ∧ Hid (Gr W0 wr) ∧ Hid (∀ m (hm : m < l.length), m < k → lkOf l[m] ≠ ⟨t, id, len, r⟩)) (fun i _ => l.length - (intOf i).toNat)
  case atStart => exact ⟨0, rfl, Nat.zero_le _, Lib.hid (Gr.refl _), Lib.hid (fun m _ hm => absurd hm (by omega))⟩
  case round =>
    obtain ⟨k, rfl, hk, GG, NO⟩ := hrel
    by_cases c : k < l.length
    · obtain ⟨b1, o1, rfl, hb1, hcc1⟩ := HC1.out (by omega)
      have hb2 : b1 < W0.heap.size := Nat.lt_of_lt_of_le hb1 G0.out.b.size
      obtain ⟨⟨d0, d1, d2, d3, d4⟩, ⟨d5, d6, d7, d8, d9⟩, ⟨d10, d11, d12, d13, d14⟩⟩ := ((hcc1 k c).below G0.out.b hb1).below GG.out.b hb2
      have br : wr.heap[w.heap.size]? = some (.cells #[.int .i64 t, .int .u32 id, .int .i64 len, .int .u32 r] 66 (0, 0)) := (GG.out.b.block _ hs0).trans HB.out
      have GR := Lib.hid (fun n os => GG.out.trans (Gr.of_grow (W := wr) n os))
      have GR2 := Lib.hid (fun n os => G0.out.trans (GG.out.trans (Gr.of_grow (W := wr) n os)))
      have KC := Lib.hid c
      have i0 : (0 : Int) ≤ (k : Int) := by omega
      have i1 : (k : Int) < (l.length : Int) := by omega
      have s3 : ((k : Int)).toNat = k := by omega
      have YES : Hid (lkOf l[k] = ⟨t, id, len, r⟩ → ∀ W, Gr w W → FindPost w l ⟨t, id, len, r⟩ (.returned (.int .i64 (k : Int))) W) := Lib.hid (fun e W g => ⟨_, rfl, g, .inr ⟨k, rfl, c, e, fun m hm => NO.out m _ hm⟩⟩)
      have NXT : Hid (lkOf l[k] ≠ ⟨t, id, len, r⟩ → ∀ m (hm : m < l.length), m < k + 1 → lkOf l[m] ≠ ⟨t, id, len, r⟩) := Lib.hid (fun e m hm h => by
        rcases Nat.lt_or_ge m k with h' | h'
        · exact NO.out m hm h'
        · obtain rfl : m = k := by omega
          exact e)
      clear hcc1 NO
      generalize l[k] = x at *
      clear c
      obtain ⟨xtyp, xid, xlen, xrouter, xseq, xage, xsum, xborder, xboundary, xla, xln, xlc, xaa, xan, xac, xcost, xsecond, xfwd, xtag⟩ := x
      simp only at d0 d1 d2 d3 d4 d5 d6
      have p0 : ∀ n os, (Go.Sort.grow (wr.drewN n) os).cell? ⟨b1, o1 + k * 15, none⟩ = some (.int .i64 xtyp) := cell_grown (World.block_lt_of_cell? _ _ d0) d0
      have p1 : ∀ n os, (Go.Sort.grow (wr.drewN n) os).cell? ⟨b1, o1 + k * 15 + 1, none⟩ = some (.int .u32 xid) := cell_grown (World.block_lt_of_cell? _ _ d1) d1
      have p2 : ∀ n os, (Go.Sort.grow (wr.drewN n) os).cell? ⟨b1, o1 + k * 15 + 2, none⟩ = some (.int .i64 xlen) := cell_grown (World.block_lt_of_cell? _ _ d2) d2
      have p3 : ∀ n os, (Go.Sort.grow (wr.drewN n) os).cell? ⟨b1, o1 + k * 15 + 3, none⟩ = some (.int .u32 xrouter) := cell_grown (World.block_lt_of_cell? _ _ d3) d3
      have p4 : ∀ n os, (Go.Sort.grow (wr.drewN n) os).cell? ⟨b1, o1 + k * 15 + 4, none⟩ = some (.int .i64 xseq) := cell_grown (World.block_lt_of_cell? _ _ d4) d4
      have p5 : ∀ n os, (Go.Sort.grow (wr.drewN n) os).cell? ⟨b1, o1 + k * 15 + 5, none⟩ = some (.int .i64 xage) := cell_grown (World.block_lt_of_cell? _ _ d5) d5
      have p6 : ∀ n os, (Go.Sort.grow (wr.drewN n) os).cell? ⟨b1, o1 + k * 15 + 6, none⟩ = some (.int .i64 xsum) := cell_grown (World.block_lt_of_cell? _ _ d6) d6
      have y0 := blk_cell (i := 0) br rfl
      have y1 := blk_cell (i := 1) br rfl
      have y2 := blk_cell (i := 2) br rfl
      have y3 := blk_cell (i := 3) br rfl
      have y0 : ∀ n os, (Go.Sort.grow (wr.drewN n) os).cell? ⟨w.heap.size, 0, none⟩ = some (.int .i64 t) := cell_grown (World.block_lt_of_cell? _ _ y0) y0
      have y1 : ∀ n os, (Go.Sort.grow (wr.drewN n) os).cell? ⟨w.heap.size, 1, none⟩ = some (.int .u32 id) := cell_grown (World.block_lt_of_cell? _ _ y1) y1
      have y2 : ∀ n os, (Go.Sort.grow (wr.drewN n) os).cell? ⟨w.heap.size, 2, none⟩ = some (.int .i64 len) := cell_grown (World.block_lt_of_cell? _ _ y2) y2
      have y3 : ∀ n os, (Go.Sort.grow (wr.drewN n) os).cell? ⟨w.heap.size, 3, none⟩ = some (.int .u32 r) := cell_grown (World.block_lt_of_cell? _ _ y3) y3
      have KK := Lib.hid (fun W => (key_calls xtyp xid xlen xrouter xseq xage xsum W).mono fun _ _ h => (⟨h.1, h.2.grow⟩ : _ ∧ ∃ q os, _ = Go.Sort.grow (World.drewN W q) os))
      simp only [keyE] at KK
      have EQ := fun W => eqKk xtyp xid xlen xrouter t id len r W
      simp only [lkOf] at YES NXT
      clear br d0 d1 d2 d3 d4 d5 d6 d7 d8 d9 d10 d11 d12 d13 d14
      by_cases he : (⟨xtyp, xid, xlen, xrouter⟩ : Kk) = ⟨t, id, len, r⟩
      · have Y := Lib.hid (YES.out he)
        simp only [decide_eq_true he] at EQ
        clear he YES NXT
        go_wp2_with fail
        refine wp_region_quiet_grown (by assumption) (by kernel_rfl) ?_
        repeat (go_big_quiet_step ((go_at_call 79; with_reducible exact Calls.grown_of (KK.out _))))
        refine wpQuiet_nil ?_
        intro _ hw'
        obtain ⟨⟨nq, osq⟩, hw''⟩ := hw'
        subst hw''
        have FI := Lib.hid (Y.out _ (GR2.out nq osq))
        clear p0 p1 p2 p3 p4 p5 p6 y0 y1 y2 y3 EQ KK
        go_wp2_with fail
        go_returns
        exact FI.out
      · have N := Lib.hid (NXT.out he)
        simp only [decide_eq_false he] at EQ
        clear he YES NXT
        go_wp2_with fail
        refine wp_region_quiet_grown (by assumption) (by kernel_rfl) ?_
        repeat (go_big_quiet_step ((go_at_call 79; with_reducible exact Calls.grown_of (KK.out _))))
        refine wpQuiet_nil ?_
        intro _ hw'
        obtain ⟨⟨nq, osq⟩, hw''⟩ := hw'
        subst hw''
        have GZ := Lib.hid (GR.out nq osq)
        clear p0 p1 p2 p3 p4 p5 p6 y0 y1 y2 y3 EQ KK
        go_wp2_with fail
        go_roundw
        case rel => exact ⟨k + 1, by go_num, KC.out, GZ, N⟩
        case measure => simp [intOf]; have := KC.out; omega
    · have E : Hid (FindPost w l ⟨t, id, len, r⟩ (.returned (.int .i64 (-1))) wr) := Lib.hid ⟨-1, rfl, G0.out.trans GG.out, .inl ⟨rfl, fun x hx => by
        obtain ⟨i, hi, rfl⟩ := List.getElem_of_mem hx
        exact NO.out i hi (by omega)⟩⟩
      clear NO
      go_wp2_with fail
      go_ret
      exact E.out

end Go.Proofs.YtogdconliofblaaGreat
