/-
  routingref32.SameHops, SameRoute, SameRoutes: of equal lists they tell true.
-/
import Derived.Test.YtogdconliofblaaGreatFin
import Derived.Test.YtogdconliofblaaGreatLkk
import Derived.Deep.DeepCutAuto
namespace Go.Proofs.YtogdconliofblaaGreat
open Go.RowKit

theorem blk9 {w : World} {b : Nat} {c0 c1 c2 c3 c4 c5 c6 c7 c8 : Value} {t : TypeId} (h : w.heap[b]? = some (.cells #[c0, c1, c2, c3, c4, c5, c6, c7, c8] t (0, 0))) :
    (w.cell? ⟨b, 0, none⟩ = some c0 ∧ w.cell? ⟨b, 1, none⟩ = some c1 ∧ w.cell? ⟨b, 2, none⟩ = some c2 ∧ w.cell? ⟨b, 3, none⟩ = some c3 ∧ w.cell? ⟨b, 4, none⟩ = some c4 ∧ w.cell? ⟨b, 5, none⟩ = some c5 ∧ w.cell? ⟨b, 6, none⟩ = some c6 ∧ w.cell? ⟨b, 7, none⟩ = some c7 ∧ w.cell? ⟨b, 8, none⟩ = some c8) ∧ ∀ i, w.frozen? ⟨b, i, none⟩ = false :=
  ⟨⟨blk_cell h rfl, blk_cell h rfl, blk_cell h rfl, blk_cell h rfl, blk_cell h rfl, blk_cell h rfl, blk_cell h rfl, blk_cell h rfl, blk_cell h rfl⟩, blk_free h⟩

set_option maxHeartbeats 4000000 in
set_option maxRecDepth 100000 in
theorem samehops_calls (w : World) (v1 v2 : Value) (l : List Ls.Hop) (h1 : HopsAt w v1 l) (h2 : HopsAt w v2 l) : Calls Tryz.prog 65 #[v1, v2] w fun e w' => e = .returned (.bool true) ∧ Gr w w' := by
  obtain ⟨a1, c1, rfl, hcap, hml, -, hc1⟩ := h1.get
  obtain ⟨a2, c2, rfl, -, -, -, hc2⟩ := h2.get
  have hlen : l.length ≤ 9223372036854775807 := by unfold maxLen at hml; omega
  have HC1 := Lib.hid hc1
  have HC2 := Lib.hid hc2
  have mixed : Tryz.prog.follows .mixedOrders = true := by kernel_rfl
  clear h1 h2 hc1 hc2 hcap hml
  go_enter Tryz.func65, Tryz.ntmps65
  go_wp2_with fail
  go_loopw [5] (fun i wr => ∃ k : Nat, i = .int .i64 k ∧ k ≤ l.length ∧ Hid (Gr w wr)) (fun i _ => l.length - (intOf i).toNat)
  case atStart => exact ⟨0, rfl, Nat.zero_le _, Lib.hid (Gr.refl _)⟩
  case round =>
    obtain ⟨k, rfl, hk, R⟩ := hrel
    by_cases c : k < l.length
    · obtain ⟨b1, o1, rfl, -, hcc1⟩ := HC1.out (by omega)
      obtain ⟨b2, o2, rfl, -, hcc2⟩ := HC2.out (by omega)
      obtain ⟨d0, d1, d2⟩ := hcc1 k c
      obtain ⟨e0, e1, e2⟩ := hcc2 k c
      have d0 := bcell R.out.b d0
      have d1 := bcell R.out.b d1
      have d2 := bcell R.out.b d2
      have e0 := bcell R.out.b e0
      have e1 := bcell R.out.b e1
      have e2 := bcell R.out.b e2
      clear hcc1 hcc2
      have E : ∀ W, (binOp .neq 60 (.agg #[.int .i64 l[k].iface, .int .u32 l[k].addr, .int .u32 l[k].router]) (.agg #[.int .i64 l[k].iface, .int .u32 l[k].addr, .int .u32 l[k].router])).run Tryz.prog W = .ok (.bool false) W := fun W => by
        have := neqHop l[k] l[k] W
        rwa [decide_eq_true rfl] at this
      generalize l[k].iface = hi at *
      generalize l[k].addr = ha at *
      generalize l[k].router = hr at *
      have NX : Hid (∀ n, Gr w (wr.drewN n)) := Lib.hid (fun n => R.out.drewN n)
      have i0 : (0 : Int) ≤ (k : Int) := by omega
      have i1 : (k : Int) < (l.length : Int) := by omega
      have s3 : ((k : Int)).toNat = k := by omega
      go_wp2_with fail
      go_quiet (fail)
      clear d0 d1 d2 e0 e1 e2 E
      go_wp2_with fail
      go_roundw
      case rel => exact ⟨k + 1, by go_num, by omega, Lib.hid (NX.out _)⟩
      case measure => simp [intOf]; omega
    · have FIN := Lib.hid R.out
      clear R
      go_wp2_with fail
      go_ret
      exact ⟨rfl, FIN.out⟩

set_option maxHeartbeats 8000000 in
set_option maxRecDepth 100000 in
theorem sameroute_calls (w : World) (a b : Rt) (l : List Ls.Hop) (h1 : HopsAt w a.hv l) (h2 : HopsAt w b.hv l) (e : (⟨a, l⟩ : RtH).pure = (⟨b, l⟩ : RtH).pure) :
    Calls Tryz.prog 60 #[.agg (rtE a).toArray, .agg (rtE b).toArray] w fun e w' => e = .returned (.bool true) ∧ Gr w w' := by
  obtain ⟨⟨pa, pl⟩, proto, area, cost, second, cost2, tag, aa, an, ac⟩ := a
  obtain ⟨⟨qa, ql⟩, proto', area', cost', second', cost2', tag', ba, bn, bc⟩ := b
  simp only [RtH.pure, Rp.mk.injEq, Ls.Pfx.mk.injEq] at e
  obtain ⟨⟨rfl, rfl⟩, rfl, rfl, rfl, rfl, rfl, rfl, -⟩ := e
  have E : ∀ W, (binOp .eql 55 (.agg #[.int .u32 pa, .int .i64 pl]) (.agg #[.int .u32 pa, .int .i64 pl])).run Tryz.prog W = .ok (.bool true) W := fun W => by
    have := eqPfx ⟨pa, pl⟩ ⟨pa, pl⟩ W
    rwa [decide_eq_true rfl] at this
  have SH := Lib.hid (fun W (hb : Gr w W) => samehops_calls W _ _ l (h1.below hb.b) (h2.below hb.b))
  clear h1 h2
  simp only [Rt.hv] at SH
  simp only [rtE]
  obtain ⟨W0, hW0⟩ : ∃ W0, (w.alloc (.cells #[.int .u32 pa, .int .i64 pl, .int .i64 proto, .int .u32 area, .int .i64 cost, .bool second, .int .i64 cost2, .int .i64 tag, .slice aa an ac] 57)).alloc (.cells #[.int .u32 pa, .int .i64 pl, .int .i64 proto, .int .u32 area, .int .i64 cost, .bool second, .int .i64 cost2, .int .i64 tag, .slice ba bn bc] 57) = W0 := ⟨_, rfl⟩
  have b0 : W0.heap[w.heap.size]? = some (.cells #[.int .u32 pa, .int .i64 pl, .int .i64 proto, .int .u32 area, .int .i64 cost, .bool second, .int .i64 cost2, .int .i64 tag, .slice aa an ac] 57 (0, 0)) := by rw [← hW0]; exact (alloc_get _ _ _ (by simp)).trans (alloc_new w _)
  have b1 : W0.heap[w.heap.size + 1]? = some (.cells #[.int .u32 pa, .int .i64 pl, .int .i64 proto, .int .u32 area, .int .i64 cost, .bool second, .int .i64 cost2, .int .i64 tag, .slice ba bn bc] 57 (0, 0)) := by rw [← hW0]; exact blk_new2 w _ _
  have G0 : Gr w W0 := by rw [← hW0]; exact ((Gr.refl _).alloc _).alloc _
  have SH1 := Lib.hid (SH.out W0 G0)
  have HW0 := Lib.hid hW0
  have HG0 := Lib.hid G0
  clear hW0 G0 SH
  obtain ⟨⟨x0, x1, x2, x3, x4, x5, x6, x7, x8⟩, -⟩ := blk9 b0
  obtain ⟨⟨y0, y1, y2, y3, y4, y5, y6, y7, y8⟩, -⟩ := blk9 b1
  clear b0 b1
  go_enter Tryz.func60, Tryz.ntmps60
  go_upto_region 1 with fail
  rw [HW0.out]
  go_wp2_with fail
  refine SH1.out.mono ?_
  rintro e w1 ⟨rfl, G1⟩
  have FIN := Lib.hid (HG0.out.trans G1)
  clear G1
  go_wp2_with fail
  go_ret
  exact ⟨rfl, FIN.out⟩

set_option maxHeartbeats 8000000 in
set_option maxRecDepth 100000 in
theorem sameroutes_calls (w : World) (v1 v2 : Value) (l1 l2 : List RtH) (h1 : RoutesAt w v1 l1) (h2 : RoutesAt w v2 l2) (he : l1.map RtH.pure = l2.map RtH.pure) : Calls Tryz.prog 24 #[v1, v2] w fun e w' => e = .returned (.bool true) ∧ Below w.heap.size w w' := by
  have hln : l1.length = l2.length := by have := congrArg List.length he; simpa using this
  have EQ : Hid (∀ k, k < l1.length → ∃ l, HopsAt w (rthAt l1 k).rt.hv l ∧ HopsAt w (rthAt l2 k).rt.hv l ∧ (⟨(rthAt l1 k).rt, l⟩ : RtH).pure = (⟨(rthAt l2 k).rt, l⟩ : RtH).pure) := Lib.hid (fun k hk => by
    have hk2 : k < l2.length := by omega
    have e1 : (l1.map RtH.pure)[k]? = (l2.map RtH.pure)[k]? := by rw [he]
    rw [List.getElem?_map, List.getElem?_map, List.getElem?_eq_getElem hk, List.getElem?_eq_getElem hk2] at e1
    have e2 : (l1[k]).pure = (l2[k]).pure := Option.some.inj e1
    rw [rthAt_eq hk, rthAt_eq hk2]
    refine ⟨l1[k].hops, h1.hops _ (List.getElem_mem hk), ?_, ?_⟩
    · have e3 : l1[k].hops = l2[k].hops := congrArg Rp.hops e2
      rw [e3]
      exact h2.hops _ (List.getElem_mem hk2)
    · simp only [RtH.pure, Rp.mk.injEq] at e2 ⊢
      exact ⟨e2.1, e2.2.1, e2.2.2.1, e2.2.2.2.1, e2.2.2.2.2.1, e2.2.2.2.2.2.1, e2.2.2.2.2.2.2.1, trivial⟩)
  obtain ⟨a1, c1, rfl, hlen, hc1⟩ := h1.get
  obtain ⟨a2, c2, rfl, -, hc2⟩ := h2.get
  have HC1 := Lib.hid hc1
  have HC2 := Lib.hid hc2
  have HLN := Lib.hid hln
  rw [← hln]
  have mixed : Tryz.prog.follows .mixedOrders = true := by kernel_rfl
  clear h1 h2 hc1 hc2 he hln
  go_enter Tryz.func24, Tryz.ntmps24
  go_wp2_with fail
  go_loopw [5] (fun i wr => ∃ k : Nat, i = .int .i64 k ∧ k ≤ l1.length ∧ Hid (Gr w wr)) (fun i _ => l1.length - (intOf i).toNat)
  case atStart => exact ⟨0, rfl, Nat.zero_le _, Lib.hid (Gr.refl _)⟩
  case round =>
    obtain ⟨k, rfl, hk, R⟩ := hrel
    by_cases c : k < l1.length
    · have c2 : k < l2.length := by have := HLN.out; omega
      obtain ⟨b1, o1, rfl, hb1, hcc1⟩ := HC1.out (by omega)
      obtain ⟨b2, o2, rfl, hb2, hcc2⟩ := HC2.out (by have := HLN.out; omega)
      have hcc1 := hcc1 k c
      have hcc2 := hcc2 k c2
      rw [← rthAt_eq c] at hcc1
      rw [← rthAt_eq c2] at hcc2
      obtain ⟨d0, d1, d2, d3, d4, d5, d6, d7, d8⟩ := hcc1.below R.out.b hb1
      obtain ⟨e0, e1, e2, e3, e4, e5, e6, e7, e8⟩ := hcc2.below R.out.b hb2
      obtain ⟨l, g1, g2, g3⟩ := EQ.out k c
      have NX : Hid (∀ n os, Gr w (Go.Sort.grow (wr.drewN n) os)) := Lib.hid (fun n os => R.out.trans (Gr.of_grow n os))
      have SC := Lib.hid (fun n os => (sameroute_calls (Go.Sort.grow (wr.drewN n) os) (rthAt l1 k).rt (rthAt l2 k).rt l (g1.below (NX.out n os).b) (g2.below (NX.out n os).b) g3).mono fun _ _ h => (⟨h.1, h.2.grow⟩ : _ ∧ ∃ q os', _ = Go.Sort.grow (World.drewN _ q) os'))
      clear hcc1 hcc2 g1 g2
      generalize (rthAt l1 k).rt = y1 at *
      generalize (rthAt l2 k).rt = y2 at *
      obtain ⟨⟨pa, pl⟩, proto, area, cost, second, cost2, tag, aa, an, ac⟩ := y1
      obtain ⟨⟨qa, ql⟩, proto', area', cost', second', cost2', tag', ba, bn, bc⟩ := y2
      simp only [RtH.pure, Rp.mk.injEq, Ls.Pfx.mk.injEq] at g3
      obtain ⟨⟨rfl, rfl⟩, rfl, rfl, rfl, rfl, rfl, rfl, -⟩ := g3
      simp only [rtE] at SC
      simp only at d0 d1 d2 d3 d4 d5 d6 d7 d8 e0 e1 e2 e3 e4 e5 e6 e7 e8
      have i0 : (0 : Int) ≤ (k : Int) := by omega
      have i1 : (k : Int) < (l1.length : Int) := by omega
      have s3 : ((k : Int)).toNat = k := by omega
      have x0 : ∀ n os, (Go.Sort.grow (wr.drewN n) os).cell? ⟨b1, o1 + k * 9, none⟩ = some (.int .u32 pa) := cell_grown (World.block_lt_of_cell? _ _ d0) d0
      have x1 : ∀ n os, (Go.Sort.grow (wr.drewN n) os).cell? ⟨b1, o1 + k * 9 + 1, none⟩ = some (.int .i64 pl) := cell_grown (World.block_lt_of_cell? _ _ d1) d1
      have x2 : ∀ n os, (Go.Sort.grow (wr.drewN n) os).cell? ⟨b1, o1 + k * 9 + 2, none⟩ = some (.int .i64 proto) := cell_grown (World.block_lt_of_cell? _ _ d2) d2
      have x3 : ∀ n os, (Go.Sort.grow (wr.drewN n) os).cell? ⟨b1, o1 + k * 9 + 3, none⟩ = some (.int .u32 area) := cell_grown (World.block_lt_of_cell? _ _ d3) d3
      have x4 : ∀ n os, (Go.Sort.grow (wr.drewN n) os).cell? ⟨b1, o1 + k * 9 + 4, none⟩ = some (.int .i64 cost) := cell_grown (World.block_lt_of_cell? _ _ d4) d4
      have x5 : ∀ n os, (Go.Sort.grow (wr.drewN n) os).cell? ⟨b1, o1 + k * 9 + 5, none⟩ = some (.bool second) := cell_grown (World.block_lt_of_cell? _ _ d5) d5
      have x6 : ∀ n os, (Go.Sort.grow (wr.drewN n) os).cell? ⟨b1, o1 + k * 9 + 6, none⟩ = some (.int .i64 cost2) := cell_grown (World.block_lt_of_cell? _ _ d6) d6
      have x7 : ∀ n os, (Go.Sort.grow (wr.drewN n) os).cell? ⟨b1, o1 + k * 9 + 7, none⟩ = some (.int .i64 tag) := cell_grown (World.block_lt_of_cell? _ _ d7) d7
      have x8 : ∀ n os, (Go.Sort.grow (wr.drewN n) os).cell? ⟨b1, o1 + k * 9 + 8, none⟩ = some (.slice aa an ac) := cell_grown (World.block_lt_of_cell? _ _ d8) d8
      have y0 : ∀ n os, (Go.Sort.grow (wr.drewN n) os).cell? ⟨b2, o2 + k * 9, none⟩ = some (.int .u32 pa) := cell_grown (World.block_lt_of_cell? _ _ e0) e0
      have y1 : ∀ n os, (Go.Sort.grow (wr.drewN n) os).cell? ⟨b2, o2 + k * 9 + 1, none⟩ = some (.int .i64 pl) := cell_grown (World.block_lt_of_cell? _ _ e1) e1
      have y2 : ∀ n os, (Go.Sort.grow (wr.drewN n) os).cell? ⟨b2, o2 + k * 9 + 2, none⟩ = some (.int .i64 proto) := cell_grown (World.block_lt_of_cell? _ _ e2) e2
      have y3 : ∀ n os, (Go.Sort.grow (wr.drewN n) os).cell? ⟨b2, o2 + k * 9 + 3, none⟩ = some (.int .u32 area) := cell_grown (World.block_lt_of_cell? _ _ e3) e3
      have y4 : ∀ n os, (Go.Sort.grow (wr.drewN n) os).cell? ⟨b2, o2 + k * 9 + 4, none⟩ = some (.int .i64 cost) := cell_grown (World.block_lt_of_cell? _ _ e4) e4
      have y5 : ∀ n os, (Go.Sort.grow (wr.drewN n) os).cell? ⟨b2, o2 + k * 9 + 5, none⟩ = some (.bool second) := cell_grown (World.block_lt_of_cell? _ _ e5) e5
      have y6 : ∀ n os, (Go.Sort.grow (wr.drewN n) os).cell? ⟨b2, o2 + k * 9 + 6, none⟩ = some (.int .i64 cost2) := cell_grown (World.block_lt_of_cell? _ _ e6) e6
      have y7 : ∀ n os, (Go.Sort.grow (wr.drewN n) os).cell? ⟨b2, o2 + k * 9 + 7, none⟩ = some (.int .i64 tag) := cell_grown (World.block_lt_of_cell? _ _ e7) e7
      have y8 : ∀ n os, (Go.Sort.grow (wr.drewN n) os).cell? ⟨b2, o2 + k * 9 + 8, none⟩ = some (.slice ba bn bc) := cell_grown (World.block_lt_of_cell? _ _ e8) e8
      clear d0 d1 d2 d3 d4 d5 d6 d7 d8 e0 e1 e2 e3 e4 e5 e6 e7 e8
      go_wp2_with fail
      refine wp_region_quiet_grown (by assumption) (by kernel_rfl) ?_
      repeat (go_big_quiet_step ((go_at_call 60; with_reducible exact Calls.grown_of (SC.out _ _))))
      refine wpQuiet_nil ?_
      intro _ hw'
      obtain ⟨⟨nq, osq⟩, hw''⟩ := hw'
      subst hw''
      have NXz := Lib.hid (NX.out nq osq)
      clear SC x0 x1 x2 x3 x4 x5 x6 x7 x8 y0 y1 y2 y3 y4 y5 y6 y7 y8
      go_wp2_with fail
      go_roundw
      case rel => exact ⟨k + 1, by go_num, by omega, NXz⟩
      case measure => simp [intOf]; omega
    · have FIN := Lib.hid R.out
      clear R
      go_wp2_with fail
      go_ret
      exact ⟨rfl, FIN.out.b⟩

end Go.Proofs.YtogdconliofblaaGreat
