/-
  routinglaw33.other.
-/
/-
  InterRanges in plain words: a route that a range takes has no summary of its own.
-/
import Derived.Test.YtogdconliofblaaGreatTkr
import Derived.Test.YtogdconliofblaaGreatBkl
import Derived.Test.YtogdconliofblaaGreatBkp
namespace Go.Proofs.YtogdconliofblaaGreat
open Go.RowKit

/-- is the prefix that of a range, or of a route that no range takes? -/
def othB (lr : List Arg) (rs : List RtH) (p : Ls.Pfx) : Bool := lr.any (fun g => decide (g.pfx = p)) || rs.any fun y => decide (y.rt.pfx = p) && (tkK lr y.rt lr.length).isNone
theorem oth_yes1 {lr : List Arg} (rs : List RtH) {p : Ls.Pfx} {k : Nat} (c : k < lr.length) (h : (argAt lr k).pfx = p) : othB lr rs p = true := by
  rw [argAt_eq c] at h
  unfold othB
  rw [Bool.or_eq_true]
  exact .inl (List.any_eq_true.2 ⟨_, List.getElem_mem c, by simpa using h⟩)
theorem oth_yes2 (lr : List Arg) {rs : List RtH} {p : Ls.Pfx} {k : Nat} (c : k < rs.length) (h : (rthAt rs k).rt.pfx = p) (h2 : tkK lr (rthAt rs k).rt lr.length = none) : othB lr rs p = true := by
  rw [rthAt_eq c] at h h2
  unfold othB
  rw [Bool.or_eq_true]
  exact .inr (List.any_eq_true.2 ⟨_, List.getElem_mem c, by simp [h, h2]⟩)
theorem oth_no {lr : List Arg} {rs : List RtH} {p : Ls.Pfx} (h1 : ∀ m, m < lr.length → (argAt lr m).pfx ≠ p) (h2 : ∀ m, m < rs.length → ¬ ((rthAt rs m).rt.pfx = p ∧ tkK lr (rthAt rs m).rt lr.length = none)) : othB lr rs p = false := by
  unfold othB
  rw [Bool.or_eq_false_iff, List.any_eq_false, List.any_eq_false]
  refine ⟨fun g hg => ?_, fun y hy => ?_⟩
  · obtain ⟨i, hi, rfl⟩ := List.getElem_of_mem hg
    have := h1 i hi
    rw [argAt_eq hi] at this
    simpa using this
  · obtain ⟨i, hi, rfl⟩ := List.getElem_of_mem hy
    have := h2 i hi
    rw [rthAt_eq hi] at this
    simpa using this

set_option maxHeartbeats 8000000 in
set_option maxRecDepth 100000 in
theorem other_calls (w : World) (C : Cfg) (lr : List Arg) (hlr : RngsAt w (.slice C.ra C.rn C.rc) lr) (okl : ∀ o ∈ lr, validP o.pfx = true) (vr : Value) (rs : List RtH) (hr : RoutesAt w vr rs) (okr : ∀ y ∈ rs, OkP y.rt.pfx) (p : Ls.Pfx) :
    Calls Tryz.prog 21 #[.agg (cfgE C).toArray, vr, .agg #[.int .u32 p.addr, .int .i64 p.len]] w fun e w' => e = .returned (.bool (othB lr rs p)) ∧ Gr w w' := by
  have TK := Lib.hid (fun W (hb : Below w.heap.size w W) r okr => taker_calls W _ lr (hlr.below hb) okl r okr)
  obtain ⟨a1, c1, e1, hl1, hc1⟩ := hlr.get
  obtain ⟨a2, c2, rfl, hl2, hc2⟩ := hr.get
  have HC1 := Lib.hid hc1
  have HC2 := Lib.hid hc2
  have OKR := Lib.hid okr
  have mixed : Tryz.prog.follows .mixedOrders = true := by kernel_rfl
  clear hlr hr okl okr hc1 hc2
  obtain ⟨router, ia, iN, ic, ra, rn, rc⟩ := C
  simp only [Value.slice.injEq] at e1
  obtain ⟨rfl, rfl, rfl⟩ := e1
  obtain ⟨W0, hW0⟩ : ∃ W0, (w.alloc (.cells #[.int .u32 router, .slice ia iN ic, .slice ra lr.length rc] 26)).alloc (.cells #[.int .u32 p.addr, .int .i64 p.len] 55) = W0 := ⟨_, rfl⟩
  have b0 : W0.heap[w.heap.size]? = some (.cells #[.int .u32 router, .slice ia iN ic, .slice ra lr.length rc] 26 (0, 0)) := by rw [← hW0]; exact (alloc_get _ _ _ (by simp)).trans (alloc_new w _)
  have b1 : W0.heap[w.heap.size + 1]? = some (.cells #[.int .u32 p.addr, .int .i64 p.len] 55 (0, 0)) := by rw [← hW0]; exact blk_new2 w _ _
  have G0 : Hid (Gr w W0) := Lib.hid (by rw [← hW0]; exact ((Gr.refl _).alloc _).alloc _)
  have HB0 := Lib.hid b0
  have HB1 := Lib.hid b1
  have HW0 := Lib.hid hW0
  have y2 := blk_cell (i := 2) b0 rfl
  simp only [cfgE]
  clear hW0 b0 b1
  obtain ⟨P, hP⟩ : ∃ P, P = p := ⟨_, rfl⟩
  have HP := Lib.hid hP
  rw [← hP]
  clear hP
  obtain ⟨pa, pl⟩ := p
  simp only at HW0 HB1 ⊢
  rw [HP.out]
  simp only
  have YES1 := Lib.hid (fun k c h => oth_yes1 (lr := lr) rs (p := P) (k := k) c h)
  have YES2 := Lib.hid (fun k c h h2 => oth_yes2 lr (rs := rs) (p := P) (k := k) c h h2)
  have NON := Lib.hid (oth_no (lr := lr) (rs := rs) (p := P))
  have EB : Hid (othB lr rs ⟨pa, pl⟩ = othB lr rs P) := Lib.hid (by rw [HP.out])
  rw [EB.out]
  generalize hob : othB lr rs P = ob at *
  clear hob
  go_enter Tryz.func21, Tryz.ntmps21
  go_upto_region 1 with fail
  rw [HW0.out]
  go_wp2_with fail
  clear y2
  go_loopw [12] (fun iv wr => ∃ k : Nat, iv = .int .i64 k ∧ k ≤ lr.length ∧ Hid (Gr W0 wr) ∧ Hid (∀ m, m < k → (argAt lr m).pfx ≠ P)) (fun i _ => lr.length - (intOf i).toNat)
  case atStart => exact ⟨0, rfl, Nat.zero_le _, Lib.hid (Gr.refl _), Lib.hid (fun m hm => absurd hm (by omega))⟩
  case round =>
    obtain ⟨k, rfl, hk, GG, NO⟩ := hrel
    by_cases c : k < lr.length
    · obtain ⟨b, off, rfl, hb0, hcc⟩ := HC1.out (by omega)
      obtain ⟨-, d1, d2, -⟩ := ((hcc k c).below G0.out.b hb0).below GG.out.b (Nat.lt_of_lt_of_le hb0 G0.out.b.size)
      rw [← argAt_eq c] at d1 d2
      have br := (GG.out.b.block _ (blk_lt HB0.out)).trans HB0.out
      have bp := (GG.out.b.block _ (blk_lt HB1.out)).trans HB1.out
      have Y := Lib.hid (YES1.out k c)
      have NX : Hid ((argAt lr k).pfx ≠ P → ∀ m, m < k + 1 → (argAt lr m).pfx ≠ P) := Lib.hid (fun h m hm => by
        rcases Nat.lt_or_ge m k with h' | h'
        · exact NO.out m h'
        · obtain rfl : m = k := by omega
          exact h)
      have GR := Lib.hid (fun n os => GG.out.trans (Gr.of_grow (W := wr) n os))
      have GR2 := Lib.hid (fun n os => G0.out.trans (GR.out n os))
      have KC := Lib.hid c
      have n0 : (0 : Int) ≤ (k : Int) := by omega
      have n1 : (k : Int) < (lr.length : Int) := by omega
      have n3 : ((k : Int)).toNat = k := by omega
      have y2 := blk_cell (i := 2) br rfl
      have y2 : ∀ n os, (Go.Sort.grow (wr.drewN n) os).cell? ⟨w.heap.size, 2, none⟩ = some (.slice (some ⟨b, off, none⟩) lr.length rc) := cell_grown (World.block_lt_of_cell? _ _ y2) y2
      have p0 := blk_cell (i := 0) bp rfl
      have p1 := blk_cell (i := 1) bp rfl
      have p0 : ∀ n os, (Go.Sort.grow (wr.drewN n) os).cell? ⟨w.heap.size + 1, 0, none⟩ = some (.int .u32 pa) := cell_grown (World.block_lt_of_cell? _ _ p0) p0
      have p1 : ∀ n os, (Go.Sort.grow (wr.drewN n) os).cell? ⟨w.heap.size + 1, 1, none⟩ = some (.int .i64 pl) := cell_grown (World.block_lt_of_cell? _ _ p1) p1
      clear hcc NO c br bp
      generalize argAt lr k = g at *
      obtain ⟨ga, ⟨gp, gl⟩, gadv⟩ := g
      simp only at d1 d2 Y NX
      have x1 : ∀ n os, (Go.Sort.grow (wr.drewN n) os).cell? ⟨b, off + k * 4 + 1, none⟩ = some (.int .u32 gp) := cell_grown (World.block_lt_of_cell? _ _ d1) d1
      have x2 : ∀ n os, (Go.Sort.grow (wr.drewN n) os).cell? ⟨b, off + k * 4 + 2, none⟩ = some (.int .i64 gl) := cell_grown (World.block_lt_of_cell? _ _ d2) d2
      have EQ := fun W => eqPfx ⟨gp, gl⟩ ⟨pa, pl⟩ W
      clear d1 d2
      by_cases he : (⟨gp, gl⟩ : Ls.Pfx) = ⟨pa, pl⟩
      · have EO := Lib.hid (Y.out (he.trans HP.out.symm))
        simp only [decide_eq_true he] at EQ
        clear he Y NX
        go_wp2_with fail
        refine wp_region_quiet_grown (by assumption) (by kernel_rfl) ?_
        repeat (go_big_quiet_step (fail))
        refine wpQuiet_nil ?_
        intro _ hw'
        obtain ⟨⟨nq, osq⟩, hw''⟩ := hw'
        subst hw''
        have FI := Lib.hid (GR2.out nq osq)
        clear x1 x2 y2 p0 p1 EQ
        go_wp2_with fail
        go_returns
        exact ⟨by rw [EO.out]; rfl, FI.out⟩
      · have N := Lib.hid (NX.out (fun h => he (h.trans HP.out)))
        simp only [decide_eq_false he] at EQ
        clear he Y NX
        go_wp2_with fail
        refine wp_region_quiet_grown (by assumption) (by kernel_rfl) ?_
        repeat (go_big_quiet_step (fail))
        refine wpQuiet_nil ?_
        intro _ hw'
        obtain ⟨⟨nq, osq⟩, hw''⟩ := hw'
        subst hw''
        have GZ := Lib.hid (GR.out nq osq)
        clear x1 x2 y2 p0 p1 EQ
        go_wp2_with fail
        go_roundw
        case rel => exact ⟨k + 1, by go_num, KC.out, GZ, N⟩
        case measure => simp [intOf]; have := KC.out; omega
    · have NO1 : Hid (∀ m, m < lr.length → (argAt lr m).pfx ≠ P) := Lib.hid (fun m hm => NO.out m (by omega))
      have HGG := Lib.hid GG.out
      clear NO GG hk
      obtain ⟨W5, hW5⟩ : ∃ W5, W5 = wr := ⟨_, rfl⟩
      subst hW5
      go_wp2_with fail
      go_loopw [26] (fun iv wr => ∃ k : Nat, iv = .int .i64 k ∧ k ≤ rs.length ∧ Hid (Gr W0 wr) ∧ Hid (∀ m, m < k → ¬ ((rthAt rs m).rt.pfx = P ∧ tkK lr (rthAt rs m).rt lr.length = none))) (fun i _ => rs.length - (intOf i).toNat)
      case atStart => exact ⟨0, rfl, Nat.zero_le _, HGG, Lib.hid (fun m hm => absurd hm (by omega))⟩
      case round =>
        clear HGG
        obtain ⟨k, rfl, hk, GG, NO⟩ := hrel
        by_cases c : k < rs.length
        · obtain ⟨b2, o2, rfl, hb0, hcc⟩ := HC2.out (by omega)
          obtain ⟨d0, d1, d2, d3, d4, d5, d6, d7, d8⟩ := ((hcc k c).below G0.out.b hb0).below GG.out.b (Nat.lt_of_lt_of_le hb0 G0.out.b.size)
          rw [← rthAt_eq c] at d0 d1 d2 d3 d4 d5 d6 d7 d8
          have okk : OkP (rthAt rs k).rt.pfx := by rw [rthAt_eq c]; exact OKR.out _ (List.getElem_mem c)
          have br := (GG.out.b.block _ (blk_lt HB0.out)).trans HB0.out
          have bp := (GG.out.b.block _ (blk_lt HB1.out)).trans HB1.out
          have Y := Lib.hid (YES2.out k c)
          have NX : Hid (¬ ((rthAt rs k).rt.pfx = P ∧ tkK lr (rthAt rs k).rt lr.length = none) → ∀ m, m < k + 1 → ¬ ((rthAt rs m).rt.pfx = P ∧ tkK lr (rthAt rs m).rt lr.length = none)) := Lib.hid (fun h m hm => by
            rcases Nat.lt_or_ge m k with h' | h'
            · exact NO.out m h'
            · obtain rfl : m = k := by omega
              exact h)
          have BWW := Lib.hid (G0.out.trans GG.out)
          have TC := Lib.hid (fun n os => (TK.out (Go.Sort.grow (wr.drewN n) os) (BWW.out.trans (Gr.of_grow n os)).b (rthAt rs k).rt okk).mono fun _ _ h => (⟨h.1, h.2.grow⟩ : _ ∧ ∃ q os', _ = Go.Sort.grow (World.drewN _ q) os'))
          have GR := Lib.hid (fun n os => GG.out.trans (Gr.of_grow (W := wr) n os))
          have GR2 := Lib.hid (fun n os => G0.out.trans (GR.out n os))
          have KC := Lib.hid c
          have n0 : (0 : Int) ≤ (k : Int) := by omega
          have n1 : (k : Int) < (rs.length : Int) := by omega
          have n3 : ((k : Int)).toNat = k := by omega
          have y2 := blk_cell (i := 2) br rfl
          have y2 : ∀ n os, (Go.Sort.grow (wr.drewN n) os).cell? ⟨w.heap.size, 2, none⟩ = some (.slice ra lr.length rc) := cell_grown (World.block_lt_of_cell? _ _ y2) y2
          have p0 := blk_cell (i := 0) bp rfl
          have p1 := blk_cell (i := 1) bp rfl
          have p0 : ∀ n os, (Go.Sort.grow (wr.drewN n) os).cell? ⟨w.heap.size + 1, 0, none⟩ = some (.int .u32 pa) := cell_grown (World.block_lt_of_cell? _ _ p0) p0
          have p1 : ∀ n os, (Go.Sort.grow (wr.drewN n) os).cell? ⟨w.heap.size + 1, 1, none⟩ = some (.int .i64 pl) := cell_grown (World.block_lt_of_cell? _ _ p1) p1
          clear hcc NO c br bp okk
          generalize htk : tkK lr (rthAt rs k).rt lr.length = o at *
          clear htk
          generalize rthAt rs k = y at *
          obtain ⟨⟨⟨xa, xl⟩, xproto, xarea, xcost, xsecond, xcost2, xtag, xha, xhn, xhc⟩, hops⟩ := y
          simp only [rtE] at d0 d1 d2 d3 d4 d5 d6 d7 d8 Y NX TC
          have r0 : ∀ n os, (Go.Sort.grow (wr.drewN n) os).cell? ⟨b2, o2 + k * 9, none⟩ = some (.int .u32 xa) := cell_grown (World.block_lt_of_cell? _ _ d0) d0
          have r1 : ∀ n os, (Go.Sort.grow (wr.drewN n) os).cell? ⟨b2, o2 + k * 9 + 1, none⟩ = some (.int .i64 xl) := cell_grown (World.block_lt_of_cell? _ _ d1) d1
          have r2 : ∀ n os, (Go.Sort.grow (wr.drewN n) os).cell? ⟨b2, o2 + k * 9 + 2, none⟩ = some (.int .i64 xproto) := cell_grown (World.block_lt_of_cell? _ _ d2) d2
          have r3 : ∀ n os, (Go.Sort.grow (wr.drewN n) os).cell? ⟨b2, o2 + k * 9 + 3, none⟩ = some (.int .u32 xarea) := cell_grown (World.block_lt_of_cell? _ _ d3) d3
          have r4 : ∀ n os, (Go.Sort.grow (wr.drewN n) os).cell? ⟨b2, o2 + k * 9 + 4, none⟩ = some (.int .i64 xcost) := cell_grown (World.block_lt_of_cell? _ _ d4) d4
          have r5 : ∀ n os, (Go.Sort.grow (wr.drewN n) os).cell? ⟨b2, o2 + k * 9 + 5, none⟩ = some (.bool xsecond) := cell_grown (World.block_lt_of_cell? _ _ d5) d5
          have r6 : ∀ n os, (Go.Sort.grow (wr.drewN n) os).cell? ⟨b2, o2 + k * 9 + 6, none⟩ = some (.int .i64 xcost2) := cell_grown (World.block_lt_of_cell? _ _ d6) d6
          have r7 : ∀ n os, (Go.Sort.grow (wr.drewN n) os).cell? ⟨b2, o2 + k * 9 + 7, none⟩ = some (.int .i64 xtag) := cell_grown (World.block_lt_of_cell? _ _ d7) d7
          have r8 : ∀ n os, (Go.Sort.grow (wr.drewN n) os).cell? ⟨b2, o2 + k * 9 + 8, none⟩ = some (.slice xha xhn xhc) := cell_grown (World.block_lt_of_cell? _ _ d8) d8
          have EQ := fun W => eqPfx ⟨xa, xl⟩ ⟨pa, pl⟩ W
          clear d0 d1 d2 d3 d4 d5 d6 d7 d8
          by_cases he : (⟨xa, xl⟩ : Ls.Pfx) = ⟨pa, pl⟩
          · simp only [decide_eq_true he] at EQ
            cases o with
            | none =>
              have EO := Lib.hid (Y.out (he.trans HP.out.symm) rfl)
              simp only [tkI] at TC
              clear he Y NX
              go_wp2_with fail
              refine wp_region_quiet_grown (by assumption) (by kernel_rfl) ?_
              repeat (go_big_quiet_step ((go_at_call 20; with_reducible exact Calls.grown_of (TC.out _ _))))
              refine wpQuiet_nil ?_
              intro _ hw'
              obtain ⟨⟨nq, osq⟩, hw''⟩ := hw'
              subst hw''
              have FI := Lib.hid (GR2.out nq osq)
              clear r0 r1 r2 r3 r4 r5 r6 r7 r8 y2 p0 p1 EQ
              go_wp2_with fail
              go_returns
              exact ⟨by rw [EO.out]; rfl, FI.out⟩
            | some j =>
              have N := Lib.hid (NX.out (fun h => by cases h.2))
              have jn : decide ((j : Int) < 0) = false := decide_eq_false (by omega)
              simp only [tkI] at TC
              clear he Y NX
              go_wp2_with fail
              refine wp_region_quiet_grown (by assumption) (by kernel_rfl) ?_
              repeat (go_big_quiet_step ((go_at_call 20; with_reducible exact Calls.grown_of (TC.out _ _))))
              refine wpQuiet_nil ?_
              intro _ hw'
              obtain ⟨⟨nq, osq⟩, hw''⟩ := hw'
              subst hw''
              have GZ := Lib.hid (GR.out nq osq)
              clear r0 r1 r2 r3 r4 r5 r6 r7 r8 y2 p0 p1 EQ
              go_wp2_with fail
              go_roundw
              case rel => exact ⟨k + 1, by go_num, KC.out, GZ, N⟩
              case measure => simp [intOf]; have := KC.out; omega
          · have N := Lib.hid (NX.out (fun h => he (h.1.trans HP.out)))
            simp only [decide_eq_false he] at EQ
            clear he Y NX
            go_wp2_with fail
            refine wp_region_quiet_grown (by assumption) (by kernel_rfl) ?_
            repeat (go_big_quiet_step (fail))
            refine wpQuiet_nil ?_
            intro _ hw'
            obtain ⟨⟨nq, osq⟩, hw''⟩ := hw'
            subst hw''
            have GZ := Lib.hid (GR.out nq osq)
            clear r0 r1 r2 r3 r4 r5 r6 r7 r8 y2 p0 p1 EQ
            go_wp2_with fail
            go_roundw
            case rel => exact ⟨k + 1, by go_num, KC.out, GZ, N⟩
            case measure => simp [intOf]; have := KC.out; omega
        · have E : Hid (ob = false ∧ Gr w wr) := Lib.hid ⟨NON.out NO1.out (fun m hm => NO.out m (by omega)), G0.out.trans GG.out⟩
          clear NO
          go_wp2_with fail
          go_ret
          exact ⟨by rw [E.out.1]; rfl, E.out.2⟩

end Go.Proofs.YtogdconliofblaaGreat

namespace Go.Proofs.YtogdconliofblaaGreat
open Go.RowKit

theorem covB_T {g : Arg} {r : Rt} (hg : validP g.pfx = true) (hr : validP r.pfx = true) : covB g r = covT g r := by
  unfold covB covT pcovB containsP cv33
  rw [hg, hr, Bool.true_and, Bool.true_and]
  congr 2
  by_cases h : r.area = g.area
  · rw [decide_eq_true h, decide_eq_true h.symm]
  · rw [decide_eq_false h, decide_eq_false fun e => h e.symm]

theorem tkK_none {l : List Arg} {r : Rt} : ∀ k, tkK l r k = none → ∀ i, i < k → covT (argAt l i) r = false
  | 0, _, i, hi => absurd hi (by omega)
  | k + 1, h, i, hi => by
    have hk : covT (argAt l k) r = false := by
      cases e : covT (argAt l k) r with
      | false => rfl
      | true =>
        cases e2 : tkK l r k with
        | none => rw [tkK_new e e2] at h; cases h
        | some j =>
          by_cases e3 : (argAt l j).pfx.len < (argAt l k).pfx.len
          · rw [tkK_lon e e2 e3] at h; cases h
          · rw [tkK_old e e2 e3] at h; cases h
    rw [tkK_off hk] at h
    rcases Nat.lt_or_ge i k with h' | h'
    · exact tkK_none k h i h'
    · rw [show i = k from by omega]; exact hk

theorem tkK_max {l : List Arg} {r : Rt} : ∀ k j, tkK l r k = some j → covT (argAt l j) r = true ∧ ∀ i, i < k → covT (argAt l i) r = true → (argAt l i).pfx.len ≤ (argAt l j).pfx.len
  | 0, j, h => by cases h
  | k + 1, j, h => by
    cases e : covT (argAt l k) r with
    | false =>
      rw [tkK_off e] at h
      obtain ⟨h1, h2⟩ := tkK_max k j h
      refine ⟨h1, fun i hi hc => ?_⟩
      rcases Nat.lt_or_ge i k with h' | h'
      · exact h2 i h' hc
      · rw [show i = k from by omega, e] at hc; cases hc
    | true =>
      cases e2 : tkK l r k with
      | none =>
        rw [tkK_new e e2] at h
        cases h
        refine ⟨e, fun i hi hc => ?_⟩
        rcases Nat.lt_or_ge i k with h' | h'
        · rw [tkK_none k e2 i h'] at hc; cases hc
        · rw [show i = k from by omega]; exact Int.le_refl _
      | some m =>
        obtain ⟨h1, h2⟩ := tkK_max k m e2
        by_cases e3 : (argAt l m).pfx.len < (argAt l k).pfx.len
        · rw [tkK_lon e e2 e3] at h
          cases h
          refine ⟨e, fun i hi hc => ?_⟩
          rcases Nat.lt_or_ge i k with h' | h'
          · have := h2 i h' hc; omega
          · rw [show i = k from by omega]; exact Int.le_refl _
        · rw [tkK_old e e2 e3] at h
          cases h
          refine ⟨h1, fun i hi hc => ?_⟩
          rcases Nat.lt_or_ge i k with h' | h'
          · exact h2 i h' hc
          · rw [show i = k from by omega]; omega

theorem rngK_taken (l : List Arg) (r : Rt) (q : Int → Option Int) : ∀ k i, i < k → takB l (argAt l i) r = true → (rngK l r q k).1 = true
  | k + 1, i, hi, h => by
    unfold rngK
    by_cases c : takB l (argAt l k) r = true
    · rw [if_pos c]
    · rw [if_neg c]
      rcases Nat.lt_or_ge i k with h' | h'
      · exact rngK_taken l r q k i h' h
      · rw [show i = k from by omega] at h; exact absurd h c

/-- a route that no range takes in the program's words is taken by none in the document's -/
theorem taken_not {l : List Arg} {r : Rt} {q : Int → Option Int} (hl : ∀ o ∈ l, validP o.pfx = true) (hr : validP r.pfx = true) (h : (rngK l r q l.length).1 = false) : tkK l r l.length = none := by
  cases e : tkK l r l.length with
  | none => rfl
  | some j =>
    obtain ⟨h1, h2⟩ := tkK_max _ _ e
    have hj := tkK_lt _ _ _ _ e
    have hv : ∀ i, i < l.length → validP (argAt l i).pfx = true := fun i hi => by rw [argAt_eq hi]; exact hl _ (List.getElem_mem hi)
    have : takB l (argAt l j) r = true := by
      unfold takB
      rw [covB_T (hv j hj) hr, h1, Bool.true_and, Bool.not_eq_true', List.any_eq_false]
      intro o ho
      obtain ⟨i, hi, rfl⟩ := List.getElem_of_mem ho
      have h3 := h2 i hi
      rw [← argAt_eq hi]
      unfold lonB
      rw [covB_T (hv i hi) hr]
      cases e4 : covT (argAt l i) r with
      | false => simp
      | true => have := h3 e4; simp; omega
    rw [rngK_taken l r q _ j hj this] at h
    cases h

theorem tkK_intra {l : List Arg} {r : Rt} (h : r.proto ≠ 3) : ∀ k, tkK l r k = none
  | 0 => rfl
  | k + 1 => by
    have : covT (argAt l k) r = false := by simp [covT, h]
    rw [tkK_off this]; exact tkK_intra h k

theorem leastF_src {f : Ls.Pfx → Option Int} {x p : Ls.Pfx} {c d : Int} (h : leastF f x c p = some d) : p = x ∨ f p = some d := by
  cases e : f x with
  | none =>
    rw [leastF_none e] at h
    unfold upd at h
    split at h
    · rename_i e2; exact .inl e2
    · exact .inr h
  | some old =>
    by_cases c0 : c < old
    · rw [leastF_lt e c0] at h
      unfold upd at h
      split at h
      · rename_i e2; exact .inl e2
      · exact .inr h
    · rw [leastF_ge e c0] at h; exact .inr h

theorem sumK_src (l : List Arg) (into : Int) (rs : List RtH) {p : Ls.Pfx} {c : Int} (h : (sumK l into rs rs.length).1 p = some c) : ∃ y ∈ rs, y.rt.pfx = p ∧ ∃ q, ownB into y.rt (rngK l y.rt q l.length).1 = true := by
  rw [sumK_all] at h
  have key : ∀ (m : List RtH) (s : SmS), ((m.map RtH.rt).foldl (sumOne l into) s).1 p = some c → s.1 p = some c ∨ ∃ y ∈ m, y.rt.pfx = p ∧ ∃ q, ownB into y.rt (rngK l y.rt q l.length).1 = true := by
    intro m
    induction m with
    | nil => intro s h; exact .inl h
    | cons y m ih =>
      intro s h
      rw [List.map_cons, List.foldl_cons] at h
      rcases ih _ h with h1 | ⟨z, hz, h2⟩
      · unfold sumOne at h1
        split at h1
        · simp only at h1
          split at h1
          · rename_i ho
            rcases leastF_src h1 with e | e
            · exact .inr ⟨y, by simp, e.symm, _, ho⟩
            · exact .inl e
          · exact .inl h1
        · exact .inl h1
      · exact .inr ⟨z, List.mem_cons_of_mem _ hz, h2⟩
  rcases key rs _ h with h1 | h1
  · cases h1
  · exact h1

theorem ranges_none {C : Cfg} {lr : List Arg} {into : Int} {rs : List RtH} {L : List Lsa} (F : LFine lr rs) (h : SuIs C lr into rs [] L) {p : Ls.Pfx} (ho : othB lr rs p = false) : ∀ x ∈ L, lkOf x ≠ ⟨3, p.addr, p.len, C.router⟩ := by
  intro x hx e
  obtain ⟨asc, g, hg, hm⟩ := h
  unfold othB at ho
  rw [Bool.or_eq_false_iff, List.any_eq_false, List.any_eq_false] at ho
  obtain ⟨o1, o2⟩ := ho
  rcases (hm x).1 hx with ⟨q, c, _, h1, rfl⟩ | ⟨r, c, _, h1, rfl⟩
  · have eq : q = p := by
      obtain ⟨qa, ql⟩ := q
      obtain ⟨pa, pl⟩ := p
      simp [lkOf, sumL] at e
      obtain ⟨rfl, rfl⟩ := e
      rfl
    subst eq
    rcases ((hg q).2 c h1).1 with h2 | ⟨i, hi, _, _, h2, _⟩
    · obtain ⟨y, hy, hp, z, hown⟩ := sumK_src lr into rs h2
      have h3 := o2 y hy
      have h4 : tkK lr y.rt lr.length = none := by
        by_cases h5 : y.rt.proto = 3
        · refine taken_not F.2.2.1.1 (F.2.2.2 y hy) (q := z) ?_
          cases e6 : (rngK lr y.rt z lr.length).1 with
          | false => rfl
          | true => rw [e6] at hown; simp [ownB, h5] at hown
        · exact tkK_intra h5 _
      rw [hp, h4] at h3
      simp at h3
    · have h3 := o1 (argAt lr i) (by rw [argAt_eq hi]; exact List.getElem_mem hi)
      rw [h2] at h3
      simp at h3
  · simp [lkOf, bndL] at e

end Go.Proofs.YtogdconliofblaaGreat
