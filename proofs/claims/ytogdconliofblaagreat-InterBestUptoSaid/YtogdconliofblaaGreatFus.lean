/-
  routinglaw33.find and used.
-/
import Derived.Test.YtogdconliofblaaGreatRtd
import Derived.Test.YtogdconliofblaaGreatCpt
import Derived.Test.YtogdconliofblaaGreatWay
import Derived.Deep.DeepCutAuto
import Derived.BigQuiet
namespace Go.Proofs.YtogdconliofblaaGreat
open Go.RowKit

def FdIs (l : List RtH) (p : Ls.Pfx) (i : Int) : Prop := (i = -1 ∧ ∀ y ∈ l, y.rt.pfx ≠ p) ∨ ∃ j : Nat, i = (j : Int) ∧ ∃ h : j < l.length, l[j].rt.pfx = p
def FdPost (w : World) (l : List RtH) (p : Ls.Pfx) (e : Ending) (w' : World) : Prop := ∃ i : Int, e = .returned (.int .i64 i) ∧ Gr w w' ∧ FdIs l p i

set_option maxHeartbeats 8000000 in
set_option maxRecDepth 100000 in
theorem lfind_calls (w : World) (v : Value) (l : List RtH) (h : RoutesAt w v l) (pa pl : Int) :
    Calls Tryz.prog 18 #[v, .agg #[.int .u32 pa, .int .i64 pl]] w (FdPost w l ⟨pa, pl⟩) := by
  obtain ⟨a1, c1, rfl, hlen, hc1⟩ := h.get
  have HC1 := Lib.hid hc1
  have mixed : Tryz.prog.follows .mixedOrders = true := by kernel_rfl
  clear h hc1
  obtain ⟨W0, hW0⟩ : ∃ W0, w.alloc (.cells #[.int .u32 pa, .int .i64 pl] 55) = W0 := ⟨_, rfl⟩
  have b0 : W0.heap[w.heap.size]? = some (.cells #[.int .u32 pa, .int .i64 pl] 55 (0, 0)) := by rw [← hW0]; exact alloc_new w _
  have G0 : Hid (Gr w W0) := Lib.hid (by rw [← hW0]; exact (Gr.refl _).alloc _)
  have HB := Lib.hid b0
  have HW0 := Lib.hid hW0
  clear hW0 b0
  go_enter Tryz.func18, Tryz.ntmps18
  go_upto_region 1 with fail
  rw [HW0.out]
  go_wp2_with fail
  go_loopw [8] (fun i wr => ∃ k : Nat, i = .int .i64 k ∧ k ≤ l.length ∧ Hid (Gr W0 wr) ∧ Hid (∀ m (hm : m < l.length), m < k → l[m].rt.pfx ≠ ⟨pa, pl⟩)) (fun i _ => l.length - (intOf i).toNat)
  case atStart => exact ⟨0, rfl, Nat.zero_le _, Lib.hid (Gr.refl _), Lib.hid (fun m _ hm => absurd hm (by omega))⟩
  case round =>
    obtain ⟨k, rfl, hk, GG, NO⟩ := hrel
    by_cases c : k < l.length
    · obtain ⟨b1, o1, rfl, hb1, hcc1⟩ := HC1.out (by omega)
      obtain ⟨d0, d1, -⟩ := ((hcc1 k c).below G0.out.b hb1).below GG.out.b (Nat.lt_of_lt_of_le hb1 G0.out.b.size)
      have br := (GG.out.b.block _ (blk_lt HB.out)).trans HB.out
      have GR := Lib.hid (fun n os => GG.out.trans (Gr.of_grow (W := wr) n os))
      have GR2 := Lib.hid (fun n os => G0.out.trans (GR.out n os))
      have KC := Lib.hid c
      have n0 : (0 : Int) ≤ (k : Int) := by omega
      have n1 : (k : Int) < (l.length : Int) := by omega
      have n3 : ((k : Int)).toNat = k := by omega
      have YES : Hid (l[k].rt.pfx = ⟨pa, pl⟩ → ∀ W, Gr w W → FdPost w l ⟨pa, pl⟩ (.returned (.int .i64 (k : Int))) W) := Lib.hid (fun e W g => ⟨_, rfl, g, .inr ⟨k, rfl, c, e⟩⟩)
      have NXT : Hid (l[k].rt.pfx ≠ ⟨pa, pl⟩ → ∀ m (hm : m < l.length), m < k + 1 → l[m].rt.pfx ≠ ⟨pa, pl⟩) := Lib.hid (fun e m hm h => by
        rcases Nat.lt_or_ge m k with h' | h'
        · exact NO.out m hm h'
        · obtain rfl : m = k := by omega
          exact e)
      clear hcc1 NO
      generalize l[k] = x at *
      clear c
      obtain ⟨⟨⟨xa, xl⟩, xproto, xarea, xcost, xsecond, xcost2, xtag, xha, xhn, xhc⟩, hops⟩ := x
      simp only at d0 d1 YES NXT
      have p0 : ∀ n os, (Go.Sort.grow (wr.drewN n) os).cell? ⟨b1, o1 + k * 9, none⟩ = some (.int .u32 xa) := cell_grown (World.block_lt_of_cell? _ _ d0) d0
      have p1 : ∀ n os, (Go.Sort.grow (wr.drewN n) os).cell? ⟨b1, o1 + k * 9 + 1, none⟩ = some (.int .i64 xl) := cell_grown (World.block_lt_of_cell? _ _ d1) d1
      have y0 := blk_cell (i := 0) br rfl
      have y1 := blk_cell (i := 1) br rfl
      have y0 : ∀ n os, (Go.Sort.grow (wr.drewN n) os).cell? ⟨w.heap.size, 0, none⟩ = some (.int .u32 pa) := cell_grown (World.block_lt_of_cell? _ _ y0) y0
      have y1 : ∀ n os, (Go.Sort.grow (wr.drewN n) os).cell? ⟨w.heap.size, 1, none⟩ = some (.int .i64 pl) := cell_grown (World.block_lt_of_cell? _ _ y1) y1
      have EQ := fun W => eqPfx ⟨xa, xl⟩ ⟨pa, pl⟩ W
      clear br d0 d1
      by_cases he : (⟨xa, xl⟩ : Ls.Pfx) = ⟨pa, pl⟩
      · have Y := Lib.hid (YES.out he)
        simp only [decide_eq_true he] at EQ
        clear he YES NXT
        go_wp2_with fail
        refine wp_region_quiet_grown (by assumption) (by kernel_rfl) ?_
        repeat (go_big_quiet_step (fail))
        refine wpQuiet_nil ?_
        intro _ hw'
        obtain ⟨⟨nq, osq⟩, hw''⟩ := hw'
        subst hw''
        have FI := Lib.hid (Y.out _ (GR2.out nq osq))
        clear p0 p1 y0 y1 EQ
        go_wp2_with fail
        go_returns
        exact FI.out
      · have N := Lib.hid (NXT.out he)
        simp only [decide_eq_false he] at EQ
        clear he YES NXT
        go_wp2_with fail
        refine wp_region_quiet_grown (by assumption) (by kernel_rfl) ?_
        repeat (go_big_quiet_step (fail))
        refine wpQuiet_nil ?_
        intro _ hw'
        obtain ⟨⟨nq, osq⟩, hw''⟩ := hw'
        subst hw''
        have GZ := Lib.hid (GR.out nq osq)
        clear p0 p1 y0 y1 EQ
        go_wp2_with fail
        go_roundw
        case rel => exact ⟨k + 1, by go_num, KC.out, GZ, N⟩
        case measure => simp [intOf]; have := KC.out; omega
    · have E : Hid (FdPost w l ⟨pa, pl⟩ (.returned (.int .i64 (-1))) wr) := Lib.hid ⟨-1, rfl, G0.out.trans GG.out, .inl ⟨rfl, fun x hx => by
        obtain ⟨i, hi, rfl⟩ := List.getElem_of_mem hx
        exact NO.out i hi (by omega)⟩⟩
      clear NO
      go_wp2_with fail
      go_ret
      exact E.out

def usedP (y : Rch) (h : Ls.Hop) : Prop := y.border = true ∧ h ∈ y.hops

set_option maxHeartbeats 8000000 in
set_option maxRecDepth 100000 in
theorem used_calls (w : World) (v : Value) (l : List Rch) (hl : ReachAt w v l) (h : Ls.Hop) (hu : ∃ y ∈ l, usedP y h) :
    Calls Tryz.prog 19 #[v, .agg #[.int .i64 h.iface, .int .u32 h.addr, .int .u32 h.router]] w fun e w' => e = .returned (.bool true) ∧ Gr w w' := by
  obtain ⟨a1, c1, rfl, hlen, hc1⟩ := hl.get
  have HC1 := Lib.hid hc1
  have HHO := Lib.hid hl.hops
  have HU : Hid (¬ ∀ m (hm : m < l.length), ¬ usedP l[m] h) := Lib.hid (fun hn => by
    obtain ⟨y, hy, hp⟩ := hu
    obtain ⟨i, hi, rfl⟩ := List.getElem_of_mem hy
    exact hn i hi hp)
  have mixed : Tryz.prog.follows .mixedOrders = true := by kernel_rfl
  clear hl hc1 hu
  obtain ⟨H, hH⟩ : ∃ H, H = h := ⟨_, rfl⟩
  have HH := Lib.hid hH
  obtain ⟨W0, hW0⟩ : ∃ W0, w.alloc (.cells #[.int .i64 h.iface, .int .u32 h.addr, .int .u32 h.router] 60) = W0 := ⟨_, rfl⟩
  have b0 : W0.heap[w.heap.size]? = some (.cells #[.int .i64 h.iface, .int .u32 h.addr, .int .u32 h.router] 60 (0, 0)) := by rw [← hW0]; exact alloc_new w _
  have G0 : Hid (Gr w W0) := Lib.hid (by rw [← hW0]; exact (Gr.refl _).alloc _)
  have HB := Lib.hid b0
  have HW0 := Lib.hid hW0
  rw [← HH.out] at HU
  clear hW0 b0 hH
  obtain ⟨hi0, ha0, hr0⟩ := h
  simp only at HB HW0 ⊢
  go_enter Tryz.func19, Tryz.ntmps19
  go_upto_region 1 with fail
  rw [HW0.out]
  go_wp2_with fail
  go_loopw [9] (fun i wr => ∃ k : Nat, i = .int .i64 k ∧ k ≤ l.length ∧ Hid (Gr W0 wr) ∧ Hid (∀ m (hm : m < l.length), m < k → ¬ usedP l[m] H)) (fun i _ => l.length - (intOf i).toNat)
  case atStart => exact ⟨0, rfl, Nat.zero_le _, Lib.hid (Gr.refl _), Lib.hid (fun m _ hm => absurd hm (by omega))⟩
  case round =>
    obtain ⟨k, rfl, hk, GG, NO⟩ := hrel
    by_cases c : k < l.length
    · obtain ⟨b1, o1, rfl, hb1, hcc1⟩ := HC1.out (by omega)
      have BW := Lib.hid (G0.out.trans GG.out)
      have up : ∀ {o : Nat} {u : Value} {W : World}, Gr w W → w.cell? ⟨b1, o, none⟩ = some u → W.cell? ⟨b1, o, none⟩ = some u := fun {o u W} g hh => (World.cell?_of_block (w := w) (w' := W) (a := ⟨b1, o, none⟩) (g.b.block b1 hb1)).trans hh
      have CL : Hid (∀ W, Gr w W → W.cell? ⟨b1, o1 + k * 7 + 3, none⟩ = some (.bool l[k].border) ∧ W.cell? ⟨b1, o1 + k * 7 + 6, none⟩ = some (.slice l[k].ha l[k].hn l[k].hc)) := Lib.hid (fun W g => by
        obtain ⟨-, -, -, d3, -, -, d6⟩ := hcc1 k c
        exact ⟨up g d3, up g d6⟩)
      obtain ⟨-, d6⟩ := CL.out wr BW.out
      have HK : Hid (HopsAt w (.slice l[k].ha l[k].hn l[k].hc) l[k].hops) := Lib.hid (HHO.out _ (List.getElem_mem c))
      have NXT : Hid (¬ usedP l[k] H → ∀ m (hm : m < l.length), m < k + 1 → ¬ usedP l[m] H) := Lib.hid (fun e m hm h => by
        rcases Nat.lt_or_ge m k with h' | h'
        · exact NO.out m hm h'
        · obtain rfl : m = k := by omega
          exact e)
      have KC := Lib.hid c
      have n0 : (0 : Int) ≤ (k : Int) := by omega
      have n1 : (k : Int) < (l.length : Int) := by omega
      have n3 : ((k : Int)).toNat = k := by omega
      clear hcc1 NO up
      generalize l[k] = x at *
      clear c
      obtain ⟨xr, xa, xinter, xborder, xbound, xc, xha, xhn, xhc, xh⟩ := x
      obtain ⟨a3, c3, e3, h31, h32, -, hc3⟩ := HK.out.get
      have hxl : xh.length ≤ 9223372036854775807 := by simp only at h31; unfold maxLen at h32; omega
      clear h31 h32
      simp only [Value.slice.injEq] at e3
      obtain ⟨rfl, rfl, rfl⟩ := e3
      have HC3 := Lib.hid hc3
      simp only at d6 CL NXT
      clear HK hc3
      obtain ⟨W5, hW5⟩ : ∃ W5, W5 = wr := ⟨_, rfl⟩
      subst hW5
      go_wp2_with fail
      clear d6
      go_loopw [18] (fun i wx => ∃ m : Nat, i = .int .i64 m ∧ m ≤ xh.length ∧ Hid (Gr W5 wx) ∧ Hid (∀ q (hq : q < xh.length), q < m → ¬ (xborder = true ∧ xh[q] = H))) (fun i _ => xh.length - (intOf i).toNat)
      case atStart => exact ⟨0, rfl, Nat.zero_le _, Lib.hid (Gr.refl _), Lib.hid (fun m _ hm => absurd hm (by omega))⟩
      case round =>
        obtain ⟨m, rfl, hm, GX, NOX⟩ := hrel
        by_cases cm : m < xh.length
        · obtain ⟨b3, o3, rfl, hb3, hcc3⟩ := HC3.out (by omega)
          obtain ⟨t0, t1, t2⟩ := hcc3 m cm
          have BX := Lib.hid (BW.out.trans GX.out)
          obtain ⟨d3, d6⟩ := CL.out wr BX.out
          have t0 := bcell BX.out.b t0
          have t1 := bcell BX.out.b t1
          have t2 := bcell BX.out.b t2
          have br := (GX.out.b.block _ (blk_lt ((GG.out.b.block _ (blk_lt HB.out)).trans HB.out))).trans ((GG.out.b.block _ (blk_lt HB.out)).trans HB.out)
          have GR := Lib.hid (fun n os => GX.out.trans (Gr.of_grow (W := wr) n os))
          have GR2 := Lib.hid (fun n os => BX.out.trans (Gr.of_grow (W := wr) n os))
          have MC := Lib.hid cm
          have m0 : (0 : Int) ≤ (m : Int) := by omega
          have m1 : (m : Int) < (xh.length : Int) := by omega
          have m3 : ((m : Int)).toNat = m := by omega
          have NX2 : Hid (¬ (xborder = true ∧ xh[m] = H) → ∀ q (hq : q < xh.length), q < m + 1 → ¬ (xborder = true ∧ xh[q] = H)) := Lib.hid (fun e q hq h => by
            rcases Nat.lt_or_ge q m with h' | h'
            · exact NOX.out q hq h'
            · obtain rfl : q = m := by omega
              exact e)
          have y0 := blk_cell (i := 0) br rfl
          have y1 := blk_cell (i := 1) br rfl
          have y2 := blk_cell (i := 2) br rfl
          clear hcc3 NOX br
          generalize xh[m] = z at *
          clear cm
          obtain ⟨zi, za, zr⟩ := z
          simp only at t0 t1 t2
          have t0 : ∀ n os, (Go.Sort.grow (wr.drewN n) os).cell? ⟨b3, o3 + m * 3, none⟩ = some (.int .i64 zi) := cell_grown (World.block_lt_of_cell? _ _ t0) t0
          have t1 : ∀ n os, (Go.Sort.grow (wr.drewN n) os).cell? ⟨b3, o3 + m * 3 + 1, none⟩ = some (.int .u32 za) := cell_grown (World.block_lt_of_cell? _ _ t1) t1
          have t2 : ∀ n os, (Go.Sort.grow (wr.drewN n) os).cell? ⟨b3, o3 + m * 3 + 2, none⟩ = some (.int .u32 zr) := cell_grown (World.block_lt_of_cell? _ _ t2) t2
          have y0 : ∀ n os, (Go.Sort.grow (wr.drewN n) os).cell? ⟨w.heap.size, 0, none⟩ = some (.int .i64 hi0) := cell_grown (World.block_lt_of_cell? _ _ y0) y0
          have y1 : ∀ n os, (Go.Sort.grow (wr.drewN n) os).cell? ⟨w.heap.size, 1, none⟩ = some (.int .u32 ha0) := cell_grown (World.block_lt_of_cell? _ _ y1) y1
          have y2 : ∀ n os, (Go.Sort.grow (wr.drewN n) os).cell? ⟨w.heap.size, 2, none⟩ = some (.int .u32 hr0) := cell_grown (World.block_lt_of_cell? _ _ y2) y2
          have d3 : ∀ n os, (Go.Sort.grow (wr.drewN n) os).cell? ⟨b1, o1 + k * 7 + 3, none⟩ = some (.bool xborder) := cell_grown (World.block_lt_of_cell? _ _ d3) d3
          have d6 : ∀ n os, (Go.Sort.grow (wr.drewN n) os).cell? ⟨b1, o1 + k * 7 + 6, none⟩ = some (.slice (some ⟨b3, o3, none⟩) xh.length xhc) := cell_grown (World.block_lt_of_cell? _ _ d6) d6
          cases xborder with
          | false =>
            have N := Lib.hid (NX2.out (by simp))
            clear NX2
            go_wp2_with fail
            refine wp_region_quiet_grown (by assumption) (by kernel_rfl) ?_
            repeat (go_big_quiet_step (fail))
            refine wpQuiet_nil ?_
            intro _ hw'
            obtain ⟨⟨nq, osq⟩, hw''⟩ := hw'
            subst hw''
            have GZ := Lib.hid (GR.out nq osq)
            clear t0 t1 t2 y0 y1 y2 d3 d6
            go_wp2_with fail
            go_roundw
            case rel => exact ⟨m + 1, by go_num, MC.out, GZ, N⟩
            case measure => simp [intOf]; have := MC.out; omega
          | true =>
            have EQ := fun W => eqHop ⟨zi, za, zr⟩ ⟨hi0, ha0, hr0⟩ W
            by_cases he : (⟨zi, za, zr⟩ : Ls.Hop) = ⟨hi0, ha0, hr0⟩
            · simp only [decide_eq_true he] at EQ
              clear he NX2
              go_wp2_with fail
              refine wp_region_quiet_grown (by assumption) (by kernel_rfl) ?_
              repeat (go_big_quiet_step (fail))
              refine wpQuiet_nil ?_
              intro _ hw'
              obtain ⟨⟨nq, osq⟩, hw''⟩ := hw'
              subst hw''
              have FI := Lib.hid (GR2.out nq osq)
              clear t0 t1 t2 y0 y1 y2 d3 d6 EQ
              go_wp2_with fail
              go_returns
              exact ⟨rfl, FI.out⟩
            · have N := Lib.hid (NX2.out (fun h => he (h.2.trans HH.out)))
              simp only [decide_eq_false he] at EQ
              clear he NX2
              go_wp2_with fail
              refine wp_region_quiet_grown (by assumption) (by kernel_rfl) ?_
              repeat (go_big_quiet_step (fail))
              refine wpQuiet_nil ?_
              intro _ hw'
              obtain ⟨⟨nq, osq⟩, hw''⟩ := hw'
              subst hw''
              have GZ := Lib.hid (GR.out nq osq)
              clear t0 t1 t2 y0 y1 y2 d3 d6 EQ
              go_wp2_with fail
              go_roundw
              case rel => exact ⟨m + 1, by go_num, MC.out, GZ, N⟩
              case measure => simp [intOf]; have := MC.out; omega
        · have NK := Lib.hid (NXT.out (fun hp => by
            obtain ⟨hb, hmem⟩ := hp
            obtain ⟨q, hq, e⟩ := List.getElem_of_mem hmem
            exact NOX.out q hq (by simp only at hq; omega) ⟨hb, e⟩))
          have GZ := Lib.hid (GG.out.trans GX.out)
          clear NOX GX NXT CL HC3
          go_wp2_with fail
          go_roundw
          case rel => exact ⟨k + 1, by go_num, KC.out, GZ, NK⟩
          case measure => simp [intOf]; have := KC.out; omega
    · exact absurd (fun m hm => NO.out m hm (by omega)) HU.out

end Go.Proofs.YtogdconliofblaaGreat
