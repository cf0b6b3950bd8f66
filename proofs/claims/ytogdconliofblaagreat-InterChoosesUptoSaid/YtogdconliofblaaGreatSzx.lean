/-
  inter.summarized walked: the map of the least costs.
-/
import Derived.Test.YtogdconliofblaaGreatSzw
import Derived.Deep.DeepCutAuto
namespace Go.Proofs.YtogdconliofblaaGreat
open Go.RowKit

theorem pfxOk_rng {p : Ls.Pfx} (h : OkP p) (hl : -9223372036854775808 ≤ p.len ∧ p.len ≤ 9223372036854775807) : pfxOk p := ⟨WalkArith.wf_u32 (by have := h.a0; have := h.a1; omega), WalkArith.wf_i64 hl⟩
theorem u3 (w : World) (o1 o2 o3 : Obj) : (((w.alloc o1).alloc o2).alloc o3).heap[w.heap.size]? = some o1 ∧ (((w.alloc o1).alloc o2).alloc o3).heap.size = w.heap.size + 3 := by
  refine ⟨?_, by simp⟩
  exact (alloc_get _ _ _ (by simp; omega)).trans ((alloc_get _ _ _ (by simp)).trans (alloc_new w o1))

theorem SmR.start (w : World) (c : Cfg) (l : List Arg) (into : Int) (rs : List RtH) : SmR w c l into rs 0 (((w.alloc (.cells (cfgE c).toArray 26)).alloc (.map #[] 0)).alloc (.map #[] 0)) := by
  obtain ⟨h1, h2⟩ := u3 w (.cells (cfgE c).toArray 26) (.map #[] 0) (.map #[] 0)
  have m1 : PMap ((w.alloc (.cells (cfgE c).toArray 26)).alloc (.map #[] 0)) (w.heap.size + 1) 0 (fun _ => none) := by
    have := MapF.made (P := Tryz.prog) (k := 55) (ok := pfxOk) (lit := pfxLit) (mkV := costV) (w.alloc (.cells (cfgE c).toArray 26))
    simpa using this
  have m2 : NMap (((w.alloc (.cells (cfgE c).toArray 26)).alloc (.map #[] 0)).alloc (.map #[] 0)) (w.heap.size + 2) 0 (fun _ => none) := by
    have := MapF.made (P := Tryz.prog) (k := 3) (ok := fun x : Int => (Lit.int .i64 x).wf = true) (lit := intLit .i64) (mkV := costV) ((w.alloc (.cells (cfgE c).toArray 26)).alloc (.map #[] 0))
    simpa using this
  refine ⟨Nat.zero_le _, m1.grow ((Below.refl _ _).alloc (Nat.le_refl _) _), by rw [Nat.zero_mul]; exact m2, h1, ((((Below.refl _ _).alloc (Nat.le_refl _) _).alloc (by simp) _).alloc (by simp; omega) _)⟩

set_option maxHeartbeats 16000000 in
set_option maxRecDepth 100000 in
theorem summarized_calls (w : World) (c : Cfg) (l : List Arg) (hl : RngsAt w (.slice c.ra c.rn c.rc) l) (okl : ∀ o ∈ l, OkP o.pfx ∧ pfxOk o.pfx) (into : Int) (vr : Value) (rs : List RtH) (hr : RoutesAt w vr rs) (okr : ∀ y ∈ rs, OkP y.rt.pfx ∧ pfxOk y.rt.pfx) (n1 : rs.length ≤ 100) (n2 : l.length ≤ 64) :
    Calls Tryz.prog 34 #[.agg (cfgE c).toArray, .int .u32 into, vr] w (SzPost w l into rs) := by
  have ST := Lib.hid (SmR.start w c l into rs)
  obtain ⟨a1, c1, rfl, hl1, hrc⟩ := hr.get
  obtain ⟨a2, c2, e2, hl2, hgc⟩ := hl.get
  have HRC := Lib.hid hrc
  have HGC := Lib.hid hgc
  have HOK := Lib.hid okr
  have HOL := Lib.hid okl
  have TK := Lib.hid (fun W (hb : Below w.heap.size w W) g (okg : OkP g.pfx) r (ok : OkP r.pfx) => takes_calls W _ l (hl.below hb) (fun o ho => (okl o ho).1) g okg r ok)
  have N1 := Lib.hid n1
  have N2 := Lib.hid n2
  have POSTP := Lib.hid (fun rb left cnt g m wr (R : SoR w c l into rs rb (rs.length * l.length) left cnt g m wr) h => R.post n2 h)
  have mixed : Tryz.prog.follows .mixedOrders = true := by kernel_rfl
  clear hr hl hrc hgc okr okl
  obtain ⟨router, ia, iN, ic, ra, rn, rc⟩ := c
  simp only at e2
  cases e2
  obtain ⟨WA, hWA⟩ : ∃ WA, ((w.alloc (.cells #[.int .u32 router, .slice ia iN ic, .slice a2 l.length c2] 26)).alloc (.map #[] 0)).alloc (.map #[] 0) = WA := ⟨_, rfl⟩
  simp only [cfgE] at ST TK ⊢
  rw [hWA] at ST
  have HWA := Lib.hid hWA
  clear hWA
  go_enter Tryz.func34, Tryz.ntmps34
  have hmm := @run_makeMap Tryz.prog
  go_upto_region 3 with fail
  rw [HWA.out]
  clear HWA hmm
  go_loopw [23] (fun ix wr => ∃ k : Nat, ix = .int .i64 k ∧ Hid (SmR w ⟨router, ia, iN, ic, a2, l.length, c2⟩ l into rs k wr)) (fun ix _ => rs.length - (intOf ix).toNat)
  case atStart => exact ⟨0, rfl, ST⟩
  case round =>
    clear ST
    obtain ⟨k, rfl, R⟩ := hrel
    have hk := R.out.hk
    by_cases c : k < rs.length
    · --BODY
      obtain ⟨WO, eWO⟩ : ∃ x, x = wr := ⟨_, rfl⟩
      subst eWO
      obtain ⟨rb, ro, rfl, hrb, hcc⟩ := HRC.out (by omega)
      obtain ⟨d0, d1, d2, d3, d4, d5, d6, d7, d8⟩ := (hcc k c).below R.out.bel hrb
      have OKR := Lib.hid (HOK.out rs[k] (List.getElem_mem c))
      have SK := Lib.hid (fun h W' g => R.out.skip c h (W' := W') g)
      have DN : Hid (∀ (Wx : World) (xb : Nat) (tk : Bool) (wi w' : World) (Q : SiR w ⟨router, ia, iN, ic, a2, l.length, c2⟩ l into rs k rs[k].rt Wx xb l.length tk wi) (hu : useB into rs[k].rt = true) (m : PMap w' (w.heap.size + 1) (k + 1) (if ownB into rs[k].rt tk = true then leastF (sumK l into rs k).1 rs[k].rt.pfx rs[k].rt.cost else (sumK l into rs k).1)) (g : wi.grownBy w' (some (w.heap.size + 1))), SmR w ⟨router, ia, iN, ic, a2, l.length, c2⟩ l into rs (k + 1) w') := Lib.hid (fun Wx xb tk wi w' Q hu m g => SiR.done c Q hu m g)
      have KC := Lib.hid c
      have i0 : (0 : Int) ≤ (k : Int) := by omega
      have i1 : (k : Int) < (rs.length : Int) := by omega
      have s3 : ((k : Int)).toNat = k := by omega
      have STI : Hid (∀ (r : Rt) (W1 : World) (g : Below WO.heap.size WO W1) (hb : W1.heap[WO.heap.size]? = some (.cells (rtE r).toArray 57 (0, 0))), SiR w ⟨router, ia, iN, ic, a2, l.length, c2⟩ l into rs k r W1 WO.heap.size 0 false W1) := Lib.hid (fun r W1 g hb => by
        have R1 := R.out.grow g
        have hs := R.out.size
        exact ⟨Nat.zero_le _, rfl, R1.m1, R1.m2, R1.bx, hb, R1.bel, hs⟩)
      clear hcc R
      generalize rs[k].rt = r at *
      clear c
      obtain ⟨⟨pa, pl⟩, proto, area, cost, second, cost2, tag, ha, hn, hc⟩ := r
      simp only at d0 d1 d2 d3 d4 d5 d6 d7 d8 OKR
      go_upto_region 5 with fail
      generalize hW1 : WO.alloc _ = W1
      have B1 : Below WO.heap.size WO W1 := by rw [← hW1]; exact (Below.refl _ _).alloc (Nat.le_refl _) _
      have b1 : W1.heap[WO.heap.size]? = some (.cells #[.int .u32 pa, .int .i64 pl, .int .i64 proto, .int .u32 area, .int .i64 cost, .bool second, .int .i64 cost2, .int .i64 tag, .slice ha hn hc] 57 (0, 0)) := by rw [← hW1]; exact alloc_new _ _
      have IS := Lib.hid (STI.out (⟨⟨pa, pl⟩, proto, area, cost, second, cost2, tag, ha, hn, hc⟩ : Rt) W1 B1 b1)
      have HB1 := Lib.hid B1
      obtain ⟨⟨x0, x1, x2, x3, x4, x5, x6, x7, x8⟩, -⟩ := (⟨⟨blk_cell b1 rfl, blk_cell b1 rfl, blk_cell b1 rfl, blk_cell b1 rfl, blk_cell b1 rfl, blk_cell b1 rfl, blk_cell b1 rfl, blk_cell b1 rfl, blk_cell b1 rfl⟩, trivial⟩ : (W1.cell? ⟨WO.heap.size, 0, none⟩ = some (.int .u32 pa) ∧ W1.cell? ⟨WO.heap.size, 1, none⟩ = some (.int .i64 pl) ∧ W1.cell? ⟨WO.heap.size, 2, none⟩ = some (.int .i64 proto) ∧ W1.cell? ⟨WO.heap.size, 3, none⟩ = some (.int .u32 area) ∧ W1.cell? ⟨WO.heap.size, 4, none⟩ = some (.int .i64 cost) ∧ W1.cell? ⟨WO.heap.size, 5, none⟩ = some (.bool second) ∧ W1.cell? ⟨WO.heap.size, 6, none⟩ = some (.int .i64 cost2) ∧ W1.cell? ⟨WO.heap.size, 7, none⟩ = some (.int .i64 tag) ∧ W1.cell? ⟨WO.heap.size, 8, none⟩ = some (.slice ha hn hc)) ∧ True)
      clear hW1 B1 b1 STI d0 d1 d2 d3 d4 d5 d6 d7 d8
      have FC := Lib.hid (fun W => ifine_calls cost W)
      by_cases h1 : area = into
      · have e1 : (area == into) = true := by simpa using h1
        have NX := Lib.hid (SK.out (by simp [useB, h1]) W1 HB1.out)
        clear h1 SK DN IS
        go_wp2_with fail
        go_roundw
        case rel => exact ⟨k + 1, by go_num, NX⟩
        case measure => simp [intOf]; have := KC.out; omega
      · have e1 : (area == into) = false := by simpa using h1
        cases hg : goodB cost with
        | false =>
          rw [hg] at FC
          have NX := Lib.hid (SK.out (by simp [useB, hg]) W1 HB1.out)
          clear h1 hg SK DN IS
          go_wp2_with fail
          refine (FC.out _).mono ?_
          rintro e w2 ⟨rfl, rfl⟩
          go_wp2_with fail
          go_roundw
          case rel => exact ⟨k + 1, by go_num, NX⟩
          case measure => simp [intOf]; have := KC.out; omega
        | true =>
          rw [hg] at FC
          have US : Hid (useB into (⟨⟨pa, pl⟩, proto, area, cost, second, cost2, tag, ha, hn, hc⟩ : Rt) = true) := Lib.hid (by simp [useB, h1, hg])
          clear h1 hg SK
          go_wp2_with fail
          refine (FC.out _).mono ?_
          rintro e w2 ⟨rfl, rfl⟩
          have bx1 := IS.out.bx
          simp only [cfgE] at bx1
          have y2 : W1.cell? ⟨w.heap.size, 2, none⟩ = some (.slice a2 l.length c2) := blk_cell bx1 rfl
          clear bx1 FC x0 x1 x2 x3 x4 x5 x6 x7 x8
          go_wp2_with fail
          --INNER
          go_loopw [40, 11] (fun ix tv wi => ∃ (i : Nat) (tk : Bool), ix = .int .i64 i ∧ tv = .bool tk ∧ Hid (SiR w ⟨router, ia, iN, ic, a2, l.length, c2⟩ l into rs k (⟨⟨pa, pl⟩, proto, area, cost, second, cost2, tag, ha, hn, hc⟩ : Rt) W1 WO.heap.size i tk wi)) (fun ix _ _ => l.length - (intOf ix).toNat)
          case atStart => exact ⟨0, false, rfl, rfl, IS⟩
          case round =>
            clear IS
            obtain ⟨i, tk, rfl, rfl, Q⟩ := hrel
            have hi := Q.out.hi
            by_cases c : i < l.length
            · --IB
              obtain ⟨gb, go, rfl, hgb, hgc⟩ := HGC.out (by omega)
              obtain ⟨g0, g1, g2, g3⟩ := (hgc i c).below Q.out.bel hgb
              have eA := argAt_eq c
              have OKG := Lib.hid (HOL.out l[i] (List.getElem_mem c)).1
              have NO : Hid (∀ wi, SiR w ⟨router, ia, iN, ic, some ⟨gb, go, none⟩, l.length, c2⟩ l into rs k (⟨⟨pa, pl⟩, proto, area, cost, second, cost2, tag, ha, hn, hc⟩ : Rt) W1 WO.heap.size i tk wi → takB l (argAt l i) (⟨⟨pa, pl⟩, proto, area, cost, second, cost2, tag, ha, hn, hc⟩ : Rt) = false → SiR w ⟨router, ia, iN, ic, some ⟨gb, go, none⟩, l.length, c2⟩ l into rs k (⟨⟨pa, pl⟩, proto, area, cost, second, cost2, tag, ha, hn, hc⟩ : Rt) W1 WO.heap.size (i + 1) tk wi) := Lib.hid (fun wi Q h => Q.no c h)
              have YE : Hid (∀ wi w', SiR w ⟨router, ia, iN, ic, some ⟨gb, go, none⟩, l.length, c2⟩ l into rs k (⟨⟨pa, pl⟩, proto, area, cost, second, cost2, tag, ha, hn, hc⟩ : Rt) W1 WO.heap.size i tk wi → takB l (argAt l i) (⟨⟨pa, pl⟩, proto, area, cost, second, cost2, tag, ha, hn, hc⟩ : Rt) = true → NMap w' (w.heap.size + 2) (k * l.length + i + 1) (maxF (rngK l (⟨⟨pa, pl⟩, proto, area, cost, second, cost2, tag, ha, hn, hc⟩ : Rt) (sumK l into rs k).2 i).2 i cost) → wi.grownBy w' (some (w.heap.size + 2)) → SiR w ⟨router, ia, iN, ic, some ⟨gb, go, none⟩, l.length, c2⟩ l into rs k (⟨⟨pa, pl⟩, proto, area, cost, second, cost2, tag, ha, hn, hc⟩ : Rt) W1 WO.heap.size (i + 1) true w') := Lib.hid (fun wi w' Q h m g => Q.yes c h m g)
              rw [eA] at NO YE
              have IC := Lib.hid c
              have j0 : (0 : Int) ≤ (i : Int) := by omega
              have j1 : (i : Int) < (l.length : Int) := by omega
              have j3 : ((i : Int)).toNat = i := by omega
              clear hgc eA
              generalize l[i] = g at *
              clear c
              obtain ⟨ga, ⟨gp, gl⟩, gadv⟩ := g
              simp only at g0 g1 g2 g3 OKG
              have QQ := Lib.hid (fun W' g => Q.out.grow (W' := W') g)
              have NM : Hid (k * l.length + i < maxLen) := Lib.hid (by
                have h1 := N1.out; have h2 := N2.out; have h3 := KC.out
                have h4 : k * l.length ≤ 100 * 64 := Nat.mul_le_mul (by omega) h2
                unfold maxLen; omega)
              have OKI : Hid ((Lit.int .i64 (i : Int)).wf = true) := Lib.hid (WalkArith.wf_i64 (by have := N2.out; have := IC.out; omega))
              clear Q
              go_upto_region 10 with fail
              generalize hW2 : wr.alloc _ = W2
              have B2 : Below wr.heap.size wr W2 := by rw [← hW2]; exact (Below.refl _ _).alloc (Nat.le_refl _) _
              have b2 : W2.heap[wr.heap.size]? = some (.cells #[.int .u32 ga, .int .u32 gp, .int .i64 gl, .bool gadv] 77 (0, 0)) := by rw [← hW2]; exact alloc_new _ _
              have Q2 := Lib.hid (QQ.out W2 B2)
              have z0 := blk_cell (i := 0) b2 rfl
              have z1 := blk_cell (i := 1) b2 rfl
              have z2 := blk_cell (i := 2) b2 rfl
              have z3 := blk_cell (i := 3) b2 rfl
              have bx2 := Q2.out.bx
              simp only [cfgE] at bx2
              have y2 : W2.cell? ⟨w.heap.size, 2, none⟩ = some (.slice (some ⟨gb, go, none⟩) l.length c2) := blk_cell bx2 rfl
              have rb2 := Q2.out.rb
              simp only [rtE] at rb2
              obtain ⟨⟨x0, x1, x2, x3, x4, x5, x6, x7, x8⟩, -⟩ := (⟨⟨blk_cell rb2 rfl, blk_cell rb2 rfl, blk_cell rb2 rfl, blk_cell rb2 rfl, blk_cell rb2 rfl, blk_cell rb2 rfl, blk_cell rb2 rfl, blk_cell rb2 rfl, blk_cell rb2 rfl⟩, trivial⟩ : (W2.cell? ⟨WO.heap.size, 0, none⟩ = some (.int .u32 pa) ∧ W2.cell? ⟨WO.heap.size, 1, none⟩ = some (.int .i64 pl) ∧ W2.cell? ⟨WO.heap.size, 2, none⟩ = some (.int .i64 proto) ∧ W2.cell? ⟨WO.heap.size, 3, none⟩ = some (.int .u32 area) ∧ W2.cell? ⟨WO.heap.size, 4, none⟩ = some (.int .i64 cost) ∧ W2.cell? ⟨WO.heap.size, 5, none⟩ = some (.bool second) ∧ W2.cell? ⟨WO.heap.size, 6, none⟩ = some (.int .i64 cost2) ∧ W2.cell? ⟨WO.heap.size, 7, none⟩ = some (.int .i64 tag) ∧ W2.cell? ⟨WO.heap.size, 8, none⟩ = some (.slice ha hn hc)) ∧ True)
              have TC := Lib.hid (TK.out W2 Q2.out.bel (⟨ga, ⟨gp, gl⟩, gadv⟩ : Arg) OKG.out (⟨⟨pa, pl⟩, proto, area, cost, second, cost2, tag, ha, hn, hc⟩ : Rt) OKR.out.1)
              simp only [agE, rtE] at TC
              clear hW2 B2 b2 QQ bx2 rb2 g0 g1 g2 g3
              go_wp2_with fail
              refine TC.out.mono ?_
              rintro e w3 ⟨rfl, G3⟩
              have Q3 := Lib.hid (Q2.out.grow G3.b)
              clear G3 Q2 TC x0 x1 x2 x3 x4 x5 x6 x7 x8 z0 z1 z2 z3 y2
              have rb3 := Q3.out.rb
              simp only [rtE] at rb3
              have x3 : w3.cell? ⟨WO.heap.size, 4, none⟩ = some (.int .i64 cost) := blk_cell rb3 rfl
              clear rb3
              cases ht : takB l (⟨ga, ⟨gp, gl⟩, gadv⟩ : Arg) (⟨⟨pa, pl⟩, proto, area, cost, second, cost2, tag, ha, hn, hc⟩ : Rt) with
              | false =>
                have NX := Lib.hid (NO.out w3 Q3.out ht)
                clear ht NO YE Q3
                go_wp2_with fail
                go_roundw
                case rel => exact ⟨i + 1, tk, by go_num, rfl, NX⟩
                case measure => simp [intOf]; have := IC.out; omega
              | true =>
                have M3 := Lib.hid Q3.out.m2
                have YE2 := Lib.hid (fun w' m g => YE.out w3 w' Q3.out ht m g)
                clear ht NO YE Q3
                generalize (rngK l (⟨⟨pa, pl⟩, proto, area, cost, second, cost2, tag, ha, hn, hc⟩ : Rt) (sumK l into rs k).2 i).2 = q at *
                cases hq : q (i : Int) with
                | none =>
                  have HQ := Lib.hid hq
                  have PUT : Hid (∀ w6, NMap w6 (w.heap.size + 2) (k * l.length + i + 1) (upd q (i : Int) cost) → w3.grownBy w6 (some (w.heap.size + 2)) → SiR w ⟨router, ia, iN, ic, some ⟨gb, go, none⟩, l.length, c2⟩ l into rs k (⟨⟨pa, pl⟩, proto, area, cost, second, cost2, tag, ha, hn, hc⟩ : Rt) W1 WO.heap.size (i + 1) true w6) := Lib.hid (fun w6 M6 G6 => YE2.out w6 (by rw [maxF_none HQ.out]; exact M6) G6)
                  clear hq YE2
                  go_wp2_with (first
                    | (at_lookup; refine wpList_look_none _ rfl _ _ 131 rfl 3 Tryz.intKey Tryz.underlying131 (Tryz.zeroInt _) (w.heap.size + 2) (k * l.length + i) q rfl M3.out (i : Int) rfl OKI.out HQ.out ?_)
                    | (at_mapUpdate; refine wpList_mput _ rfl _ _ _ 131 rfl 3 Tryz.intKey Tryz.underlying131 (w.heap.size + 2) (k * l.length + i) q rfl M3.out NM.out (i : Int) rfl OKI.out cost rfl ?_; intro w6 M6 G6; have NX := Lib.hid (PUT.out w6 M6 G6); clear M6 G6))
                  go_roundw
                  case rel => exact ⟨i + 1, true, by go_num, rfl, NX⟩
                  case measure => simp [intOf]; have := IC.out; omega
                | some old =>
                  have HQ := Lib.hid hq
                  by_cases g : old < cost
                  · have g1 : decide (old < cost) = true := by simpa using g
                    have PUT : Hid (∀ w6, NMap w6 (w.heap.size + 2) (k * l.length + i + 1) (upd q (i : Int) cost) → w3.grownBy w6 (some (w.heap.size + 2)) → SiR w ⟨router, ia, iN, ic, some ⟨gb, go, none⟩, l.length, c2⟩ l into rs k (⟨⟨pa, pl⟩, proto, area, cost, second, cost2, tag, ha, hn, hc⟩ : Rt) W1 WO.heap.size (i + 1) true w6) := Lib.hid (fun w6 M6 G6 => YE2.out w6 (by rw [maxF_lt HQ.out g]; exact M6) G6)
                    clear hq YE2
                    go_wp2_with (first
                      | (at_lookup; refine wpList_look_some _ rfl _ _ 131 rfl 3 Tryz.intKey Tryz.underlying131 (Tryz.zeroInt _) (w.heap.size + 2) (k * l.length + i) q rfl M3.out (i : Int) rfl OKI.out old HQ.out ?_; simp only [costV])
                      | (at_mapUpdate; refine wpList_mput _ rfl _ _ _ 131 rfl 3 Tryz.intKey Tryz.underlying131 (w.heap.size + 2) (k * l.length + i) q rfl M3.out NM.out (i : Int) rfl OKI.out cost rfl ?_; intro w6 M6 G6; have NX := Lib.hid (PUT.out w6 M6 G6); clear M6 G6))
                    go_roundw
                    case rel => exact ⟨i + 1, true, by go_num, rfl, NX⟩
                    case measure => simp [intOf]; have := IC.out; omega
                  · have g1 : decide (old < cost) = false := by simpa using g
                    have NX := Lib.hid (YE2.out w3 (by rw [maxF_ge HQ.out g]; exact M3.out.mono (Nat.le_succ _)) ⟨rfl, rfl, rfl, Nat.le_refl _, fun _ _ _ => rfl⟩)
                    clear hq YE2 g
                    go_wp2_with (first
                      | (at_lookup; refine wpList_look_some _ rfl _ _ 131 rfl 3 Tryz.intKey Tryz.underlying131 (Tryz.zeroInt _) (w.heap.size + 2) (k * l.length + i) q rfl M3.out (i : Int) rfl OKI.out old HQ.out ?_; simp only [costV]))
                    go_roundw
                    case rel => exact ⟨i + 1, true, by go_num, rfl, NX⟩
                    case measure => simp [intOf]; have := IC.out; omega
            · --IX
              have ei : i = l.length := by omega
              subst ei
              have DQ := Lib.hid (fun w' m g => DN.out W1 WO.heap.size tk wr w' Q.out US.out m g)
              have M1 := Lib.hid Q.out.m1
              have rb3 := Q.out.rb
              simp only [rtE] at rb3
              obtain ⟨⟨x0, x1, x2, x3, x4, x5, x6, x7, x8⟩, -⟩ := (⟨⟨blk_cell rb3 rfl, blk_cell rb3 rfl, blk_cell rb3 rfl, blk_cell rb3 rfl, blk_cell rb3 rfl, blk_cell rb3 rfl, blk_cell rb3 rfl, blk_cell rb3 rfl, blk_cell rb3 rfl⟩, trivial⟩ : (wr.cell? ⟨WO.heap.size, 0, none⟩ = some (.int .u32 pa) ∧ wr.cell? ⟨WO.heap.size, 1, none⟩ = some (.int .i64 pl) ∧ wr.cell? ⟨WO.heap.size, 2, none⟩ = some (.int .i64 proto) ∧ wr.cell? ⟨WO.heap.size, 3, none⟩ = some (.int .u32 area) ∧ wr.cell? ⟨WO.heap.size, 4, none⟩ = some (.int .i64 cost) ∧ wr.cell? ⟨WO.heap.size, 5, none⟩ = some (.bool second) ∧ wr.cell? ⟨WO.heap.size, 6, none⟩ = some (.int .i64 cost2) ∧ wr.cell? ⟨WO.heap.size, 7, none⟩ = some (.int .i64 tag) ∧ wr.cell? ⟨WO.heap.size, 8, none⟩ = some (.slice ha hn hc)) ∧ True)
              clear rb3 Q DN
              have NOWN : Hid (ownB into (⟨⟨pa, pl⟩, proto, area, cost, second, cost2, tag, ha, hn, hc⟩ : Rt) tk = false → SmR w ⟨router, ia, iN, ic, a2, l.length, c2⟩ l into rs (k + 1) wr) := Lib.hid (fun h => DQ.out wr (by rw [h]; exact M1.out.mono (Nat.le_succ k)) ⟨rfl, rfl, rfl, Nat.le_refl _, fun _ _ _ => rfl⟩)
              have LC := Lib.hid (leastp_calls wr (w.heap.size + 1) k (sumK l into rs k).1 M1.out (by have := N1.out; have := KC.out; unfold maxLen; omega) ⟨pa, pl⟩ OKR.out.2 cost)
              have YOWN : Hid (∀ w', ownB into (⟨⟨pa, pl⟩, proto, area, cost, second, cost2, tag, ha, hn, hc⟩ : Rt) tk = true → PMap w' (w.heap.size + 1) (k + 1) (leastF (sumK l into rs k).1 ⟨pa, pl⟩ cost) → wr.grownBy w' (some (w.heap.size + 1)) → SmR w ⟨router, ia, iN, ic, a2, l.length, c2⟩ l into rs (k + 1) w') := Lib.hid (fun w' h m g => DQ.out w' (by rw [h]; exact m) g)
              clear DQ
              have FIN : (proto = 3 ∧ tk = false) ∨ (¬ (proto = 3 ∧ tk = false) ∧ proto = 4 ∧ ¬ into = 0) ∨ (¬ (proto = 3 ∧ tk = false) ∧ ¬ (proto = 4 ∧ ¬ into = 0)) := by
                by_cases p1 : proto = 3 ∧ tk = false
                · exact .inl p1
                · by_cases p2 : proto = 4 ∧ ¬ into = 0
                  · exact .inr (.inl ⟨p1, p2⟩)
                  · exact .inr (.inr ⟨p1, p2⟩)
              --IXX
              rcases FIN with ⟨p1, p2⟩ | ⟨p1, p2, p3⟩ | ⟨p1, p2⟩
              · subst p1 p2
                go_wp2_with fail
                refine LC.out.mono ?_
                rintro e w2 ⟨rfl, M2, G2⟩
                have NX := Lib.hid (YOWN.out w2 (by simp [ownB]) M2 G2)
                clear M2 G2 YOWN NOWN LC x0 x1 x2 x3 x4 x5 x6 x7 x8
                go_wp2_with fail
                go_roundw
                case rel => exact ⟨k + 1, by go_num, NX⟩
                case measure => simp [intOf]; have := KC.out; omega
              · subst p2
                have e2 : (into != 0) = true := by simpa using p3
                have OW : Hid (ownB into (⟨⟨pa, pl⟩, 4, area, cost, second, cost2, tag, ha, hn, hc⟩ : Rt) tk = true) := Lib.hid (by simp [ownB, p3])
                clear p1 p3
                go_wp2_with fail
                refine LC.out.mono ?_
                rintro e w2 ⟨rfl, M2, G2⟩
                have NX := Lib.hid (YOWN.out w2 OW.out M2 G2)
                clear M2 G2 YOWN NOWN LC x0 x1 x2 x3 x4 x5 x6 x7 x8
                go_wp2_with fail
                go_roundw
                case rel => exact ⟨k + 1, by go_num, NX⟩
                case measure => simp [intOf]; have := KC.out; omega
              · by_cases q1 : proto = 3
                · subst q1
                  have q2 : tk = true := by cases tk <;> simp_all
                  subst q2
                  clear p1 p2
                  have NX := Lib.hid (NOWN.out (by simp [ownB]))
                  clear YOWN NOWN LC
                  go_wp2_with fail
                  go_roundw
                  case rel => exact ⟨k + 1, by go_num, NX⟩
                  case measure => simp [intOf]; have := KC.out; omega
                · by_cases q2 : proto = 4
                  · have q3 : into = 0 := by
                      rcases Decidable.em (into = 0) with h | h
                      · exact h
                      · exact absurd ⟨q2, h⟩ p2
                    subst q2
                    have e2 : (into != 0) = false := by simp [q3]
                    have OW : Hid (ownB into (⟨⟨pa, pl⟩, 4, area, cost, second, cost2, tag, ha, hn, hc⟩ : Rt) tk = false) := Lib.hid (by simp [ownB, q3])
                    clear p1 p2 q1 q3
                    have NX := Lib.hid (NOWN.out OW.out)
                    clear YOWN NOWN LC
                    go_wp2_with fail
                    go_roundw
                    case rel => exact ⟨k + 1, by go_num, NX⟩
                    case measure => simp [intOf]; have := KC.out; omega
                  · have e1 : (proto == 3) = false := by simpa using q1
                    have e2 : (proto == 4) = false := by simpa using q2
                    have OW : Hid (ownB into (⟨⟨pa, pl⟩, proto, area, cost, second, cost2, tag, ha, hn, hc⟩ : Rt) tk = false) := Lib.hid (by simp [ownB, q1, q2])
                    clear p1 p2 q1 q2
                    have NX := Lib.hid (NOWN.out OW.out)
                    clear YOWN NOWN LC
                    go_wp2_with fail
                    go_roundw
                    case rel => exact ⟨k + 1, by go_num, NX⟩
                    case measure => simp [intOf]; have := KC.out; omega
    · --EXIT
      have ek : k = rs.length := by omega
      subst ek
      have MP := Lib.hid R.out.m2
      have RR := Lib.hid R.out
      clear R c
      go_wp2_with (at_range; refine wpList_rangeF _ rfl _ 131 rfl 3 Tryz.intKey Tryz.underlying131 (w.heap.size + 2) (rs.length * l.length) (sumK l into rs rs.length).2 rfl MP.out ?_; intro w0 cnt0 hcnt0 hrg0 hg0 hs0)
      have B0 : Below wr.heap.size wr w0 := ⟨hg0.os, hg0.tape, hg0.output, hg0.size, fun i hi => hg0.block i hi (by simp)⟩
      have O0 : Hid (SoR w ⟨router, ia, iN, ic, a2, l.length, c2⟩ l into rs wr.heap.size (rs.length * l.length) (fun x => ((sumK l into rs rs.length).2 x).isSome) cnt0 (sumK l into rs rs.length).1 rs.length w0) := Lib.hid (by
        have R1 := RR.out.grow B0
        have hs := RR.out.size
        refine ⟨hrg0, R1.m1, (MinF.self _).congr fun p d => ?_, R1.bx, R1.bel, by omega, hs⟩
        unfold SumL
        constructor
        · exact fun h => .inl h
        · rintro (h | ⟨x, h1, h2, _⟩)
          · exact h
          · change ((sumK l into rs rs.length).2 x).isSome = false at h2
            rw [h1] at h2; cases h2)
      clear hrg0 hg0 hs0 hcnt0 B0 MP RR
      go_frame
      generalize wr.heap.size = rb at *
      go_loopw [16] (fun _ wq => ∃ (left : Int → Bool) (cnt : Nat) (g : Ls.Pfx → Option Int) (m : Nat), Hid (SoR w ⟨router, ia, iN, ic, a2, l.length, c2⟩ l into rs rb (rs.length * l.length) left cnt g m wq)) (fun _ wq => wq.rangeLeft (w.heap.size + 2) rb)
      case atStart => exact ⟨_, _, _, _, O0⟩
      case round =>
        clear O0
        obtain ⟨left, cnt, g, m, Q⟩ := hrel
        go_wp2_with (at_next; refine wpList_nextF _ rfl _ rfl Tryz.intKey (w.heap.size + 2) rb (rs.length * l.length) (sumK l into rs rs.length).2 left cnt rfl Q.out.rng ?_ ?_)
        · intro hl0
          have PO := Lib.hid (POSTP.out rb left cnt g m wr Q.out hl0)
          clear hl0 Q
          go_wp2_with fail
          go_ret
          exact PO.out
        · intro x co w1 cnt1 hok1 hl1 hf1 hrg1 hlt hg1 hs1 hen
          --NXT
          have hk := sumK_keys l into rs rs.length x co hf1
          obtain ⟨i, rfl⟩ := Int.eq_ofNat_of_zero_le hk.1
          have c : i < l.length := by omega
          obtain ⟨gb, go, rfl, hgb, hgc⟩ := HGC.out (by omega)
          have hrb := Q.out.hr
          have bw1 : w1.heap[w.heap.size]? = some (.cells (cfgE ⟨router, ia, iN, ic, some ⟨gb, go, none⟩, l.length, c2⟩).toArray 26 (0, 0)) := (hg1.block _ (blk_lt Q.out.bx) (by simp; omega)).trans Q.out.bx
          have B1 : Below w.heap.size w w1 := Q.out.bel.grown hg1 Q.out.bel.size (fun j hj => by cases hj; omega)
          obtain ⟨g0, g1, g2, g3⟩ := (hgc i c).below B1 hgb
          simp only [cfgE] at bw1
          have y2 : w1.cell? ⟨w.heap.size, 2, none⟩ = some (.slice (some ⟨gb, go, none⟩) l.length c2) := blk_cell bw1 rfl
          have eA : argAt l ((i : Int)).toNat = l[i] := by rw [Int.toNat_natCast]; exact argAt_eq c
          have SK : Hid (∀ w3, Below w1.heap.size w1 w3 → ¬ ((argAt l ((i : Int)).toNat).adv = true ∧ (argAt l ((i : Int)).toNat).area ≠ into) → SoR w ⟨router, ia, iN, ic, some ⟨gb, go, none⟩, l.length, c2⟩ l into rs rb (rs.length * l.length) (fun z => left z && !decide (z = (i : Int))) cnt1 g m w3) := Lib.hid (fun w3 hb hno => Q.out.skip hl1 hf1 hrg1 hlt hg1 hb hno)
          have TKN : Hid (∀ w3 w4, Below w1.heap.size w1 w3 → ((argAt l ((i : Int)).toNat).adv = true ∧ (argAt l ((i : Int)).toNat).area ≠ into) → PMap w4 (w.heap.size + 1) (m + 1) (leastF g (argAt l ((i : Int)).toNat).pfx co) → w3.grownBy w4 (some (w.heap.size + 1)) → SoR w ⟨router, ia, iN, ic, some ⟨gb, go, none⟩, l.length, c2⟩ l into rs rb (rs.length * l.length) (fun z => left z && !decide (z = (i : Int))) cnt1 (leastF g (argAt l ((i : Int)).toNat).pfx co) (m + 1) w4) := Lib.hid (fun w3 w4 hb hy mp g4 => Q.out.take hl1 hf1 hrg1 hlt hg1 hb hy mp g4)
          rw [eA] at SK TKN
          have M1 := Lib.hid (Q.out.m1.other hg1 (by omega))
          have MB : Hid (m < maxLen) := Lib.hid (by
            have h1 := Q.out.hm
            have h4 : rs.length * l.length ≤ 100 * 64 := Nat.mul_le_mul n1 n2
            unfold maxLen; omega)
          have OKG := Lib.hid (HOL.out l[i] (List.getElem_mem c))
          have LT := Lib.hid hlt
          have QL := Lib.hid Q.out.rng.left_eq
          have j0 : (0 : Int) ≤ (i : Int) := by omega
          have j1 : (i : Int) < (l.length : Int) := by omega
          have j3 : ((i : Int)).toNat = i := by omega
          simp only [costV] at hen ⊢
          clear hk hgc bw1 B1 eA hok1 hl1 hf1 hrg1 hlt hg1 hs1 Q hrb
          generalize l[i] = G at *
          clear c
          obtain ⟨ga, ⟨gp, gl⟩, gadv⟩ := G
          simp only at g0 g1 g2 g3 SK TKN OKG
          go_upto_region 23 with fail
          generalize hW3 : w1.alloc _ = W3
          have B3 : Below w1.heap.size w1 W3 := by rw [← hW3]; exact (Below.refl _ _).alloc (Nat.le_refl _) _
          have b3 : W3.heap[w1.heap.size]? = some (.cells #[.int .u32 ga, .int .u32 gp, .int .i64 gl, .bool gadv] 77 (0, 0)) := by rw [← hW3]; exact alloc_new _ _
          have z0 := blk_cell (i := 0) b3 rfl
          have z1 := blk_cell (i := 1) b3 rfl
          have z2 := blk_cell (i := 2) b3 rfl
          have z3 := blk_cell (i := 3) b3 rfl
          have HB3 := Lib.hid B3
          have M3 := Lib.hid (M1.out.grow B3)
          clear hW3 B3 b3 g0 g1 g2 g3 y2 hen M1
          cases gadv with
          | false =>
            have NX := Lib.hid (SK.out W3 HB3.out (by simp))
            clear SK TKN
            go_wp2_with fail
            go_roundw
            case rel => exact ⟨_, _, _, _, NX⟩
            case measure => rw [NX.out.rng.left_eq, QL.out]; exact LT.out
          | true =>
            by_cases h1 : ga = into
            · have e1 : (ga != into) = false := by simpa using h1
              have NX := Lib.hid (SK.out W3 HB3.out (by simp [h1]))
              clear SK TKN h1
              go_wp2_with fail
              go_roundw
              case rel => exact ⟨_, _, _, _, NX⟩
              case measure => rw [NX.out.rng.left_eq, QL.out]; exact LT.out
            · have e1 : (ga != into) = true := by simpa using h1
              have LC := Lib.hid (leastp_calls W3 (w.heap.size + 1) m g M3.out MB.out ⟨gp, gl⟩ OKG.out.2 co)
              have TK2 := Lib.hid (fun w4 mp g4 => TKN.out W3 w4 HB3.out ⟨rfl, h1⟩ mp g4)
              clear SK TKN h1
              go_wp2_with fail
              refine LC.out.mono ?_
              rintro e w4 ⟨rfl, M4, G4⟩
              have NX := Lib.hid (TK2.out w4 M4 G4)
              clear M4 G4 TK2 LC z0 z1 z2 z3
              go_wp2_with fail
              go_roundw
              case rel => exact ⟨_, _, _, _, NX⟩
              case measure => rw [NX.out.rng.left_eq, QL.out]; exact LT.out

end Go.Proofs.YtogdconliofblaaGreat
