/-
  external.Routes: the best external routes.
-/
import Derived.Test.YtiemmejpaahbpaaGreatRts
import Derived.Test.YtiemmejpaahbpaaGreatOff
namespace Go.Proofs.YtiemmejpaahbpaaGreat
open Go.RowKit

theorem RBd.offer {db : List Lsa} {reach : List Rch} {inner : List RtH} {M : Nat} (B : RBd db reach inner M) {x : Lsa} (hx : x ∈ db) (ht : x.typ = 5) {vr vi : Value} {W : World} (hr : ReachAt W vr reach) (hi : RoutesAt W vi inner) :
    Calls Tryz.prog 23 #[.agg (lsaE x).toArray, vr, vi] W (OffPost W (offR x reach inner) (offOk x reach inner)) :=
  offer_calls x (B.okl x hx) (by rw [ht]; rfl) (B.len x hx ht).1 (B.len x hx ht).2 vr reach vi inner W hr B.hN hi B.okp (B.hI x hx) (B.way x hx).1 (B.way x hx).2 (B.cost x hx ht).1 (B.cost x hx ht).2

theorem tabStep_no {router : Int} {reach : List Rch} {inner : List RtH} {g : Tab} {x : Lsa} (h : (offK router x && offOk x reach inner) = false) : tabStep router reach inner g x = g := by
  unfold tabStep; rw [h]; rfl
theorem tabStep_yes {router : Int} {reach : List Rch} {inner : List RtH} {g : Tab} {x : Lsa} (h : (offK router x && offOk x reach inner) = true) : tabStep router reach inner g x = tabAdd g (offR x reach inner) := by
  unfold tabStep; rw [h]; rfl

set_option maxHeartbeats 8000000 in
set_option maxRecDepth 100000 in
theorem routes_calls (w : World) (db : List Lsa) (vd : Value) (router : Int) (reach : List Rch) (vr : Value) (inner : List RtH) (vi : Value) (M : Nat) (hd : LsasAt w vd db) (hr : ReachAt w vr reach) (hi : RoutesAt w vi inner) (B : RBd db reach inner M) :
    Calls Tryz.prog 9 #[vd, .int .u32 router, vr, vi] w (RtsPost w (tabOf router reach inner db)) := by
  obtain ⟨i0, hi0, hz0, hz1, hz2⟩ := info_parts Tryz.infoRt
  have HI0 := Lib.hid hi0
  have HZ0 := Lib.hid hz0
  have HZ1 := Lib.hid hz1
  have HZ2 := Lib.hid hz2
  clear hi0 hz0 hz1 hz2
  obtain ⟨ad, cap, rfl, hl, hc⟩ := hd.get
  have HC := Lib.hid hc
  have HR := Lib.hid hr
  have HI := Lib.hid hi
  have BB := Lib.hid B
  clear hd hr hi B hc
  have hmm := @run_makeMap Tryz.prog
  have R0 : Hid (RtsRel w router reach inner db M 0 (fun _ => none) (w.alloc (.map #[] 0))) := Lib.hid ⟨⟨MapF.made w, fun _ => rfl, fun p x h => by cases h⟩, (Below.refl _ _).alloc (Nat.le_refl _) _, fun p x h => (by cases h), Nat.zero_le _, fun p x h => by cases h⟩
  go_enter Tryz.func9, Tryz.ntmps9
  go_wp2_with fail
  go_loopw [23] (fun i wr => ∃ (k : Nat) (f : Ls.Pfx → Option RtH), i = .int .i64 k ∧ RtsRel w router reach inner db M k f wr) (fun i _ => db.length - (intOf i).toNat)
  case atStart => exact ⟨0, _, rfl, R0.out⟩
  case round =>
    clear R0
    obtain ⟨k, f, rfl, R⟩ := hrel
    have hk := R.hk
    by_cases c : k < db.length
    · obtain ⟨b, off, rfl, hb0, hcc⟩ := HC.out (by omega)
      obtain ⟨⟨d0, d1, d2, d3, d4⟩, ⟨d5, d6, d7, d8, d9⟩, ⟨d10, d11, d12, d13, d14⟩⟩ := (hcc k c).below R.bel hb0
      have RR := Lib.hid R
      have MEM := Lib.hid (List.getElem_mem c : db[k] ∈ db)
      clear hcc R
      have SK := Lib.hid (fun (h : (offK router db[k] && offOk db[k] reach inner) = false) (W : World) (hb : Below wr.heap.size wr W) => RR.out.skip c (tabStep_no h) hb)
      generalize hx : db[k] = x at *
      have HX := Lib.hid hx
      clear hx
      by_cases t5 : x.typ = 5
      · by_cases tg : x.age < 3600
        · by_cases tr : x.router = router
          · have NX := Lib.hid (fun o => SK.out (by simp [offK, tr]) (wr.alloc o) ((Below.refl _ _).alloc (Nat.le_refl _) o))
            obtain ⟨typ, id, len, rou, seq, age, sum, border, boundary, la, ln, lc, aa, an, ac, cost, second, fwd, tag⟩ := x
            simp only at *
            subst t5 tr
            clear SK
            go_wp2_with fail
            go_roundw
            case rel => exact ⟨k + 1, f, by go_num, NX.out _⟩
            case measure => simp [intOf]; omega
          · have oK : offK router x = true := by simp [offK, t5, tg, tr]
            have OKP : Hid (pfxOk (offR x reach inner).pfx) := Lib.hid (pfxOk_of (BB.out.okl x MEM.out) (BB.out.len x MEM.out t5).1 (BB.out.len x MEM.out t5).2)
            have HLN : Hid ((offR x reach inner).hops.length ≤ M) := Lib.hid (BB.out.hop x MEM.out)
            obtain ⟨Wx, hWx⟩ : ∃ Wx, wr.alloc (.cells (lsaE x).toArray 44) = Wx := ⟨_, rfl⟩
            have BX : Below wr.heap.size wr Wx := by rw [← hWx]; exact (Below.refl _ _).alloc (Nat.le_refl _) _
            have OC := Lib.hid (BB.out.offer MEM.out t5 (HR.out.below (RR.out.bel.trans (BX.mono RR.out.bel.size))) (HI.out.below (RR.out.bel.trans (BX.mono RR.out.bel.size))))
            have ST := Lib.hid (tabStep_yes (g := tabK router reach inner db k) (router := router) (reach := reach) (inner := inner) (x := x))
            rw [oK, Bool.true_and] at SK ST
            generalize offR x reach inner = o at *
            generalize offOk x reach inner = okb at *
            generalize hts : tabStep router reach inner (tabK router reach inner db k) x = TS at *
            have HTS := Lib.hid hts
            obtain ⟨typ, id, len, rou, seq, age, sum, border, boundary, la, ln, lc, aa, an, ac, cost, second, fwd, tag⟩ := x
            simp only [lsaE] at *
            subst t5
            have tr1 : (rou == router) = false := by simpa using tr
            have HWx := Lib.hid hWx
            clear oK hWx tr hts
            go_wp2_with fail
            rw [HWx.out]
            refine OC.out.mono ?_
            rintro e w2 ⟨a2, n2, c2, rfl, H2, B2⟩
            clear OC HWx d0 d1 d2 d3 d4 d5 d6 d7 d8 d9 d10 d11 d12 d13 d14 tr1 tg
            have BW2 : Below wr.heap.size wr w2 := BX.trans (B2.mono BX.size)
            clear BX B2
            cases okb with
            | false =>
              have NX := Lib.hid (fun o => SK.out rfl (w2.alloc o) (BW2.alloc BW2.size o))
              obtain ⟨⟨pa, pl⟩, o2, o3, o4, o5, o6, o7, oh⟩ := o
              simp only [rtE, Rp.rt]
              clear SK ST BW2 H2 OKP HLN
              go_wp2_with fail
              go_roundw
              case rel => exact ⟨k + 1, f, by go_num, NX.out _⟩
              case measure => simp [intOf]; omega
            | true =>
              have HT : Hid (tabAdd (tabK router reach inner db k) o = TS) := Lib.hid ((ST.out rfl).symm)
              have VAL := Lib.hid (RR.out.tab.val o.pfx)
              obtain ⟨⟨pa, pl⟩, o2, o3, o4, o5, o6, o7, oh⟩ := o
              simp only [rtE, Rp.rt] at *
              obtain ⟨W3, hW3⟩ : ∃ W3, w2.alloc (.cells #[.int .u32 pa, .int .i64 pl, .int .i64 o2, .int .u32 o3, .int .i64 o4, .bool o5, .int .i64 o6, .int .i64 o7, .slice a2 n2 c2] 36) = W3 := ⟨_, rfl⟩
              have b3 : W3.heap[w2.heap.size]? = some (.cells #[.int .u32 pa, .int .i64 pl, .int .i64 o2, .int .u32 o3, .int .i64 o4, .bool o5, .int .i64 o6, .int .i64 o7, .slice a2 n2 c2] 36 (0, 0)) := by rw [← hW3]; exact alloc_new _ _
              have B23 : Below w2.heap.size w2 W3 := by rw [← hW3]; exact (Below.refl _ _).alloc (Nat.le_refl _) _
              have BW3 : Hid (Below wr.heap.size wr W3) := Lib.hid (BW2.trans (B23.mono BW2.size))
              have H3 : Hid (HopsAt W3 (.slice a2 n2 c2) oh) := Lib.hid (H2.below B23)
              have hs3 : w2.heap.size < W3.heap.size := blk_lt b3
              have M3 := Lib.hid ((RR.out.tab.grow BW3.out).map)
              have KM : Hid (k < maxLen) := Lib.hid (by unfold maxLen; omega)
              have HW3 := Lib.hid hW3
              have B3 := Lib.hid b3
              clear SK ST H2 B23 BW2 hW3 b3
              cases hfp : f ⟨pa, pl⟩ with
              | none =>
                have HF := Lib.hid hfp
                obtain ⟨W4, hW4⟩ : ∃ W4, W3.alloc (.cells #[.int .u32 0, .int .i64 0, .int .i64 0, .int .u32 0, .int .i64 0, .bool false, .int .i64 0, .int .i64 0, .slice none 0 0] 36) = W4 := ⟨_, rfl⟩
                have B34 : Below W3.heap.size W3 W4 := by rw [← hW4]; exact (Below.refl _ _).alloc (Nat.le_refl _) _
                have CC := Lib.hid (rcompare_calls ⟨⟨pa, pl⟩, o2, o3, o4, o5, o6, o7, a2, n2, c2⟩ zeroRt W4)
                have B34H := Lib.hid B34
                have HW4 := Lib.hid hW4
                clear hfp hW4 B34
                simp only [rtE, zeroRt] at CC
                generalize rtCmp _ _ = c5 at CC
                obtain ⟨⟨z0, z1, z2, z3, z4, z5, z6, z7, z8⟩, -⟩ := blk9 B3.out
                go_wp2_with (first
                  | (at_lookup; rw [HW3.out]; refine wpList_look_none _ rfl _ _ 63 rfl 36 Tryz.pfxKey Tryz.underlying63 (Tryz.zeroRt _) w.heap.size k f rfl M3.out ⟨pa, pl⟩ rfl OKP.out HF.out ?_))
                rw [HW4.out]
                refine CC.out.mono ?_
                rintro e w5 ⟨rfl, G5⟩
                have B5 := Lib.hid (B34H.out.trans (G5.b.mono B34H.out.size))
                obtain ⟨⟨y0, y1, y2, y3, y4, y5, y6, y7, y8⟩, -⟩ := blk9 ((B5.out.block w2.heap.size hs3).trans B3.out)
                have BW5 := Lib.hid (BW3.out.trans (B5.out.mono BW3.out.size))
                have M5 := Lib.hid (M3.out.grow B5.out)
                have TA : Hid (TS = upd (tabK router reach inner db k) ⟨pa, pl⟩ ⟨⟨pa, pl⟩, o2, o3, o4, o5, o6, o7, oh⟩) := Lib.hid (by
                  rw [← HT.out]
                  unfold tabAdd
                  have e := VAL.out
                  rw [HF.out] at e
                  simp only at e ⊢
                  rw [← e]; rfl)
                have PUT := Lib.hid (fun w6 M6 G6 => RR.out.put (w1 := w5) (w2 := w6) c ⟨⟨⟨pa, pl⟩, o2, o3, o4, o5, o6, o7, a2, n2, c2⟩, oh⟩ OKP.out (by rw [HX.out, HTS.out, TA.out]; rfl) BW5.out (H3.out.below B5.out) (Nat.le_trans HLN.out (Nat.le_mul_of_pos_left _ (Nat.succ_pos _))) M6 G6)
                clear z0 z1 z2 z3 z4 z5 z6 z7 z8 G5 CC HW4 B34H
                go_wp2_with (first
                  | (at_mapUpdate; refine wpList_mput _ rfl _ _ _ 63 rfl 36 Tryz.pfxKey Tryz.underlying63 w.heap.size k f rfl M5.out KM.out ⟨pa, pl⟩ rfl OKP.out ⟨⟨⟨pa, pl⟩, o2, o3, o4, o5, o6, o7, a2, n2, c2⟩, oh⟩ rfl ?_; intro w6 M6 G6; have NX := Lib.hid (PUT.out w6 M6 G6); clear M6 G6))
                go_roundw
                case rel => exact ⟨k + 1, _, by go_num, NX.out⟩
                case measure => simp [intOf]; omega
              | some y =>
                have KEY : y.rt.pfx = ⟨pa, pl⟩ := by
                  have e := RR.out.tab.val ⟨pa, pl⟩
                  rw [hfp] at e
                  exact tabOf_pfx router reach inner (db.take k) _ _ e.symm
                have HY : Hid (HopsAt W3 y.rt.hv y.hops) := Lib.hid ((RR.out.tab.hops _ _ hfp).below BW3.out)
                have LY : Hid (y.hops.length ≤ k * M) := Lib.hid (RR.out.lens _ _ hfp)
                have HF := Lib.hid hfp
                obtain ⟨⟨q, p2, p3, p4, p5, p6, p7, ya, yn, yc⟩, yh⟩ := y
                simp only at KEY LY
                subst KEY
                simp only [Rt.hv] at HY
                have GV : Hid (tabK router reach inner db k ⟨pa, pl⟩ = some ⟨⟨pa, pl⟩, p2, p3, p4, p5, p6, p7, yh⟩) := Lib.hid (by
                  have e := VAL.out
                  rw [HF.out] at e
                  exact e.symm)
                obtain ⟨W4, hW4⟩ : ∃ W4, W3.alloc (.cells #[.int .u32 pa, .int .i64 pl, .int .i64 p2, .int .u32 p3, .int .i64 p4, .bool p5, .int .i64 p6, .int .i64 p7, .slice ya yn yc] 36) = W4 := ⟨_, rfl⟩
                have B34 : Below W3.heap.size W3 W4 := by rw [← hW4]; exact (Below.refl _ _).alloc (Nat.le_refl _) _
                have b4 : W4.heap[W3.heap.size]? = some (.cells #[.int .u32 pa, .int .i64 pl, .int .i64 p2, .int .u32 p3, .int .i64 p4, .bool p5, .int .i64 p6, .int .i64 p7, .slice ya yn yc] 36 (0, 0)) := by rw [← hW4]; exact alloc_new _ _
                have CC := Lib.hid (rcompare_calls ⟨⟨pa, pl⟩, o2, o3, o4, o5, o6, o7, a2, n2, c2⟩ ⟨⟨pa, pl⟩, p2, p3, p4, p5, p6, p7, ya, yn, yc⟩ W4)
                have RC : Hid (rpCmp ⟨⟨pa, pl⟩, o2, o3, o4, o5, o6, o7, oh⟩ ⟨⟨pa, pl⟩, p2, p3, p4, p5, p6, p7, yh⟩ = rtCmp ⟨⟨pa, pl⟩, o2, o3, o4, o5, o6, o7, a2, n2, c2⟩ ⟨⟨pa, pl⟩, p2, p3, p4, p5, p6, p7, ya, yn, yc⟩) := Lib.hid rfl
                have B34H := Lib.hid B34
                have HW4 := Lib.hid hW4
                have B4 := Lib.hid b4
                have hs4 : W3.heap.size < W4.heap.size := blk_lt b4
                have TAD : Hid (tabAdd (tabK router reach inner db k) ⟨⟨pa, pl⟩, o2, o3, o4, o5, o6, o7, oh⟩ = if rpCmp ⟨⟨pa, pl⟩, o2, o3, o4, o5, o6, o7, oh⟩ ⟨⟨pa, pl⟩, p2, p3, p4, p5, p6, p7, yh⟩ < 0 then upd (tabK router reach inner db k) ⟨pa, pl⟩ ⟨⟨pa, pl⟩, o2, o3, o4, o5, o6, o7, oh⟩ else if rpCmp ⟨⟨pa, pl⟩, o2, o3, o4, o5, o6, o7, oh⟩ ⟨⟨pa, pl⟩, p2, p3, p4, p5, p6, p7, yh⟩ = 0 then upd (tabK router reach inner db k) ⟨pa, pl⟩ ⟨⟨pa, pl⟩, p2, p3, p4, p5, p6, p7, Ls.merge Ls.hopLt yh oh⟩ else tabK router reach inner db k) := Lib.hid (by
                  unfold tabAdd
                  rw [GV.out])
                clear hfp hW4 B34 b4
                simp only [rtE] at CC
                generalize rtCmp _ _ = c5 at CC RC
                obtain ⟨⟨z0, z1, z2, z3, z4, z5, z6, z7, z8⟩, -⟩ := blk9 B3.out
                go_wp2_with (first
                  | (at_lookup; rw [HW3.out]; refine wpList_look_some _ rfl _ _ 63 rfl 36 Tryz.pfxKey Tryz.underlying63 (Tryz.zeroRt _) w.heap.size k f rfl M3.out ⟨pa, pl⟩ rfl OKP.out _ HF.out ?_; simp only [rtV, rtE]))
                rw [HW4.out]
                refine CC.out.mono ?_
                rintro e w5 ⟨rfl, G5⟩
                have B5 := Lib.hid (B34H.out.trans (G5.b.mono B34H.out.size))
                have BR5 := Lib.hid ((B5.out.block w2.heap.size hs3).trans B3.out)
                have BY5 := Lib.hid ((G5.b.block W3.heap.size hs4).trans B4.out)
                obtain ⟨⟨y0, y1, y2, y3, y4, y5, y6, y7, y8⟩, -⟩ := blk9 BR5.out
                have BW5 := Lib.hid (BW3.out.trans (B5.out.mono BW3.out.size))
                have M5 := Lib.hid (M3.out.grow B5.out)
                clear z0 z1 z2 z3 z4 z5 z6 z7 z8 G5 CC HW4 B34H B4
                by_cases k1 : c5 < 0
                · have TA : Hid (TS = upd (tabK router reach inner db k) ⟨pa, pl⟩ ⟨⟨pa, pl⟩, o2, o3, o4, o5, o6, o7, oh⟩) := Lib.hid (by
                    rw [← HT.out, TAD.out, RC.out, if_pos k1])
                  have PUT := Lib.hid (fun w6 M6 G6 => RR.out.put (w1 := w5) (w2 := w6) c ⟨⟨⟨pa, pl⟩, o2, o3, o4, o5, o6, o7, a2, n2, c2⟩, oh⟩ OKP.out (by rw [HX.out, HTS.out, TA.out]; rfl) BW5.out (H3.out.below B5.out) (Nat.le_trans HLN.out (Nat.le_mul_of_pos_left _ (Nat.succ_pos _))) M6 G6)
                  clear TAD RC BY5 BR5
                  go_wp2_with (first
                    | (at_mapUpdate; refine wpList_mput _ rfl _ _ _ 63 rfl 36 Tryz.pfxKey Tryz.underlying63 w.heap.size k f rfl M5.out KM.out ⟨pa, pl⟩ rfl OKP.out ⟨⟨⟨pa, pl⟩, o2, o3, o4, o5, o6, o7, a2, n2, c2⟩, oh⟩ rfl ?_; intro w6 M6 G6; have NX := Lib.hid (PUT.out w6 M6 G6); clear M6 G6))
                  go_roundw
                  case rel => exact ⟨k + 1, _, by go_num, NX.out⟩
                  case measure => simp [intOf]; omega
                · by_cases k2 : c5 = 0
                  · have TA : Hid (TS = upd (tabK router reach inner db k) ⟨pa, pl⟩ ⟨⟨pa, pl⟩, p2, p3, p4, p5, p6, p7, Ls.merge Ls.hopLt yh oh⟩) := Lib.hid (by
                      rw [← HT.out, TAD.out, RC.out, if_neg k1, if_pos k2])
                    subst k2
                    have MB : Hid ((yh.length + oh.length) * 16 ≤ 140737488355328 ∧ (Ls.merge Ls.hopLt yh oh).length ≤ (k + 1) * M) := Lib.hid (by
                      have h1 : yh.length ≤ k * M := LY.out
                      have h2 : oh.length ≤ M := HLN.out
                      have h3 : (k + 1) * M ≤ db.length * M := Nat.mul_le_mul_right M c
                      have h4 := BB.out.tot
                      have h5 := Ls.merge_length_le (lt := Ls.hopLt) yh oh
                      rw [Nat.succ_mul] at *
                      omega)
                    have MC := Lib.hid (merge_calls w5 (.slice ya yn yc) (.slice a2 n2 c2) yh oh (HY.out.below B5.out) (H3.out.below B5.out) MB.out.1)
                    obtain ⟨⟨x0, x1, x2, x3, x4, x5, x6, x7, x8⟩, -⟩ := blk9 BY5.out
                    clear TAD RC k1 H3 HY LY HLN
                    go_wp2_with fail
                    refine MC.out.mono ?_
                    rintro e w6 ⟨v6, rfl, O6, B6⟩
                    obtain ⟨va, vn, vc, rfl⟩ := O6.slice
                    have hs5 : W3.heap.size < w5.heap.size := blk_lt BY5.out
                    have hw5 : w2.heap.size < w5.heap.size := blk_lt BR5.out
                    have BY6 := (B6.block W3.heap.size hs5).trans BY5.out
                    obtain ⟨⟨u0, u1, u2, u3, u4, u5, u6, u7, u8⟩, ff⟩ := blk9 BY6
                    have f8 := ff 8
                    obtain ⟨⟨t0, t1, -⟩, -⟩ := blk9 ((B6.block w2.heap.size hw5).trans BR5.out)
                    have mw : w.heap.size ≠ W3.heap.size := by have h1 := RR.out.bel.size; have h2 := BW3.out.size; have h3 := RR.out.tab.map.lt; omega
                    have M7 := Lib.hid ((M5.out.grow B6).setCell (a := ⟨W3.heap.size, 8, none⟩) mw (.slice va vn vc))
                    have n1 : ¬ w2.heap.size = W3.heap.size := by omega
                    have n2' : ¬ W3.heap.size = w2.heap.size := by omega
                    have lo : wr.heap.size ≤ W3.heap.size := BW3.out.size
                    have BW7 : Hid (Below wr.heap.size wr (w6.setCell ⟨W3.heap.size, 8, none⟩ (.slice va vn vc))) := Lib.hid ((BW5.out.trans (B6.mono BW5.out.size)).setCell lo _)
                    have H7 : Hid (HopsAt (w6.setCell ⟨W3.heap.size, 8, none⟩ (.slice va vn vc)) (.slice va vn vc) (Ls.merge Ls.hopLt yh oh)) := Lib.hid (O6.other _ _ hs5).at
                    have PUT := Lib.hid (fun w8 M8 G8 => RR.out.put (w1 := w6.setCell ⟨W3.heap.size, 8, none⟩ (.slice va vn vc)) (w2 := w8) c ⟨⟨⟨pa, pl⟩, p2, p3, p4, p5, p6, p7, va, vn, vc⟩, Ls.merge Ls.hopLt yh oh⟩ OKP.out (by rw [HX.out, HTS.out, TA.out]; rfl) BW7.out H7.out MB.out.2 M8 G8)
                    clear y0 y1 y2 y3 y4 y5 y6 y7 y8 x0 x1 x2 x3 x4 x5 x6 x7 x8 ff mw lo BY6 O6 B6 MC MB BW7 H7 TA BY5 BR5
                    go_wp2_with (first
                      | (at_mapUpdate; refine wpList_mput _ rfl _ _ _ 63 rfl 36 Tryz.pfxKey Tryz.underlying63 w.heap.size k f rfl M7.out KM.out ⟨pa, pl⟩ rfl OKP.out ⟨⟨⟨pa, pl⟩, p2, p3, p4, p5, p6, p7, va, vn, vc⟩, Ls.merge Ls.hopLt yh oh⟩ rfl ?_; intro w8 M8 G8; have NX := Lib.hid (PUT.out w8 M8 G8); clear M8 G8))
                    go_roundw
                    case rel => exact ⟨k + 1, _, by go_num, NX.out⟩
                    case measure => simp [intOf]; omega
                  · have NX : Hid (RtsRel w router reach inner db M (k + 1) f w5) := Lib.hid (RR.out.skip c (by rw [HX.out, HTS.out, ← HT.out, TAD.out, RC.out, if_neg k1, if_neg k2]) BW5.out)
                    have d1 : decide (c5 < 0) = false := by simpa using k1
                    have d2 : (c5 == 0) = false := by simpa using k2
                    have d3 : 0 < c5 := by omega
                    clear TAD RC k1 k2
                    go_wp2_with fail
                    go_roundw
                    case rel => exact ⟨k + 1, f, by go_num, NX.out⟩
                    case measure => simp [intOf]; omega
        · have NX := Lib.hid (fun o => SK.out (by simp [offK, tg]) (wr.alloc o) ((Below.refl _ _).alloc (Nat.le_refl _) o))
          obtain ⟨typ, id, len, rou, seq, age, sum, border, boundary, la, ln, lc, aa, an, ac, cost, second, fwd, tag⟩ := x
          simp only at *
          subst t5
          clear SK
          have t1 : decide (age ≥ 3600) = true := by simpa using tg
          clear tg
          go_wp2_with fail
          go_roundw
          case rel => exact ⟨k + 1, f, by go_num, NX.out _⟩
          case measure => simp [intOf]; omega
      · have NX := Lib.hid (fun o => SK.out (by simp [offK, t5]) (wr.alloc o) ((Below.refl _ _).alloc (Nat.le_refl _) o))
        obtain ⟨typ, id, len, rou, seq, age, sum, border, boundary, la, ln, lc, aa, an, ac, cost, second, fwd, tag⟩ := x
        simp only at *
        clear SK
        have t1 : (typ != 5) = true := by simpa using t5
        have t2 : (typ == 5) = false := by simpa using t5
        clear t5
        go_wp2_with fail
        go_roundw
        case rel => exact ⟨k + 1, f, by go_num, NX.out _⟩
        case measure => simp [intOf]; omega
    · have kk : k = db.length := by omega
      have GT : Hid (tabK router reach inner db k = tabOf router reach inner db) := Lib.hid (by unfold tabK tabOf; rw [List.take_of_length_le (by omega)])
      have FP : Hid (∀ p x, f p = some x → x.rt.pfx = p) := Lib.hid (fun p x h => by
        have e := R.tab.val p
        rw [h] at e
        exact tabOf_pfx router reach inner (db.take k) _ _ e.symm)
      have RR := Lib.hid R
      have MP := Lib.hid R.tab.map
      clear R
      go_wp2_with (first
        | (at_range; refine wpList_rangeF _ rfl _ 63 rfl 36 Tryz.pfxKey Tryz.underlying63 w.heap.size k f rfl MP.out ?_; intro w0 cnt0 hcnt0 hrg0 hg0 hs0))
      have B0 : Hid (Below wr.heap.size wr w0) := Lib.hid ⟨hg0.os, hg0.tape, hg0.output, hg0.size, fun i hi => hg0.block i hi (by simp)⟩
      have O0 := Lib.hid (OutRel.start hrg0 hcnt0)
      have HH : Hid (∀ p x, f p = some x → HopsAt w0 x.rt.hv x.hops) := Lib.hid (fun p x h => (RR.out.tab.hops p x h).below B0.out)
      have NC := Lib.hid (RRange.noCell hrg0)
      have BW0 := Lib.hid (RR.out.bel.trans (B0.out.mono RR.out.bel.size))
      have rlo : w.heap.size ≤ wr.heap.size := RR.out.bel.size
      have kn : k * 88 ≤ 140737488355328 := by have := BB.out.n; rw [← kk] at this; exact this
      have KN := Lib.hid kn
      have OKF := Lib.hid RR.out.okf
      have VL := Lib.hid RR.out.tab.val
      clear hrg0 hg0 hs0 hcnt0 kk kn MP
      go_frame
      generalize wr.heap.size = rb at *
      go_loopw [17] (fun v wq => ∃ (left : Ls.Pfx → Bool) (cnt : Nat) (out : List RtH), OutRel w0 w.heap.size rb k f left cnt out v wq) (fun _ wq => wq.rangeLeft w.heap.size rb)
      case atStart => exact ⟨_, _, _, O0.out⟩
      case round =>
        clear O0
        obtain ⟨left, cnt, out, Q⟩ := hrel
        have QQ := Lib.hid Q
        clear Q
        go_wp2_with (at_next; refine wpList_nextF _ rfl _ rfl Tryz.pfxKey w.heap.size rb k f left cnt rfl QQ.out.rng ?_ ?_)
        · intro hl0
          have HL := Lib.hid hl0
          clear hl0
          have OL : (out.map RtH.rt).length ≤ k := by have := QQ.out.len; rw [List.length_map]; omega
          have SC := Lib.hid (sort_rts w0.heap.size wr u17 (out.map RtH.rt) QQ.out.own (by have := KN.out; omega))
          clear OL
          go_wp2_with fail
          refine SC.out.mono ?_
          rintro e w6 ⟨rfl, l', P, U, O, B⟩
          have PO := Lib.hid (OutRel.post (w := w) (g := tabOf router reach inner db) QQ.out FP.out OKF.out HL.out (by rw [← GT.out]; exact VL.out) HH.out NC.out BW0.out rlo P U O B)
          clear P U O B SC
          go_wp2_with fail
          go_ret
          exact PO.out
        · intro p y w1 cnt1 hok1 hl1 hf1 hrg1 hlt hg1 hs1 hen
          have HF1 := Lib.hid hf1
          have HL1 := Lib.hid hl1
          have HK1 := Lib.hid hok1
          have HRG := Lib.hid hrg1
          have HG1 := Lib.hid hg1
          obtain ⟨⟨⟨pa, pl⟩, o2, o3, o4, o5, o6, o7, ya, yn, yc⟩, yh⟩ := y
          simp only [rtV, rtE] at hen ⊢
          obtain ⟨W3, hW3⟩ : ∃ W3, (w1.alloc (.cells #[.int .u32 pa, .int .i64 pl, .int .i64 o2, .int .u32 o3, .int .i64 o4, .bool o5, .int .i64 o6, .int .i64 o7, .slice ya yn yc] 36)).alloc (.cells #[.int .u32 pa, .int .i64 pl, .int .i64 o2, .int .u32 o3, .int .i64 o4, .bool o5, .int .i64 o6, .int .i64 o7, .slice ya yn yc] 36) = W3 := ⟨_, rfl⟩
          have B13 : Below w1.heap.size w1 W3 := by rw [← hW3]; exact ((Below.refl _ _).alloc (Nat.le_refl _) _).alloc (by simp) _
          have OWN : Hid (W3.ownsRow w0.heap.size 36 9 u17 (out.map RtH.rt).length ((out.map RtH.rt).map rtE).flatten) := Lib.hid (by
            have h1 := QQ.out.own
            have lo := QQ.out.lo.1
            refine (h1.kept hg1 ?_).kept (grown_of_below B13 none) ?_
            · cases hv : u17.ownBlock with
              | none => exact .inl rfl
              | some j => right; intro e; have h2 := (h1.lt j hv).1; simp only [Option.some.injEq] at e; omega
            · cases u17.ownBlock <;> simp)
          have SLV : Hid (SlV 9 W3 (.slice (some ⟨w1.heap.size + 1, 0, none⟩) 1 1) [rtE ⟨⟨pa, pl⟩, o2, o3, o4, o5, o6, o7, ya, yn, yc⟩]) := Lib.hid (by
            have hb := blk_new2 w1 (.cells #[.int .u32 pa, .int .i64 pl, .int .i64 o2, .int .u32 o3, .int .i64 o4, .bool o5, .int .i64 o6, .int .i64 o7, .slice ya yn yc] 36) (.cells #[.int .u32 pa, .int .i64 pl, .int .i64 o2, .int .u32 o3, .int .i64 o4, .bool o5, .int .i64 o6, .int .i64 o7, .slice ya yn yc] 36)
            rw [hW3] at hb
            refine ⟨_, 1, rfl, Nat.le_refl _, (by unfold maxLen; omega), (fun h => by cases h), fun _ => ⟨_, 0, rfl, blk_lt hb, fun i hi j u hu => ?_⟩⟩
            have : i = 0 := by simpa using hi
            subst this
            simp only [List.getElem_cons_zero] at hu
            simp only [Nat.zero_mul, Nat.zero_add]
            exact blk_cell hb (by simpa [rtE] using hu))
          have OL : (out.map RtH.rt).length + 1 ≤ k := by have := QQ.out.len; rw [List.length_map]; omega
          have K1 : Hid ((out.map RtH.rt).length + [rtE ⟨⟨pa, pl⟩, o2, o3, o4, o5, o6, o7, ya, yn, yc⟩].length ≤ maxLen) := Lib.hid (by simp only [List.length_singleton]; unfold maxLen; omega)
          have K2 : Hid (((out.map RtH.rt).length + [rtE ⟨⟨pa, pl⟩, o2, o3, o4, o5, o6, o7, ya, yn, yc⟩].length) * 88 ≤ 140737488355328) := Lib.hid (by simp only [List.length_singleton]; have := KN.out; omega)
          have BS : Hid (w0.heap.size ≤ W3.heap.size) := Lib.hid (Nat.le_trans QQ.out.gr.size (Nat.le_trans hg1.size B13.size))
          have STEP := Lib.hid (fun v' w4 (own' : w4.ownsRow w0.heap.size 36 9 v' _ _) (hg4 : W3.grownBy w4 u17.ownBlock) => QQ.out.step FP.out HK1.out HL1.out HF1.out HRG.out hlt HG1.out B13 own' hg4)
          have LT := Lib.hid hlt
          have HW3 := Lib.hid hW3
          clear OL hf1 hl1 hok1 hrg1 hg1 hs1 B13 hW3 hlt
          go_wp2_with (at_builtin; rw [HW3.out]; refine wpList_append_sl rfl _ _ _ rfl w0.heap.size 36 i0 _ 9 88 Tryz.underlying25 HI0.out HZ0.out HZ1.out HZ2.out rfl (by decide) _ (out.map RtH.rt).length _ rfl OWN.out _ [rtE ⟨⟨pa, pl⟩, o2, o3, o4, o5, o6, o7, ya, yn, yc⟩] rfl SLV.out (rtE_len [_]) (rtE_ones [_]) K1.out K2.out BS.out ?_; intro v' w4 own' hg4; have NX := Lib.hid (STEP.out v' w4 own' hg4); clear own' hg4)
          go_roundw
          case rel => exact ⟨_, _, _, NX.out⟩
          case measure => rw [NX.out.rng.left_eq, QQ.out.rng.left_eq]; exact LT.out

end Go.Proofs.YtiemmejpaahbpaaGreat
