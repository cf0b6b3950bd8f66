/-
  external.offer: the route that an external advertisement offers.
-/
import Derived.Test.YtiemmejpaahbpaaGreatOfl
namespace Go.Proofs.YtiemmejpaahbpaaGreat
open Go.RowKit

set_option maxHeartbeats 4000000 in
set_option maxRecDepth 100000 in
theorem offer_calls (x : Lsa) (ok : OkL x) (ht : hasPfx x.typ = true) (h0 : 0 ≤ x.len) (h1 : x.len ≤ 32) (vr : Value) (reach : List Rch) (vi : Value) (inner : List RtH) (w : World) (hr : ReachAt w vr reach) (hN : hopSum reach * 16 ≤ 140737488355328)
    (hi : RoutesAt w vi inner) (hok : ∀ y ∈ inner, OkP y.rt.pfx) (hI : (lookR x.fwd inner).hops.length * 16 ≤ 140737488355328)
    (hc0 : 0 ≤ (offWay x reach inner).1) (hc1 : (offWay x reach inner).1 ≤ 1099511627776) (hx0 : 0 ≤ x.cost) (hx1 : x.cost ≤ 4294967296) :
    Calls Tryz.prog 23 #[.agg (lsaE x).toArray, vr, vi] w (OffPost w (offR x reach inner) (offOk x reach inner)) := by
  obtain ⟨W0, hW0⟩ : ∃ W0, (w.alloc (.cells (lsaE x).toArray 44)).alloc (.cells (rtE zeroRt).toArray 36) = W0 := ⟨_, rfl⟩
  have b0 : W0.heap[w.heap.size]? = some (.cells (lsaE x).toArray 44 (0, 0)) := by rw [← hW0]; exact (alloc_get _ _ _ (by simp)).trans (alloc_new w _)
  have b1 : W0.heap[w.heap.size + 1]? = some (.cells (rtE zeroRt).toArray 36 (0, 0)) := by rw [← hW0]; exact blk_new2 w _ _
  have BW : Below w.heap.size w W0 := by rw [← hW0]; exact ((Below.refl _ _).alloc (Nat.le_refl _) _).alloc (by simp) _
  have hs0 : W0.heap.size = w.heap.size + 2 := by rw [← hW0]; simp
  have WC := Lib.hid (way_calls x.router vr reach W0 (hr.below BW) hN)
  have FC := Lib.hid (fun (W : World) (hb : Below W0.heap.size W0 W) => forwarded_calls x.fwd ok.f0 ok.f1 vi inner W ((hi.below BW).below hb) hok hI)
  have PC := Lib.hid (fun W => lprefix_calls x ok ht h0 h1 W)
  have HL : Hid ((wayP x.router reach).hops.length * 16 ≤ 140737488355328 ∧ ((lookR x.fwd inner).hops.map (fwdHop x.fwd)).length * 16 ≤ 140737488355328) := Lib.hid ⟨by have := wayP_length x.router reach; omega, by simpa using hI⟩
  clear hr hi hok ok ht h0 h1 hN hI
  unfold offOk offR
  have E : Hid (offWay x reach inner = if (wayP x.router reach).found = true ∧ x.fwd ≠ 0 then ((lookR x.fwd inner).rt.cost, (lookR x.fwd inner).hops.map (fwdHop x.fwd), (lookO x.fwd inner inner.length).isSome)
    else ((wayP x.router reach).cost, (wayP x.router reach).hops, (wayP x.router reach).found)) := Lib.hid rfl
  generalize offWay x reach inner = ow at *
  generalize lsaPfx x = pf at *
  generalize (lookO x.fwd inner inner.length).isSome = ff at *
  generalize (lookR x.fwd inner).rt.cost = fc at *
  generalize (lookR x.fwd inner).hops.map (fwdHop x.fwd) = fh at *
  obtain ⟨pa, pl⟩ := pf
  obtain ⟨typ, id, len, router, seq, age, sum, border, boundary, la, ln, lc, aa, an, ac, cost, second, fwd, tag⟩ := x
  simp only [lsaE, rtE, zeroRt] at *
  generalize wayP router reach = s at *
  obtain ⟨sf, si, sc, sh⟩ := s
  have HBO : Hid (ow.2.1.length * 16 ≤ 140737488355328) := Lib.hid (by
    rw [E.out]
    split
    · exact HL.out.2
    · exact HL.out.1)
  have HW0 := Lib.hid hW0
  have B0 := Lib.hid b0
  have B1 := Lib.hid b1
  have BW0 := Lib.hid BW
  have HS0 := Lib.hid hs0
  clear hW0 b0 b1 BW hs0
  generalize hQ : OffPost w _ _ = Q
  have HQ := Lib.hid hQ
  clear hQ
  go_enter Tryz.func23, Tryz.ntmps23
  go_wp2_with fail
  rw [HW0.out]
  refine WC.out.mono ?_
  rintro e w1 ⟨hv, rfl, HV, BV⟩
  clear WC HW0
  have e13 : w1.cell? ⟨w.heap.size, 13, none⟩ = some (.int .u32 fwd) := blk_cell ((BV.block w.heap.size (by rw [HS0.out]; omega)).trans B0.out) rfl
  obtain ⟨t, ht⟩ : ∃ t, (sf && decide (fwd ≠ 0)) = t := ⟨_, rfl⟩
  have HT := Lib.hid ht
  clear ht
  go_upto_region 2 with fail
  go_cut [28] (fun s28 wx => s28 = .bool t ∧ wx = w1)
  case first =>
    have ht := HT.out
    clear HT
    cases sf with
    | false =>
      obtain rfl : t = false := by simpa using ht.symm
      clear ht
      go_wp2_with fail
      go_meet
      exact ⟨rfl, rfl⟩
    | true =>
      by_cases hf : fwd = 0
      · obtain rfl : t = false := by simpa [hf] using ht.symm
        subst hf
        clear ht
        go_wp2_with fail
        go_meet
        exact ⟨rfl, rfl⟩
      · obtain rfl : t = true := by simpa [hf] using ht.symm
        have n1 : (fwd != 0) = true := by simpa using hf
        have n2 : (fwd == 0) = false := by simpa using hf
        clear ht hf
        go_wp2_with fail
        go_meet
        exact ⟨rfl, rfl⟩
  case rest =>
    obtain ⟨rfl, rfl⟩ := hcut
    have BX := BV
    go_upto_if 28 with fail
    go_cut [8, 9, 10] (fun s8 s9 s10 wx => OffMid W0 ow.1 ow.2.1 ow.2.2 s8 s9 s10 wx)
    case first =>
      have ht := HT.out
      cases t with
      | false =>
        have OM : Hid (OffMid W0 ow.1 ow.2.1 ow.2.2 (.int .i64 sc) hv (.bool sf) wc) := Lib.hid (by
          have e : ow = (sc, sh, sf) := by
            rw [E.out, if_neg]
            intro h
            rw [h.1] at ht
            simp [h.2] at ht
          rw [e]
          exact ⟨rfl, rfl, HV, BV⟩)
        clear E HT ht HV BV BX FC PC
        go_wp2_with fail
        go_meet
        exact OM.out
      | true =>
        have e : ow = (fc, fh, ff) := by
          rw [E.out, if_pos (by simpa using ht)]
        have FW := Lib.hid (FC.out wc BV)
        have OM : Hid (∀ v w', HopsAt w' v fh → Below wc.heap.size wc w' → OffMid W0 ow.1 ow.2.1 ow.2.2 (.int .i64 fc) v (.bool ff) w') := Lib.hid (fun v w' h1 h2 => by
          rw [e]
          exact ⟨rfl, rfl, h1, BV.trans (h2.mono BV.size)⟩)
        clear E HT ht HV BV BX FC PC e
        go_wp2_with fail
        refine FW.out.mono ?_
        rintro e w2 ⟨v, rfl, h1, h2⟩
        have OMM := Lib.hid (OM.out v w2 h1 h2)
        clear OM h1 h2
        go_wp2_with fail
        go_meet
        exact OMM.out
    case rest =>
      clear e13 HV BV BX E HT
      obtain ⟨rfl, rfl, H9, B9⟩ := hcut
      have H9' := H9
      obtain ⟨a9, c9, rfl, -⟩ := H9.get
      have bA := (B9.block w.heap.size (by rw [HS0.out]; omega)).trans B0.out
      have bZ := (B9.block (w.heap.size + 1) (by rw [HS0.out]; omega)).trans B1.out
      have BA := Lib.hid bA
      have BZ := Lib.hid bZ
      have e0 : wc.cell? ⟨w.heap.size, 0, none⟩ = some (.int .i64 typ) := blk_cell bA rfl
      have e1 : wc.cell? ⟨w.heap.size, 1, none⟩ = some (.int .u32 id) := blk_cell bA rfl
      have e2 : wc.cell? ⟨w.heap.size, 2, none⟩ = some (.int .i64 len) := blk_cell bA rfl
      have e3 : wc.cell? ⟨w.heap.size, 3, none⟩ = some (.int .u32 router) := blk_cell bA rfl
      have e4 : wc.cell? ⟨w.heap.size, 4, none⟩ = some (.int .i64 seq) := blk_cell bA rfl
      have e5 : wc.cell? ⟨w.heap.size, 5, none⟩ = some (.int .i64 age) := blk_cell bA rfl
      have e6 : wc.cell? ⟨w.heap.size, 6, none⟩ = some (.int .i64 sum) := blk_cell bA rfl
      have e7 : wc.cell? ⟨w.heap.size, 7, none⟩ = some (.bool border) := blk_cell bA rfl
      have e8 : wc.cell? ⟨w.heap.size, 8, none⟩ = some (.bool boundary) := blk_cell bA rfl
      have e9 : wc.cell? ⟨w.heap.size, 9, none⟩ = some (.slice la ln lc) := blk_cell bA rfl
      have e10 : wc.cell? ⟨w.heap.size, 10, none⟩ = some (.slice aa an ac) := blk_cell bA rfl
      have e11 : wc.cell? ⟨w.heap.size, 11, none⟩ = some (.int .i64 cost) := blk_cell bA rfl
      have e12 : wc.cell? ⟨w.heap.size, 12, none⟩ = some (.bool second) := blk_cell bA rfl
      have e13 : wc.cell? ⟨w.heap.size, 13, none⟩ = some (.int .u32 fwd) := blk_cell bA rfl
      have e14 : wc.cell? ⟨w.heap.size, 14, none⟩ = some (.int .i64 tag) := blk_cell bA rfl
      clear bA bZ
      have H9h := Lib.hid H9
      clear H9 H9' B0 B1
      go_wp2_with fail
      refine (PC.out _).mono ?_
      rintro e w3 ⟨rfl, G3⟩
      clear PC e0 e1 e2 e3 e4 e5 e6 e7 e8 e9 e10 e13
      replace e11 := bcell G3.b e11
      replace e12 := bcell G3.b e12
      replace e14 := bcell G3.b e14
      obtain ⟨W4, hW4⟩ : ∃ W4, w3.alloc (.cells #[.int .u32 pa, .int .i64 pl] 33) = W4 := ⟨_, rfl⟩
      have G4 : Gr wc W4 := by rw [← hW4]; exact G3.alloc _
      replace e11 := bcell ((Below.refl _ _).alloc (Nat.le_refl _) (.cells #[.int .u32 pa, .int .i64 pl] 33)) e11
      replace e12 := bcell ((Below.refl _ _).alloc (Nat.le_refl _) (.cells #[.int .u32 pa, .int .i64 pl] 33)) e12
      replace e14 := bcell ((Below.refl _ _).alloc (Nat.le_refl _) (.cells #[.int .u32 pa, .int .i64 pl] 33)) e14
      have p0 : (w3.alloc (.cells #[.int .u32 pa, .int .i64 pl] 33)).cell? ⟨w3.heap.size, 0, none⟩ = some (.int .u32 pa) := blk_cell (alloc_new _ _) rfl
      have p1 : (w3.alloc (.cells #[.int .u32 pa, .int .i64 pl] 33)).cell? ⟨w3.heap.size, 1, none⟩ = some (.int .i64 pl) := blk_cell (alloc_new _ _) rfl
      rw [hW4] at e11 e12 e14 p0 p1
      have HW4 := Lib.hid hW4
      have HB : Hid ((ow.2.1.length + ([] : List Ls.Hop).length) * 16 ≤ 140737488355328) := Lib.hid (by simpa using HBO.out)
      have HM := Lib.hid (fun (W : World) (hb : Below W4.heap.size W4 W) => merge_calls W _ _ ow.2.1 [] (H9h.out.below (G4.b.trans (hb.mono G4.b.size))) (hopsNil _) HB.out)
      have BZ4 : Hid (W4.heap[w.heap.size + 1]? = some (.cells #[.int .u32 0, .int .i64 0, .int .i64 0, .int .u32 0, .int .i64 0, .bool false, .int .i64 0, .int .i64 0, .slice none 0 0] 36 (0, 0))) := Lib.hid ((G4.b.block (w.heap.size + 1) (blk_lt BZ.out)).trans BZ.out)
      have n1 : ¬ w3.heap.size = W4.heap.size := by rw [← hW4]; simp
      have n2 : ¬ w.heap.size = W4.heap.size := by have h1 := G4.b.size; have h2 := B9.size; rw [HS0.out] at h2; omega
      have m1 : ¬ W4.heap.size = w3.heap.size := fun h => n1 h.symm
      have m2 : ¬ W4.heap.size = w.heap.size := fun h => n2 h.symm
      clear hW4 G3
      go_upto_region 5 with fail
      rw [HW4.out]
      go_cut [13] (fun s13 wx => OffR5 W4 pa pl ow.1 second tag (Ls.merge Ls.hopLt ow.2.1 []) s13 wx)
      case first =>
        go_region_held3 (fun W' => W'.cell? ⟨w3.heap.size, 0, none⟩ = some (.int .u32 pa) ∧ W'.cell? ⟨w3.heap.size, 1, none⟩ = some (.int .i64 pl) ∧ W'.cell? ⟨w.heap.size, 12, none⟩ = some (.bool second) ∧ W'.cell? ⟨w.heap.size, 14, none⟩ = some (.int .i64 tag))
          (first | with_reducible exact ⟨q0, q1, x12, x14⟩ | with_reducible exact ⟨p0, p1, e12, e14⟩ | go_keep)
          (first
          | (go_at_call 24; ((with_reducible refine (HM.out W4.drew (Below.refl _ _).drew).mono ?_)); rintro e w5 ⟨v5, rfl, O5, B5⟩; obtain ⟨va, vn, vc, rfl⟩ := O5.slice; have q0 := bcell B5 p0; have q1 := bcell B5 p1; have x12 := bcell B5 e12; have x14 := bcell B5 e14; have PO := Lib.hid (OffR5.after (c := ow.1) (second := second) (tag := tag) (pa := pa) (pl := pl) (Below.refl _ _).drew O5 B5))
          | (go_at_call 24; ((with_reducible refine (HM.out (W4.alloc (.cells #[.int .u32 0, .int .i64 0, .int .i64 0, .int .u32 0, .int .i64 0, .bool false, .int .i64 0, .int .i64 0, .slice none 0 0] 36)).drew ((Below.refl _ _).alloc (Nat.le_refl _) _).drew).mono ?_)); rintro e w5 ⟨v5, rfl, O5, B5⟩; obtain ⟨va, vn, vc, rfl⟩ := O5.slice;
             have q0 := bcell B5 (bcell ((Below.refl _ _).alloc (Nat.le_refl _) _) p0); have q1 := bcell B5 (bcell ((Below.refl _ _).alloc (Nat.le_refl _) _) p1); have x12 := bcell B5 (bcell ((Below.refl _ _).alloc (Nat.le_refl _) _) e12); have x14 := bcell B5 (bcell ((Below.refl _ _).alloc (Nat.le_refl _) _) e14);
             have bz := (B5.block W4.heap.size (by simp)).trans (alloc_new W4 _); obtain ⟨⟨g0, g1, g2, g3, g4, g5, g6, g7, g8⟩, hf⟩ := blk9 bz;
             have f0 := hf 0; have f1 := hf 1; have f2 := hf 2; have f3 := hf 3; have f4 := hf 4; have f5 := hf 5; have f6 := hf 6; have f7 := hf 7; have f8 := hf 8;
             have PO := Lib.hid (OffR5.before (c := ow.1) (second := second) (tag := tag) (pa := pa) (pl := pl) bz O5 B5); clear bz hf))
        · go_wp2_with fail
          go_meet
          exact PO.out
        · go_wp2_with fail
          go_meet
          exact PO.out
      case rest =>
        obtain ⟨⟨n, va, vn, vc, rfl, hn, bn, H5, hne⟩, B5⟩ := hcut
        have NE := Lib.hid hne
        replace e11 := bcell B5 e11
        replace e12 := bcell B5 e12
        have BN := Lib.hid bn
        have HN5 := Lib.hid H5
        have f4 := blk_free bn 4
        have f6 := blk_free bn 6
        have e4 : wc.cell? ⟨n, 4, none⟩ = some (.int .i64 ow.1) := blk_cell bn rfl
        have e6 : wc.cell? ⟨n, 6, none⟩ = some (.int .i64 0) := blk_cell bn rfl
        clear bn H5 hne e14 p0 p1 HM HB n1 m1 H9h
        go_upto_if 52 with fail
        go_cut [13] (fun s13 wx => OffFin W4 ⟨⟨pa, pl⟩, 5, 0, if second then ow.1 else ow.1 + cost, second, if second then cost else 0, tag, Ls.merge Ls.hopLt ow.2.1 []⟩ s13 wx)
        case first =>
          cases second with
          | true =>
            have NX := Lib.hid (OffFin.set6 (W4 := W4) (k := cost) hn NE.out BN.out HN5.out B5)
            clear BN HN5 hn
            go_wp2_with fail
            go_meet
            exact NX.out
          | false =>
            have NX := Lib.hid (OffFin.set4 (W4 := W4) (k := ow.1 + cost) hn NE.out BN.out HN5.out B5)
            clear BN HN5 hn
            go_wp2_with fail
            go_meet
            exact NX.out
        case rest =>
          clear f4 f6 e4 e6 BN HN5 B5 e11 e12 NE hn n2 m2 HL FC
          obtain ⟨⟨n', va', vn', vc', rfl, hn', bn', H', lo'⟩, B'⟩ := hcut
          generalize (if second = true then ow.1 else ow.1 + cost) = co at *
          generalize (if second = true then cost else 0) = c2 at *
          simp only [rtE, Rp.rt] at bn'
          have bz := (B'.block (w.heap.size + 1) (blk_lt BZ4.out)).trans BZ4.out
          have ne1 : ¬ n' = w.heap.size + 1 := by have := blk_lt BZ4.out; omega
          have ne2 : ¬ w.heap.size + 1 = n' := fun h => ne1 h.symm
          have BW' : Below w.heap.size w wc := BW0.out.trans ((B9.trans ((G4.b.trans (B'.mono G4.b.size)).mono B9.size)).mono BW0.out.size)
          obtain ⟨⟨z0, z1, z2, z3, z4, z5, z6, z7, z8⟩, hfz⟩ := blk9 bz
          obtain ⟨⟨hg0, hg1, hg2, hg3, hg4, hg5, hg6, hg7, hg8⟩, -⟩ := blk9 bn'
          have zf0 := hfz 0
          have zf1 := hfz 1
          have zf2 := hfz 2
          have zf3 := hfz 3
          have zf4 := hfz 4
          have zf5 := hfz 5
          have zf6 := hfz 6
          have zf7 := hfz 7
          have zf8 := hfz 8
          obtain ⟨W', hW'⟩ : ∃ W', (setRt wc (w.heap.size + 1) ((⟨⟨pa, pl⟩, 5, 0, co, second, c2, tag, Ls.merge Ls.hopLt ow.2.1 []⟩ : Rp).rt va' vn' vc')).drew = W' := ⟨_, rfl⟩
          have FIN0 := OffPost.fin (o := ⟨⟨pa, pl⟩, 5, 0, co, second, c2, tag, Ls.merge Ls.hopLt ow.2.1 []⟩) BW' bz H' (fun b o h => by have := lo' b o h; have := blk_lt BZ4.out; omega)
          rw [hW'] at FIN0
          have bk' := FIN0.2
          have FIN := Lib.hid FIN0.1
          have LEN : vn' = (Ls.merge Ls.hopLt ow.2.1 []).length := by obtain ⟨a, c, e, -⟩ := H'.get; cases e; rfl
          rw [← LEN] at HQ
          simp only [rtE, Rp.rt] at bk' FIN
          unfold setRt at hW'
          simp only [Rp.rt] at hW'
          have HW' := Lib.hid hW'
          clear hfz bz bn' BW' BZ4 B' B9 G4 hn' H' lo' BW0 BZ BA HW4 FIN0 hW' LEN
          obtain ⟨⟨g0, g1, g2, g3, g4, g5, g6, g7, g8⟩, -⟩ := blk9 bk'
          clear bk'
          have G := Lib.hid (And.intro g0 (And.intro g1 (And.intro g2 (And.intro g3 (And.intro g4 (And.intro g5 (And.intro g6 (And.intro g7 g8))))))))
          clear g0 g1 g2 g3 g4 g5 g6 g7 g8
          go_upto_region 9 with fail
          generalize ow.2.2 = f at *
          cases f with
          | false =>
            go_big_region
            go_wp2_with fail
            rw [HW'.out]
            obtain ⟨g0, g1, g2, g3, g4, g5, g6, g7, g8⟩ := G.out
            exact bodyPost_ret (v := .tuple #[.agg #[.int .u32 pa, .int .i64 pl, .int .i64 5, .int .u32 0, .int .i64 co, .bool second, .int .i64 c2, .int .i64 tag, .slice va' vn' vc'], .bool false]) (by simp [results, Tryz.results23, go_sem, g0, g1, g2, g3, g4, g5, g6, g7, g8]) rfl (by rw [← HQ.out]; exact FIN.out false)
          | true =>
            by_cases k1 : co ≤ 16777216
            · have d1 : decide (co ≤ 16777216) = true := by simpa using k1
              by_cases k2 : 0 < vn'
              · have d2 : decide (0 < vn') = true := by simpa using k2
                have d3 : decide ((vn' : Int) > 0) = true := by simpa using k2
                rw [d1, d2] at HQ
                go_big_region
                go_wp2_with fail
                rw [HW'.out]
                obtain ⟨g0, g1, g2, g3, g4, g5, g6, g7, g8⟩ := G.out
                exact bodyPost_ret (v := .tuple #[.agg #[.int .u32 pa, .int .i64 pl, .int .i64 5, .int .u32 0, .int .i64 co, .bool second, .int .i64 c2, .int .i64 tag, .slice va' vn' vc'], .bool true]) (by simp [results, Tryz.results23, go_sem, g0, g1, g2, g3, g4, g5, g6, g7, g8]) rfl (by rw [← HQ.out]; exact FIN.out true)
              · have d2 : decide (0 < vn') = false := by simpa using k2
                have d3 : vn' = 0 := by omega
                rw [d1, d2] at HQ
                subst d3
                go_big_region
                go_wp2_with fail
                rw [HW'.out]
                obtain ⟨g0, g1, g2, g3, g4, g5, g6, g7, g8⟩ := G.out
                exact bodyPost_ret (v := .tuple #[.agg #[.int .u32 pa, .int .i64 pl, .int .i64 5, .int .u32 0, .int .i64 co, .bool second, .int .i64 c2, .int .i64 tag, .slice va' 0 vc'], .bool false]) (by simp [results, Tryz.results23, go_sem, g0, g1, g2, g3, g4, g5, g6, g7, g8]) rfl (by rw [← HQ.out]; exact FIN.out false)
            · have d1 : decide (co ≤ 16777216) = false := by simpa using k1
              rw [d1] at HQ
              go_big_region
              go_wp2_with fail
              rw [HW'.out]
              obtain ⟨g0, g1, g2, g3, g4, g5, g6, g7, g8⟩ := G.out
              exact bodyPost_ret (v := .tuple #[.agg #[.int .u32 pa, .int .i64 pl, .int .i64 5, .int .u32 0, .int .i64 co, .bool second, .int .i64 c2, .int .i64 tag, .slice va' vn' vc'], .bool false]) (by simp [results, Tryz.results23, go_sem, g0, g1, g2, g3, g4, g5, g6, g7, g8]) rfl (by rw [← HQ.out]; exact FIN.out false)
end Go.Proofs.YtiemmejpaahbpaaGreat
