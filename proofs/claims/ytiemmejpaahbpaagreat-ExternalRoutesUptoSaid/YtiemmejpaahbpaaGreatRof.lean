/-
  routingref34.Offer: what an advertisement offers.
-/
import Derived.Test.YtiemmejpaahbpaaGreatTow
import Derived.Test.YtiemmejpaahbpaaGreatOff
import Derived.BigRegion
import Derived.Deep.DeepCutAuto
namespace Go.Proofs.YtiemmejpaahbpaaGreat
open Go.RowKit

theorem hops_ne_rt {W : World} {bb : Nat} {t : TypeId} (bz : W.heap[bb]? = some (.cells #[.int .u32 0, .int .i64 0, .int .i64 0, .int .u32 0, .int .i64 0, .bool false, .int .i64 0, .int .i64 0, .slice none 0 0] t (0, 0))) {va : Option Addr} {vn vc : Nat} {hs : List Ls.Hop} (H : HopsAt W (.slice va vn vc) hs) (hne : hs ≠ []) : ∀ b off, va = some ⟨b, off, none⟩ → b ≠ bb := by
  rintro b off rfl rfl
  obtain ⟨a, cap, e, -, -, -, hc⟩ := H.get
  have h0 : 0 < hs.length := List.length_pos_iff.2 hne
  obtain ⟨b', off', ea, _, hcc⟩ := hc h0
  have e1 := (Value.slice.inj e).1
  rw [ea] at e1
  cases e1
  obtain ⟨c0, c1, c2⟩ := hcc 0 h0
  simp only [World.cell?, bz, Option.isSome_none, Bool.false_eq_true, if_false, Nat.zero_mul, Nat.add_zero] at c0 c1 c2
  match off, c0, c1, c2 with
  | 0, c0, _, _ => simp at c0
  | 1, _, c1, _ => simp at c1
  | 2, _, _, c2 => simp at c2
  | 3, c0, _, _ => simp at c0
  | 4, _, c1, _ => simp at c1
  | 5, c0, _, _ => simp at c0
  | 6, _, c1, _ => simp at c1
  | 7, _, c1, _ => simp at c1
  | 8, c0, _, _ => simp at c0
  | n + 9, c0, _, _ => simp at c0

def rfAll (router : Int) (x : Lsa) (reach : List Rch) (inner : List RtH) : Bool := offK router x && rfOk x reach inner
/-- the offer's hops lie in a new block -/
def OffNew (w : World) (o : Rp) (e : Ending) : Prop := ∃ a n c, e = .returned (.tuple #[.agg (rtE (o.rt a n c)).toArray, .bool true]) ∧ New w.heap.size (.slice a n c)
theorem OffPost.new {w w' : World} {o : Rp} {e : Ending} (h : OffPost w o true e w') (n : OffNew w o e) : ∃ a n c, e = .returned (.tuple #[.agg (rtE (o.rt a n c)).toArray, .bool true]) ∧ HopsAt w' (.slice a n c) o.hops ∧ Below w.heap.size w w' ∧ New w.heap.size (.slice a n c) := by
  obtain ⟨a, m, c, rfl, h1, h2⟩ := h
  obtain ⟨a', m', c', h3, h4⟩ := n
  simp only [rtE, Rp.rt, Ending.returned.injEq, Value.tuple.injEq, List.cons.injEq, Value.agg.injEq, Value.slice.injEq, Array.mk.injEq, and_true, true_and] at h3
  obtain ⟨rfl, rfl, rfl⟩ := h3
  exact ⟨_, _, _, rfl, h1, h2, h4⟩
def RofPost (w : World) (router : Int) (x : Lsa) (reach : List Rch) (inner : List RtH) (e : Ending) (w' : World) : Prop :=
  (rfAll router x reach inner = true ∧ OffPost w (rfR x reach inner) true e w' ∧ OffNew w (rfR x reach inner) e) ∨ (rfAll router x reach inner = false ∧ ∃ r : Rt, e = .returned (.tuple #[.agg (rtE r).toArray, .bool false]) ∧ Below w.heap.size w w')

set_option maxHeartbeats 16000000 in
set_option maxRecDepth 100000 in
theorem roffer_calls (x : Lsa) (ok : OkL x) (rtr : Int) (vr : Value) (reach : List Rch) (vi : Value) (inner : List RtH) (w : World) (hr : ReachAt w vr reach) (hN : (hopSum reach + 2) * 16 ≤ 140737488355328)
    (hi : RoutesAt w vi inner) (hok : ∀ y ∈ inner, validP y.rt.pfx = true) (hI : ∀ y ∈ inner, (y.hops.length + 2) * 16 ≤ 140737488355328)
    (hc : x.typ = 5 → 0 ≤ (rfWay x reach inner).1 ∧ (rfWay x reach inner).1 ≤ 1099511627776 ∧ 0 ≤ x.cost ∧ x.cost ≤ 4294967296) :
    Calls Tryz.prog 11 #[.agg (lsaE x).toArray, .int .u32 rtr, vr, vi] w (RofPost w rtr x reach inner) := by
  obtain ⟨W0, hW0⟩ : ∃ W0, (w.alloc (.cells (lsaE x).toArray 44)).alloc (.cells #[.int .u32 0, .int .i64 0, .int .i64 0, .int .u32 0, .int .i64 0, .bool false, .int .i64 0, .int .i64 0, .slice none 0 0] 36) = W0 := ⟨_, rfl⟩
  have b0 : W0.heap[w.heap.size]? = some (.cells (lsaE x).toArray 44 (0, 0)) := by rw [← hW0]; exact (alloc_get _ _ _ (by simp)).trans (alloc_new w _)
  have b1 : W0.heap[w.heap.size + 1]? = some (.cells #[.int .u32 0, .int .i64 0, .int .i64 0, .int .u32 0, .int .i64 0, .bool false, .int .i64 0, .int .i64 0, .slice none 0 0] 36 (0, 0)) := by rw [← hW0]; exact blk_new2 w _ _
  have BW : Below w.heap.size w W0 := by rw [← hW0]; exact ((Below.refl _ _).alloc (Nat.le_refl _) _).alloc (by simp) _
  have WC := Lib.hid (rway_calls W0 vr reach x.router (hr.below BW) hN)
  have TC := Lib.hid (fun (W : World) (hb : Below W0.heap.size W0 W) => toward_calls W vi inner x.fwd ok.f0 ok.f1 ((hi.below BW).below hb) hok hI)
  have EW : Hid (rfWay x reach inner = if (rwAll x.router reach).ok = true ∧ x.fwd ≠ 0 then
    (match towO x.fwd inner inner.length with
     | none => (0, [], false)
     | some j => ((rthAt inner j).rt.cost, Ls.adds Ls.hopLt [] ((rthAt inner j).hops.map (fwdHop x.fwd)), true))
    else ((rwAll x.router reach).cost, (rwAll x.router reach).hops, (rwAll x.router reach).ok)) := Lib.hid rfl
  have OKE : Hid (rfAll rtr x reach inner = ((decide (x.typ = 5) && decide (x.age < 3600) && !decide (x.router = rtr)) && (((rfWay x reach inner).2.2 && decide ((rfWay x reach inner).2.1 ≠ [])) && decide ((if x.second then (rfWay x reach inner).1 else (rfWay x reach inner).1 + x.cost) ≤ 16777216)))) := Lib.hid rfl
  have NO : Hid (rfAll rtr x reach inner = false → ∀ W, Below w.heap.size w W → RofPost w rtr x reach inner (.returned (.tuple #[.agg #[.int .u32 0, .int .i64 0, .int .i64 0, .int .u32 0, .int .i64 0, .bool false, .int .i64 0, .int .i64 0, .slice none 0 0], .bool false])) W) := Lib.hid (fun h W B => .inr ⟨h, zeroRt, rfl, B⟩)
  have NOR : Hid (rfAll rtr x reach inner = false → ∀ (r : Rt) W, Below w.heap.size w W → RofPost w rtr x reach inner (.returned (.tuple #[.agg (rtE r).toArray, .bool false])) W) := Lib.hid (fun h r W B => .inr ⟨h, r, rfl, B⟩)
  have YE0 : Hid (rfAll rtr x reach inner = true → ∀ e W, OffPost w ⟨⟨x.id, x.len⟩, 5, 0, if x.second then (rfWay x reach inner).1 else (rfWay x reach inner).1 + x.cost, x.second, if x.second then x.cost else 0, x.tag, (rfWay x reach inner).2.1⟩ true e W → OffNew w ⟨⟨x.id, x.len⟩, 5, 0, if x.second then (rfWay x reach inner).1 else (rfWay x reach inner).1 + x.cost, x.second, if x.second then x.cost else 0, x.tag, (rfWay x reach inner).2.1⟩ e → RofPost w rtr x reach inner e W) := Lib.hid (fun h e W O N => .inl ⟨h, O, N⟩)
  obtain ⟨a1, c1, e1, hl1, -⟩ := hr.get
  obtain ⟨a2, c2, e2, hl2, -⟩ := hi.get
  subst e1 e2
  have HCB0 := Lib.hid hc
  clear hr hi hok ok hN hI hc
  generalize rfWay x reach inner = rw at *
  generalize rfAll rtr x reach inner = RA at *
  obtain ⟨typ, id, len, router, seq, age, sum, border, boundary, la, ln, lc, aa, an, ac, cost, second, fwd, tag⟩ := x
  simp only [lsaE] at *
  have B0 := Lib.hid b0
  have B1 := Lib.hid b1
  have BWX := Lib.hid BW
  have HW0 := Lib.hid hW0
  clear b0 b1 BW hW0
  go_enter Tryz.func11, Tryz.ntmps11
  go_upto_region 1 with fail
  rw [HW0.out]
  obtain ⟨⟨⟨e0, e1, e2, e3, e4⟩, ⟨e5, e6, e7, e8, e9⟩, ⟨e10, e11, e12, e13, e14⟩⟩, -⟩ := blk15 (B0.out)
  obtain ⟨⟨z0, z1, z2, z3, z4, z5, z6, z7, z8⟩, hfz⟩ := blk9 (B1.out)
  have fz0 := hfz 0
  have fz1 := hfz 1
  have fz2 := hfz 2
  have fz3 := hfz 3
  have fz4 := hfz 4
  have fz5 := hfz 5
  have fz6 := hfz 6
  have fz7 := hfz 7
  have fz8 := hfz 8
  clear hfz
  have BZX := B1
  by_cases t5 : typ = 5
  · have z5 : (typ != 5) = false := by simpa using t5
    by_cases ag : age < 3600
    · have za : decide (3600 ≤ age) = false := by simpa using ag
      by_cases ro : router = rtr
      · have zr : (router == rtr) = true := by simpa using ro
        have NOP := Lib.hid (NO.out (by rw [OKE.out]; simp [ro]))
        clear t5 ag ro
        obtain ⟨WF, hWF⟩ : ∃ WF, setRt W0 (w.heap.size + 1) zeroRt = WF := ⟨_, rfl⟩
        have FB : Hid (Below w.heap.size w WF) := Lib.hid (by rw [← hWF]; exact setRt_below BWX.out (Nat.le_succ _) _)
        have bk := setRt_blk BZX.out zeroRt
        rw [hWF] at bk
        have BK := Lib.hid bk
        unfold setRt at hWF
        simp only [zeroRt] at hWF
        have HWF := Lib.hid hWF
        clear hWF bk
        go_wp2_with fail
        rw [HWF.out]
        obtain ⟨⟨g0, g1, g2, g3, g4, g5, g6, g7, g8⟩, -⟩ := blk9 BK.out
        exact bodyPost_ret (v := .tuple #[.agg #[.int .u32 0, .int .i64 0, .int .i64 0, .int .u32 0, .int .i64 0, .bool false, .int .i64 0, .int .i64 0, .slice none 0 0], .bool false]) (by simp [results, Tryz.results11, go_sem, zeroRt, g0, g1, g2, g3, g4, g5, g6, g7, g8]) rfl (NOP.out _ FB.out)
      · have zr : (router == rtr) = false := by simpa using ro
        have OK2 : Hid (RA = ((rw.2.2 && decide (rw.2.1 ≠ [])) && decide ((if second = true then rw.1 else rw.1 + cost) ≤ 16777216))) := Lib.hid (by rw [OKE.out]; simp [t5, ag, ro])
        have HCB1 := Lib.hid (HCB0.out t5)
        clear t5 ag ro OKE HCB0
        go_wp2_with fail
        refine WC.out.mono ?_
        rintro e w1 ⟨v1, s, rfl, ⟨rfl, HV1⟩, B1', N1⟩
        have HVW := Lib.hid HV1
        have NVH1 : Hid (New w.heap.size v1) := Lib.hid (fun b off n c e => Nat.le_trans BWX.out.size (N1 b off n c e))
        clear N1
        have BB := Lib.hid B1'
        clear HV1 B1' WC e0 e1 e2 e3 e4 e5 e6 e7 e8 e9 e10 e11 e12 e13 e14 z0 z1 z2 z3 z4 z5 z6 z7 z8 fz0 fz1 fz2 fz3 fz4 fz5 fz6 fz7 fz8
        generalize rwAll router reach = s at *
        obtain ⟨sc, sok, sh⟩ := s
        simp only at HVW EW
        have BX1 : Hid (Below w.heap.size w w1) := Lib.hid (BWX.out.trans (BB.out.mono BWX.out.size))
        have bb1 := (BB.out.block w.heap.size (blk_lt B0.out)).trans B0.out
        have bz1 := (BB.out.block (w.heap.size + 1) (blk_lt B1.out)).trans B1.out
        have HBB1 := Lib.hid bb1
        have HBZ1 := Lib.hid bz1
        clear bb1 bz1
        obtain ⟨⟨⟨e0, e1, e2, e3, e4⟩, ⟨e5, e6, e7, e8, e9⟩, ⟨e10, e11, e12, e13, e14⟩⟩, -⟩ := blk15 (HBB1.out)
        obtain ⟨⟨z0, z1, z2, z3, z4, z5, z6, z7, z8⟩, hfz⟩ := blk9 (HBZ1.out)
        have fz0 := hfz 0
        have fz1 := hfz 1
        have fz2 := hfz 2
        have fz3 := hfz 3
        have fz4 := hfz 4
        have fz5 := hfz 5
        have fz6 := hfz 6
        have fz7 := hfz 7
        have fz8 := hfz 8
        clear hfz
        cases sok with
        | false =>
          have ER : rw = (sc, sh, false) := by rw [EW.out]; simp
          have NOP := Lib.hid (NO.out (by rw [OK2.out, ER]; simp))
          have BZX := HBZ1
          have BWX := BX1
          clear ER EW
          obtain ⟨WF, hWF⟩ : ∃ WF, setRt w1 (w.heap.size + 1) zeroRt = WF := ⟨_, rfl⟩
          have FB : Hid (Below w.heap.size w WF) := Lib.hid (by rw [← hWF]; exact setRt_below BWX.out (Nat.le_succ _) _)
          have bk := setRt_blk BZX.out zeroRt
          rw [hWF] at bk
          have BK := Lib.hid bk
          unfold setRt at hWF
          simp only [zeroRt] at hWF
          have HWF := Lib.hid hWF
          clear hWF bk
          go_wp2_with fail
          rw [HWF.out]
          obtain ⟨⟨g0, g1, g2, g3, g4, g5, g6, g7, g8⟩, -⟩ := blk9 BK.out
          exact bodyPost_ret (v := .tuple #[.agg #[.int .u32 0, .int .i64 0, .int .i64 0, .int .u32 0, .int .i64 0, .bool false, .int .i64 0, .int .i64 0, .slice none 0 0], .bool false]) (by simp [results, Tryz.results11, go_sem, zeroRt, g0, g1, g2, g3, g4, g5, g6, g7, g8]) rfl (NOP.out _ FB.out)
        | true =>
          by_cases f0 : fwd = 0
          · have zf : (fwd != 0) = false := by simpa using f0
            have ER : rw = (sc, sh, true) := by rw [EW.out]; simp [f0]
            subst ER
            have NOE : Hid (sh = [] → ∀ W, Below w.heap.size w W → RofPost w rtr _ reach inner (.returned (.tuple #[.agg #[.int .u32 0, .int .i64 0, .int .i64 0, .int .u32 0, .int .i64 0, .bool false, .int .i64 0, .int .i64 0, .slice none 0 0], .bool false])) W) := Lib.hid (fun h => NO.out (by rw [OK2.out]; simp [h]))
            have YE : Hid (sh ≠ [] → decide ((if second = true then sc else sc + cost) ≤ 16777216) = true → ∀ e W, _ → _ → RofPost w rtr _ reach inner e W) := Lib.hid (fun h1 h2 => YE0.out (by rw [OK2.out]; simp only [Bool.true_and, Bool.and_eq_true, decide_eq_true_eq] at h2 ⊢; exact ⟨h1, h2⟩))
            have NE2 : Hid (sh ≠ [] → decide ((if second = true then sc else sc + cost) ≤ 16777216) = false → _) := Lib.hid (fun h1 h2 => NOR.out (by rw [OK2.out]; simp only [h2, Bool.and_false]))
            obtain ⟨cb0, cb1, cb2, cb3⟩ := HCB1.out
            have HV := HVW
            have NVH := NVH1
            have BX := BX1
            have bz := HBZ1.out
            clear f0 EW OK2 HCB1
            simp only at cb0 cb1 YE NE2 YE0
            obtain ⟨va, vc, ev, -, -, -, -⟩ := HV.out.get
            subst ev
            by_cases hne0 : sh = []
            · have e0 : (sh).length = 0 := by rw [hne0]; rfl
              rw [e0] at *
              have NOP := Lib.hid (NOE.out hne0)
              have BZX := Lib.hid bz
              have BWX := BX
              clear hne0 e0 HV
              obtain ⟨WF, hWF⟩ : ∃ WF, setRt w1 (w.heap.size + 1) zeroRt = WF := ⟨_, rfl⟩
              have FB : Hid (Below w.heap.size w WF) := Lib.hid (by rw [← hWF]; exact setRt_below BWX.out (Nat.le_succ _) _)
              have bk := setRt_blk BZX.out zeroRt
              rw [hWF] at bk
              have BK := Lib.hid bk
              unfold setRt at hWF
              simp only [zeroRt] at hWF
              have HWF := Lib.hid hWF
              clear hWF bk
              go_wp2_with fail
              rw [HWF.out]
              obtain ⟨⟨g0, g1, g2, g3, g4, g5, g6, g7, g8⟩, -⟩ := blk9 BK.out
              exact bodyPost_ret (v := .tuple #[.agg #[.int .u32 0, .int .i64 0, .int .i64 0, .int .u32 0, .int .i64 0, .bool false, .int .i64 0, .int .i64 0, .slice none 0 0], .bool false]) (by simp [results, Tryz.results11, go_sem, zeroRt, g0, g1, g2, g3, g4, g5, g6, g7, g8]) rfl (NOP.out _ FB.out)
            · have HNE := Lib.hid hne0
              have hn0 : ¬ (sh).length = 0 := fun h => hne0 (List.length_eq_zero_iff.1 h)
              have HX := HV
              have YES := Lib.hid (YE.out hne0)
              have NO2 := Lib.hid (NE2.out hne0)
              have BZX := Lib.hid bz
              have BWX := BX
              generalize hvn : (sh).length = vn at *
              have n1 : (vn == 0) = false := by simpa using hn0
              have n2 : ((vn : Int) == 0) = false := by simpa using hn0
              clear hne0 hn0 hvn bz
              cases second with
              | true =>
                go_upto_region 9 with fail
                generalize hW3 : w1.alloc _ = W3x
                have GX3 : Below w1.heap.size w1 W3x := by rw [← hW3]; exact (Below.refl _ _).alloc (Nat.le_refl _) _
                have bn3 : W3x.heap[w1.heap.size]? = some (.cells #[.int .u32 id, .int .i64 len, .int .i64 5, .int .u32 0, .int .i64 sc, .bool false, .int .i64 0, .int .i64 tag, .slice va vn vc] 36 (0, 0)) := by rw [← hW3]; exact alloc_new _ _
                have be3 := (GX3.block w.heap.size (blk_lt HBB1.out)).trans HBB1.out
                clear hW3 e0 e1 e2 e3 e4 e5 e6 e7 e8 e9 e10 e11 e12 e13 e14 z0 z1 z2 z3 z4 z5 z6 z7 z8 fz0 fz1 fz2 fz3 fz4 fz5 fz6 fz7 fz8
                obtain ⟨⟨⟨e0, e1, e2, e3, e4⟩, ⟨e5, e6, e7, e8, e9⟩, ⟨e10, e11, e12, e13, e14⟩⟩, -⟩ := blk15 be3
                obtain ⟨⟨n0, n1', n2', n3, n4, n5, n6, n7, n8⟩, hfn⟩ := blk9 bn3
                have fn4 := hfn 4
                have fn5 := hfn 5
                have fn6 := hfn 6
                clear hfn
                have ne3 : ¬ w1.heap.size = w.heap.size := by have := blk_lt HBB1.out; omega
                have ne4 : ¬ w.heap.size = w1.heap.size := fun h => ne3 h.symm
                have GX3h := Lib.hid GX3
                have bn3h := Lib.hid bn3
                clear GX3 bn3 be3
                go_upto_region 13 with fail
                generalize hW4 : World.setCell (World.setCell W3x _ _) _ _ = W4
                have GX4 : Below w1.heap.size w1 W4 := by have GX3 := GX3h.out; rw [← hW4]; exact ((GX3.setCell (Nat.le_refl _) _).setCell (Nat.le_refl _) _)
                have bn : W4.heap[w1.heap.size]? = some (.cells #[.int .u32 id, .int .i64 len, .int .i64 5, .int .u32 0, .int .i64 sc, .bool true, .int .i64 cost, .int .i64 tag, .slice va vn vc] 36 (0, 0)) := by
                  have bn3 := bn3h.out
                  rw [← hW4]
                  have h1 := blk_set (blk_set bn3 5 (.bool true)) 6 (.int .i64 cost)
                  simp only [List.setIfInBounds_toArray, List.set_cons_zero, List.set_cons_succ] at h1
                  exact h1
                clear ne3 ne4 fn4 fn5 fn6 n0 n1' n2' n3 n4 n5 n6 n7 n8 e0 e1 e2 e3 e4 e5 e6 e7 e8 e9 e10 e11 e12 e13 e14
                have bz := (GX4.block (w.heap.size + 1) (blk_lt BZX.out)).trans BZX.out
                have H4 := HX.out.below GX4
                have BW4 := BWX.out.trans (GX4.mono BWX.out.size)
                have hne := hops_ne_rt bz H4 HNE.out
                have ne1 : ¬ w1.heap.size = w.heap.size + 1 := by have := blk_lt BZX.out; omega
                have ne2 : ¬ w.heap.size + 1 = w1.heap.size := fun h => ne1 h.symm
                clear hW4
                obtain ⟨⟨z0, z1, z2, z3, z4, z5, z6, z7, z8⟩, hfz⟩ := blk9 bz
                obtain ⟨⟨hg0, hg1, hg2, hg3, hg4, hg5, hg6, hg7, hg8⟩, -⟩ := blk9 bn
                have zf0 := hfz 0
                have zf1 := hfz 1
                have zf2 := hfz 2
                have zf3 := hfz 3
                have zf4 := hfz 4
                have zf5 := hfz 5
                have zf6 := hfz 6
                have zf7 := hfz 7
                have zf8 := hfz 8
                obtain ⟨W', hW'⟩ : ∃ W', (setRt W4 (w.heap.size + 1) ((⟨⟨id, len⟩, 5, 0, sc, true, cost, tag, sh⟩ : Rp).rt va vn vc)).drew = W' := ⟨_, rfl⟩
                have FIN0 := OffPost.fin (o := ⟨⟨id, len⟩, 5, 0, sc, true, cost, tag, sh⟩) BW4 bz H4 hne
                rw [hW'] at FIN0
                have bk' := FIN0.2
                have FIN := Lib.hid FIN0.1
                simp only [rtE, Rp.rt] at bk' FIN
                unfold setRt at hW'
                simp only [Rp.rt] at hW'
                have HW' := Lib.hid hW'
                clear hfz bz bn BW4 H4 hne FIN0 hW' GX4
                obtain ⟨⟨g0, g1, g2, g3, g4, g5, g6, g7, g8⟩, -⟩ := blk9 bk'
                clear bk'
                have G := Lib.hid (And.intro g0 (And.intro g1 (And.intro g2 (And.intro g3 (And.intro g4 (And.intro g5 (And.intro g6 (And.intro g7 g8))))))))
                clear g0 g1 g2 g3 g4 g5 g6 g7 g8
                by_cases k1 : sc ≤ 16777216
                · have d1 : decide (sc ≤ 16777216) = true := by simpa using k1
                  have QQ := Lib.hid (YES.out (by first | simpa using k1 | simp only [d1]) _ _ (FIN.out true) ⟨va, vn, vc, rfl, NVH.out⟩)
                  go_big_region
                  go_wp2_with fail
                  rw [HW'.out]
                  obtain ⟨g0, g1, g2, g3, g4, g5, g6, g7, g8⟩ := G.out
                  exact bodyPost_ret (v := .tuple #[.agg #[.int .u32 id, .int .i64 len, .int .i64 5, .int .u32 0, .int .i64 sc, .bool true, .int .i64 cost, .int .i64 tag, .slice va vn vc], .bool true]) (by simp [results, Tryz.results11, go_sem, g0, g1, g2, g3, g4, g5, g6, g7, g8]) rfl QQ.out
                · have d1 : decide (sc ≤ 16777216) = false := by simpa using k1
                  have QQ := Lib.hid (NO2.out (by first | simpa using k1 | simp only [d1]) ((⟨⟨id, len⟩, 5, 0, sc, true, cost, tag, sh⟩ : Rp).rt va vn vc) _ (by obtain ⟨_, _, _, _, _, h⟩ := FIN.out false; exact h))
                  simp only [rtE, Rp.rt] at QQ
                  go_big_region
                  go_wp2_with fail
                  rw [HW'.out]
                  obtain ⟨g0, g1, g2, g3, g4, g5, g6, g7, g8⟩ := G.out
                  exact bodyPost_ret (v := .tuple #[.agg #[.int .u32 id, .int .i64 len, .int .i64 5, .int .u32 0, .int .i64 sc, .bool true, .int .i64 cost, .int .i64 tag, .slice va vn vc], .bool false]) (by simp [results, Tryz.results11, go_sem, g0, g1, g2, g3, g4, g5, g6, g7, g8]) rfl QQ.out
              | false =>
                go_upto_region 9 with fail
                generalize hW3 : w1.alloc _ = W3x
                have GX3 : Below w1.heap.size w1 W3x := by rw [← hW3]; exact (Below.refl _ _).alloc (Nat.le_refl _) _
                have bn3 : W3x.heap[w1.heap.size]? = some (.cells #[.int .u32 id, .int .i64 len, .int .i64 5, .int .u32 0, .int .i64 sc, .bool false, .int .i64 0, .int .i64 tag, .slice va vn vc] 36 (0, 0)) := by rw [← hW3]; exact alloc_new _ _
                have be3 := (GX3.block w.heap.size (blk_lt HBB1.out)).trans HBB1.out
                clear hW3 e0 e1 e2 e3 e4 e5 e6 e7 e8 e9 e10 e11 e12 e13 e14 z0 z1 z2 z3 z4 z5 z6 z7 z8 fz0 fz1 fz2 fz3 fz4 fz5 fz6 fz7 fz8
                obtain ⟨⟨⟨e0, e1, e2, e3, e4⟩, ⟨e5, e6, e7, e8, e9⟩, ⟨e10, e11, e12, e13, e14⟩⟩, -⟩ := blk15 be3
                obtain ⟨⟨n0, n1', n2', n3, n4, n5, n6, n7, n8⟩, hfn⟩ := blk9 bn3
                have fn4 := hfn 4
                have fn5 := hfn 5
                have fn6 := hfn 6
                clear hfn
                have ne3 : ¬ w1.heap.size = w.heap.size := by have := blk_lt HBB1.out; omega
                have ne4 : ¬ w.heap.size = w1.heap.size := fun h => ne3 h.symm
                have GX3h := Lib.hid GX3
                have bn3h := Lib.hid bn3
                clear GX3 bn3 be3
                go_upto_region 13 with fail
                generalize hW4 : World.setCell W3x _ _ = W4
                have GX4 : Below w1.heap.size w1 W4 := by have GX3 := GX3h.out; rw [← hW4]; exact (GX3.setCell (Nat.le_refl _) _)
                have bn : W4.heap[w1.heap.size]? = some (.cells #[.int .u32 id, .int .i64 len, .int .i64 5, .int .u32 0, .int .i64 (sc + cost), .bool false, .int .i64 0, .int .i64 tag, .slice va vn vc] 36 (0, 0)) := by
                  have bn3 := bn3h.out
                  rw [← hW4]
                  have h1 := blk_set bn3 4 (.int .i64 (sc + cost))
                  simp only [List.setIfInBounds_toArray, List.set_cons_zero, List.set_cons_succ] at h1
                  exact h1
                clear ne3 ne4 fn4 fn5 fn6 n0 n1' n2' n3 n4 n5 n6 n7 n8 e0 e1 e2 e3 e4 e5 e6 e7 e8 e9 e10 e11 e12 e13 e14
                have bz := (GX4.block (w.heap.size + 1) (blk_lt BZX.out)).trans BZX.out
                have H4 := HX.out.below GX4
                have BW4 := BWX.out.trans (GX4.mono BWX.out.size)
                have hne := hops_ne_rt bz H4 HNE.out
                have ne1 : ¬ w1.heap.size = w.heap.size + 1 := by have := blk_lt BZX.out; omega
                have ne2 : ¬ w.heap.size + 1 = w1.heap.size := fun h => ne1 h.symm
                clear hW4
                obtain ⟨⟨z0, z1, z2, z3, z4, z5, z6, z7, z8⟩, hfz⟩ := blk9 bz
                obtain ⟨⟨hg0, hg1, hg2, hg3, hg4, hg5, hg6, hg7, hg8⟩, -⟩ := blk9 bn
                have zf0 := hfz 0
                have zf1 := hfz 1
                have zf2 := hfz 2
                have zf3 := hfz 3
                have zf4 := hfz 4
                have zf5 := hfz 5
                have zf6 := hfz 6
                have zf7 := hfz 7
                have zf8 := hfz 8
                obtain ⟨W', hW'⟩ : ∃ W', (setRt W4 (w.heap.size + 1) ((⟨⟨id, len⟩, 5, 0, sc + cost, false, 0, tag, sh⟩ : Rp).rt va vn vc)).drew = W' := ⟨_, rfl⟩
                have FIN0 := OffPost.fin (o := ⟨⟨id, len⟩, 5, 0, sc + cost, false, 0, tag, sh⟩) BW4 bz H4 hne
                rw [hW'] at FIN0
                have bk' := FIN0.2
                have FIN := Lib.hid FIN0.1
                simp only [rtE, Rp.rt] at bk' FIN
                unfold setRt at hW'
                simp only [Rp.rt] at hW'
                have HW' := Lib.hid hW'
                clear hfz bz bn BW4 H4 hne FIN0 hW' GX4
                obtain ⟨⟨g0, g1, g2, g3, g4, g5, g6, g7, g8⟩, -⟩ := blk9 bk'
                clear bk'
                have G := Lib.hid (And.intro g0 (And.intro g1 (And.intro g2 (And.intro g3 (And.intro g4 (And.intro g5 (And.intro g6 (And.intro g7 g8))))))))
                clear g0 g1 g2 g3 g4 g5 g6 g7 g8
                by_cases k1 : (sc + cost) ≤ 16777216
                · have d1 : decide ((sc + cost) ≤ 16777216) = true := by simpa using k1
                  have QQ := Lib.hid (YES.out (by first | simpa using k1 | simp only [d1]) _ _ (FIN.out true) ⟨va, vn, vc, rfl, NVH.out⟩)
                  go_big_region
                  go_wp2_with fail
                  rw [HW'.out]
                  obtain ⟨g0, g1, g2, g3, g4, g5, g6, g7, g8⟩ := G.out
                  exact bodyPost_ret (v := .tuple #[.agg #[.int .u32 id, .int .i64 len, .int .i64 5, .int .u32 0, .int .i64 (sc + cost), .bool false, .int .i64 0, .int .i64 tag, .slice va vn vc], .bool true]) (by simp [results, Tryz.results11, go_sem, g0, g1, g2, g3, g4, g5, g6, g7, g8]) rfl QQ.out
                · have d1 : decide ((sc + cost) ≤ 16777216) = false := by simpa using k1
                  have QQ := Lib.hid (NO2.out (by first | simpa using k1 | simp only [d1]) ((⟨⟨id, len⟩, 5, 0, sc + cost, false, 0, tag, sh⟩ : Rp).rt va vn vc) _ (by obtain ⟨_, _, _, _, _, h⟩ := FIN.out false; exact h))
                  simp only [rtE, Rp.rt] at QQ
                  go_big_region
                  go_wp2_with fail
                  rw [HW'.out]
                  obtain ⟨g0, g1, g2, g3, g4, g5, g6, g7, g8⟩ := G.out
                  exact bodyPost_ret (v := .tuple #[.agg #[.int .u32 id, .int .i64 len, .int .i64 5, .int .u32 0, .int .i64 (sc + cost), .bool false, .int .i64 0, .int .i64 tag, .slice va vn vc], .bool false]) (by simp [results, Tryz.results11, go_sem, g0, g1, g2, g3, g4, g5, g6, g7, g8]) rfl QQ.out
          · have zf : (fwd != 0) = true := by simpa using f0
            have TC1 := Lib.hid (TC.out w1 BB.out)
            have EW2 : Hid (rw = (match towO fwd inner inner.length with | none => (0, [], false) | some j => ((rthAt inner j).rt.cost, Ls.adds Ls.hopLt [] ((rthAt inner j).hops.map (fwdHop fwd)), true))) := Lib.hid (by rw [EW.out, if_pos ⟨rfl, f0⟩])
            clear EW f0
            go_wp2_with fail
            refine TC1.out.mono ?_
            rintro e w2 ⟨B2', CASE⟩
            have BX2 : Hid (Below w.heap.size w w2) := Lib.hid (BX1.out.trans (B2'.mono BX1.out.size))
            have bb2 := (B2'.block w.heap.size (blk_lt HBB1.out)).trans HBB1.out
            have bz2 := (B2'.block (w.heap.size + 1) (blk_lt HBZ1.out)).trans HBZ1.out
            have HBB2 := Lib.hid bb2
            have HBZ2 := Lib.hid bz2
            clear bb2 bz2 B2' TC1 TC e0 e1 e2 e3 e4 e5 e6 e7 e8 e9 e10 e11 e12 e13 e14 z0 z1 z2 z3 z4 z5 z6 z7 z8 fz0 fz1 fz2 fz3 fz4 fz5 fz6 fz7 fz8
            rcases CASE with ⟨ho, rfl⟩ | ⟨j, v2, ho, rfl, HV2, N2⟩
            · rw [ho] at EW2
              have ER : rw = (0, [], false) := EW2.out
              have NOP := Lib.hid (NO.out (by rw [OK2.out, ER]; simp))
              have BZX := HBZ2
              have BWX := BX2
              clear ER EW2 ho
              obtain ⟨⟨⟨e0, e1, e2, e3, e4⟩, ⟨e5, e6, e7, e8, e9⟩, ⟨e10, e11, e12, e13, e14⟩⟩, -⟩ := blk15 (HBB2.out)
              obtain ⟨⟨z0, z1, z2, z3, z4, z5, z6, z7, z8⟩, hfz⟩ := blk9 (HBZ2.out)
              have fz0 := hfz 0
              have fz1 := hfz 1
              have fz2 := hfz 2
              have fz3 := hfz 3
              have fz4 := hfz 4
              have fz5 := hfz 5
              have fz6 := hfz 6
              have fz7 := hfz 7
              have fz8 := hfz 8
              clear hfz
              obtain ⟨WF, hWF⟩ : ∃ WF, setRt w2 (w.heap.size + 1) zeroRt = WF := ⟨_, rfl⟩
              have FB : Hid (Below w.heap.size w WF) := Lib.hid (by rw [← hWF]; exact setRt_below BWX.out (Nat.le_succ _) _)
              have bk := setRt_blk BZX.out zeroRt
              rw [hWF] at bk
              have BK := Lib.hid bk
              unfold setRt at hWF
              simp only [zeroRt] at hWF
              have HWF := Lib.hid hWF
              clear hWF bk
              go_wp2_with fail
              rw [HWF.out]
              obtain ⟨⟨g0, g1, g2, g3, g4, g5, g6, g7, g8⟩, -⟩ := blk9 BK.out
              exact bodyPost_ret (v := .tuple #[.agg #[.int .u32 0, .int .i64 0, .int .i64 0, .int .u32 0, .int .i64 0, .bool false, .int .i64 0, .int .i64 0, .slice none 0 0], .bool false]) (by simp [results, Tryz.results11, go_sem, zeroRt, g0, g1, g2, g3, g4, g5, g6, g7, g8]) rfl (NOP.out _ FB.out)
            · rw [ho] at EW2
              have ER : rw = ((rthAt inner j).rt.cost, Ls.adds Ls.hopLt [] ((rthAt inner j).hops.map (fwdHop fwd)), true) := EW2.out
              clear EW2 ho
              generalize (rthAt inner j).rt.cost = tc at *
              generalize Ls.adds Ls.hopLt [] ((rthAt inner j).hops.map (fwdHop fwd)) = th at *
              subst ER
              have NOE : Hid (th = [] → ∀ W, Below w.heap.size w W → RofPost w rtr _ reach inner (.returned (.tuple #[.agg #[.int .u32 0, .int .i64 0, .int .i64 0, .int .u32 0, .int .i64 0, .bool false, .int .i64 0, .int .i64 0, .slice none 0 0], .bool false])) W) := Lib.hid (fun h => NO.out (by rw [OK2.out]; simp [h]))
              have YE : Hid (th ≠ [] → decide ((if second = true then tc else tc + cost) ≤ 16777216) = true → ∀ e W, _ → _ → RofPost w rtr _ reach inner e W) := Lib.hid (fun h1 h2 => YE0.out (by rw [OK2.out]; simp only [Bool.true_and, Bool.and_eq_true, decide_eq_true_eq] at h2 ⊢; exact ⟨h1, h2⟩))
              have NE2 : Hid (th ≠ [] → decide ((if second = true then tc else tc + cost) ≤ 16777216) = false → _) := Lib.hid (fun h1 h2 => NOR.out (by rw [OK2.out]; simp only [h2, Bool.and_false]))
              obtain ⟨cb0, cb1, cb2, cb3⟩ := HCB1.out
              have HV := Lib.hid HV2
              have NVH : Hid (New w.heap.size v2) := Lib.hid (fun b off n c e => Nat.le_trans BX1.out.size (N2 b off n c e))
              clear N2
              have BX := BX2
              have bz := HBZ2.out
              clear OK2 HCB1 HV2
              simp only at cb0 cb1 YE NE2 YE0
              obtain ⟨⟨⟨e0, e1, e2, e3, e4⟩, ⟨e5, e6, e7, e8, e9⟩, ⟨e10, e11, e12, e13, e14⟩⟩, -⟩ := blk15 (HBB2.out)
              obtain ⟨⟨z0, z1, z2, z3, z4, z5, z6, z7, z8⟩, hfz⟩ := blk9 (HBZ2.out)
              have fz0 := hfz 0
              have fz1 := hfz 1
              have fz2 := hfz 2
              have fz3 := hfz 3
              have fz4 := hfz 4
              have fz5 := hfz 5
              have fz6 := hfz 6
              have fz7 := hfz 7
              have fz8 := hfz 8
              clear hfz
              obtain ⟨va, vc, ev, -, -, -, -⟩ := HV.out.get
              subst ev
              by_cases hne0 : th = []
              · have e0 : (th).length = 0 := by rw [hne0]; rfl
                rw [e0] at *
                have NOP := Lib.hid (NOE.out hne0)
                have BZX := Lib.hid bz
                have BWX := BX
                clear hne0 e0 HV
                obtain ⟨WF, hWF⟩ : ∃ WF, setRt w2 (w.heap.size + 1) zeroRt = WF := ⟨_, rfl⟩
                have FB : Hid (Below w.heap.size w WF) := Lib.hid (by rw [← hWF]; exact setRt_below BWX.out (Nat.le_succ _) _)
                have bk := setRt_blk BZX.out zeroRt
                rw [hWF] at bk
                have BK := Lib.hid bk
                unfold setRt at hWF
                simp only [zeroRt] at hWF
                have HWF := Lib.hid hWF
                clear hWF bk
                go_wp2_with fail
                rw [HWF.out]
                obtain ⟨⟨g0, g1, g2, g3, g4, g5, g6, g7, g8⟩, -⟩ := blk9 BK.out
                exact bodyPost_ret (v := .tuple #[.agg #[.int .u32 0, .int .i64 0, .int .i64 0, .int .u32 0, .int .i64 0, .bool false, .int .i64 0, .int .i64 0, .slice none 0 0], .bool false]) (by simp [results, Tryz.results11, go_sem, zeroRt, g0, g1, g2, g3, g4, g5, g6, g7, g8]) rfl (NOP.out _ FB.out)
              · have HNE := Lib.hid hne0
                have hn0 : ¬ (th).length = 0 := fun h => hne0 (List.length_eq_zero_iff.1 h)
                have HX := HV
                have YES := Lib.hid (YE.out hne0)
                have NO2 := Lib.hid (NE2.out hne0)
                have BZX := Lib.hid bz
                have BWX := BX
                generalize hvn : (th).length = vn at *
                have n1 : (vn == 0) = false := by simpa using hn0
                have n2 : ((vn : Int) == 0) = false := by simpa using hn0
                clear hne0 hn0 hvn bz
                cases second with
                | true =>
                  go_upto_region 9 with fail
                  generalize hW3 : w2.alloc _ = W3x
                  have GX3 : Below w2.heap.size w2 W3x := by rw [← hW3]; exact (Below.refl _ _).alloc (Nat.le_refl _) _
                  have bn3 : W3x.heap[w2.heap.size]? = some (.cells #[.int .u32 id, .int .i64 len, .int .i64 5, .int .u32 0, .int .i64 tc, .bool false, .int .i64 0, .int .i64 tag, .slice va vn vc] 36 (0, 0)) := by rw [← hW3]; exact alloc_new _ _
                  have be3 := (GX3.block w.heap.size (blk_lt HBB2.out)).trans HBB2.out
                  clear hW3 e0 e1 e2 e3 e4 e5 e6 e7 e8 e9 e10 e11 e12 e13 e14 z0 z1 z2 z3 z4 z5 z6 z7 z8 fz0 fz1 fz2 fz3 fz4 fz5 fz6 fz7 fz8
                  obtain ⟨⟨⟨e0, e1, e2, e3, e4⟩, ⟨e5, e6, e7, e8, e9⟩, ⟨e10, e11, e12, e13, e14⟩⟩, -⟩ := blk15 be3
                  obtain ⟨⟨n0, n1', n2', n3, n4, n5, n6, n7, n8⟩, hfn⟩ := blk9 bn3
                  have fn4 := hfn 4
                  have fn5 := hfn 5
                  have fn6 := hfn 6
                  clear hfn
                  have ne3 : ¬ w2.heap.size = w.heap.size := by have := blk_lt HBB2.out; omega
                  have ne4 : ¬ w.heap.size = w2.heap.size := fun h => ne3 h.symm
                  have GX3h := Lib.hid GX3
                  have bn3h := Lib.hid bn3
                  clear GX3 bn3 be3
                  go_upto_region 13 with fail
                  generalize hW4 : World.setCell (World.setCell W3x _ _) _ _ = W4
                  have GX4 : Below w2.heap.size w2 W4 := by have GX3 := GX3h.out; rw [← hW4]; exact ((GX3.setCell (Nat.le_refl _) _).setCell (Nat.le_refl _) _)
                  have bn : W4.heap[w2.heap.size]? = some (.cells #[.int .u32 id, .int .i64 len, .int .i64 5, .int .u32 0, .int .i64 tc, .bool true, .int .i64 cost, .int .i64 tag, .slice va vn vc] 36 (0, 0)) := by
                    have bn3 := bn3h.out
                    rw [← hW4]
                    have h1 := blk_set (blk_set bn3 5 (.bool true)) 6 (.int .i64 cost)
                    simp only [List.setIfInBounds_toArray, List.set_cons_zero, List.set_cons_succ] at h1
                    exact h1
                  clear ne3 ne4 fn4 fn5 fn6 n0 n1' n2' n3 n4 n5 n6 n7 n8 e0 e1 e2 e3 e4 e5 e6 e7 e8 e9 e10 e11 e12 e13 e14
                  have bz := (GX4.block (w.heap.size + 1) (blk_lt BZX.out)).trans BZX.out
                  have H4 := HX.out.below GX4
                  have BW4 := BWX.out.trans (GX4.mono BWX.out.size)
                  have hne := hops_ne_rt bz H4 HNE.out
                  have ne1 : ¬ w2.heap.size = w.heap.size + 1 := by have := blk_lt BZX.out; omega
                  have ne2 : ¬ w.heap.size + 1 = w2.heap.size := fun h => ne1 h.symm
                  clear hW4
                  obtain ⟨⟨z0, z1, z2, z3, z4, z5, z6, z7, z8⟩, hfz⟩ := blk9 bz
                  obtain ⟨⟨hg0, hg1, hg2, hg3, hg4, hg5, hg6, hg7, hg8⟩, -⟩ := blk9 bn
                  have zf0 := hfz 0
                  have zf1 := hfz 1
                  have zf2 := hfz 2
                  have zf3 := hfz 3
                  have zf4 := hfz 4
                  have zf5 := hfz 5
                  have zf6 := hfz 6
                  have zf7 := hfz 7
                  have zf8 := hfz 8
                  obtain ⟨W', hW'⟩ : ∃ W', (setRt W4 (w.heap.size + 1) ((⟨⟨id, len⟩, 5, 0, tc, true, cost, tag, th⟩ : Rp).rt va vn vc)).drew = W' := ⟨_, rfl⟩
                  have FIN0 := OffPost.fin (o := ⟨⟨id, len⟩, 5, 0, tc, true, cost, tag, th⟩) BW4 bz H4 hne
                  rw [hW'] at FIN0
                  have bk' := FIN0.2
                  have FIN := Lib.hid FIN0.1
                  simp only [rtE, Rp.rt] at bk' FIN
                  unfold setRt at hW'
                  simp only [Rp.rt] at hW'
                  have HW' := Lib.hid hW'
                  clear hfz bz bn BW4 H4 hne FIN0 hW' GX4
                  obtain ⟨⟨g0, g1, g2, g3, g4, g5, g6, g7, g8⟩, -⟩ := blk9 bk'
                  clear bk'
                  have G := Lib.hid (And.intro g0 (And.intro g1 (And.intro g2 (And.intro g3 (And.intro g4 (And.intro g5 (And.intro g6 (And.intro g7 g8))))))))
                  clear g0 g1 g2 g3 g4 g5 g6 g7 g8
                  by_cases k1 : tc ≤ 16777216
                  · have d1 : decide (tc ≤ 16777216) = true := by simpa using k1
                    have QQ := Lib.hid (YES.out (by first | simpa using k1 | simp only [d1]) _ _ (FIN.out true) ⟨va, vn, vc, rfl, NVH.out⟩)
                    go_big_region
                    go_wp2_with fail
                    rw [HW'.out]
                    obtain ⟨g0, g1, g2, g3, g4, g5, g6, g7, g8⟩ := G.out
                    exact bodyPost_ret (v := .tuple #[.agg #[.int .u32 id, .int .i64 len, .int .i64 5, .int .u32 0, .int .i64 tc, .bool true, .int .i64 cost, .int .i64 tag, .slice va vn vc], .bool true]) (by simp [results, Tryz.results11, go_sem, g0, g1, g2, g3, g4, g5, g6, g7, g8]) rfl QQ.out
                  · have d1 : decide (tc ≤ 16777216) = false := by simpa using k1
                    have QQ := Lib.hid (NO2.out (by first | simpa using k1 | simp only [d1]) ((⟨⟨id, len⟩, 5, 0, tc, true, cost, tag, th⟩ : Rp).rt va vn vc) _ (by obtain ⟨_, _, _, _, _, h⟩ := FIN.out false; exact h))
                    simp only [rtE, Rp.rt] at QQ
                    go_big_region
                    go_wp2_with fail
                    rw [HW'.out]
                    obtain ⟨g0, g1, g2, g3, g4, g5, g6, g7, g8⟩ := G.out
                    exact bodyPost_ret (v := .tuple #[.agg #[.int .u32 id, .int .i64 len, .int .i64 5, .int .u32 0, .int .i64 tc, .bool true, .int .i64 cost, .int .i64 tag, .slice va vn vc], .bool false]) (by simp [results, Tryz.results11, go_sem, g0, g1, g2, g3, g4, g5, g6, g7, g8]) rfl QQ.out
                | false =>
                  go_upto_region 9 with fail
                  generalize hW3 : w2.alloc _ = W3x
                  have GX3 : Below w2.heap.size w2 W3x := by rw [← hW3]; exact (Below.refl _ _).alloc (Nat.le_refl _) _
                  have bn3 : W3x.heap[w2.heap.size]? = some (.cells #[.int .u32 id, .int .i64 len, .int .i64 5, .int .u32 0, .int .i64 tc, .bool false, .int .i64 0, .int .i64 tag, .slice va vn vc] 36 (0, 0)) := by rw [← hW3]; exact alloc_new _ _
                  have be3 := (GX3.block w.heap.size (blk_lt HBB2.out)).trans HBB2.out
                  clear hW3 e0 e1 e2 e3 e4 e5 e6 e7 e8 e9 e10 e11 e12 e13 e14 z0 z1 z2 z3 z4 z5 z6 z7 z8 fz0 fz1 fz2 fz3 fz4 fz5 fz6 fz7 fz8
                  obtain ⟨⟨⟨e0, e1, e2, e3, e4⟩, ⟨e5, e6, e7, e8, e9⟩, ⟨e10, e11, e12, e13, e14⟩⟩, -⟩ := blk15 be3
                  obtain ⟨⟨n0, n1', n2', n3, n4, n5, n6, n7, n8⟩, hfn⟩ := blk9 bn3
                  have fn4 := hfn 4
                  have fn5 := hfn 5
                  have fn6 := hfn 6
                  clear hfn
                  have ne3 : ¬ w2.heap.size = w.heap.size := by have := blk_lt HBB2.out; omega
                  have ne4 : ¬ w.heap.size = w2.heap.size := fun h => ne3 h.symm
                  have GX3h := Lib.hid GX3
                  have bn3h := Lib.hid bn3
                  clear GX3 bn3 be3
                  go_upto_region 13 with fail
                  generalize hW4 : World.setCell W3x _ _ = W4
                  have GX4 : Below w2.heap.size w2 W4 := by have GX3 := GX3h.out; rw [← hW4]; exact (GX3.setCell (Nat.le_refl _) _)
                  have bn : W4.heap[w2.heap.size]? = some (.cells #[.int .u32 id, .int .i64 len, .int .i64 5, .int .u32 0, .int .i64 (tc + cost), .bool false, .int .i64 0, .int .i64 tag, .slice va vn vc] 36 (0, 0)) := by
                    have bn3 := bn3h.out
                    rw [← hW4]
                    have h1 := blk_set bn3 4 (.int .i64 (tc + cost))
                    simp only [List.setIfInBounds_toArray, List.set_cons_zero, List.set_cons_succ] at h1
                    exact h1
                  clear ne3 ne4 fn4 fn5 fn6 n0 n1' n2' n3 n4 n5 n6 n7 n8 e0 e1 e2 e3 e4 e5 e6 e7 e8 e9 e10 e11 e12 e13 e14
                  have bz := (GX4.block (w.heap.size + 1) (blk_lt BZX.out)).trans BZX.out
                  have H4 := HX.out.below GX4
                  have BW4 := BWX.out.trans (GX4.mono BWX.out.size)
                  have hne := hops_ne_rt bz H4 HNE.out
                  have ne1 : ¬ w2.heap.size = w.heap.size + 1 := by have := blk_lt BZX.out; omega
                  have ne2 : ¬ w.heap.size + 1 = w2.heap.size := fun h => ne1 h.symm
                  clear hW4
                  obtain ⟨⟨z0, z1, z2, z3, z4, z5, z6, z7, z8⟩, hfz⟩ := blk9 bz
                  obtain ⟨⟨hg0, hg1, hg2, hg3, hg4, hg5, hg6, hg7, hg8⟩, -⟩ := blk9 bn
                  have zf0 := hfz 0
                  have zf1 := hfz 1
                  have zf2 := hfz 2
                  have zf3 := hfz 3
                  have zf4 := hfz 4
                  have zf5 := hfz 5
                  have zf6 := hfz 6
                  have zf7 := hfz 7
                  have zf8 := hfz 8
                  obtain ⟨W', hW'⟩ : ∃ W', (setRt W4 (w.heap.size + 1) ((⟨⟨id, len⟩, 5, 0, tc + cost, false, 0, tag, th⟩ : Rp).rt va vn vc)).drew = W' := ⟨_, rfl⟩
                  have FIN0 := OffPost.fin (o := ⟨⟨id, len⟩, 5, 0, tc + cost, false, 0, tag, th⟩) BW4 bz H4 hne
                  rw [hW'] at FIN0
                  have bk' := FIN0.2
                  have FIN := Lib.hid FIN0.1
                  simp only [rtE, Rp.rt] at bk' FIN
                  unfold setRt at hW'
                  simp only [Rp.rt] at hW'
                  have HW' := Lib.hid hW'
                  clear hfz bz bn BW4 H4 hne FIN0 hW' GX4
                  obtain ⟨⟨g0, g1, g2, g3, g4, g5, g6, g7, g8⟩, -⟩ := blk9 bk'
                  clear bk'
                  have G := Lib.hid (And.intro g0 (And.intro g1 (And.intro g2 (And.intro g3 (And.intro g4 (And.intro g5 (And.intro g6 (And.intro g7 g8))))))))
                  clear g0 g1 g2 g3 g4 g5 g6 g7 g8
                  by_cases k1 : (tc + cost) ≤ 16777216
                  · have d1 : decide ((tc + cost) ≤ 16777216) = true := by simpa using k1
                    have QQ := Lib.hid (YES.out (by first | simpa using k1 | simp only [d1]) _ _ (FIN.out true) ⟨va, vn, vc, rfl, NVH.out⟩)
                    go_big_region
                    go_wp2_with fail
                    rw [HW'.out]
                    obtain ⟨g0, g1, g2, g3, g4, g5, g6, g7, g8⟩ := G.out
                    exact bodyPost_ret (v := .tuple #[.agg #[.int .u32 id, .int .i64 len, .int .i64 5, .int .u32 0, .int .i64 (tc + cost), .bool false, .int .i64 0, .int .i64 tag, .slice va vn vc], .bool true]) (by simp [results, Tryz.results11, go_sem, g0, g1, g2, g3, g4, g5, g6, g7, g8]) rfl QQ.out
                  · have d1 : decide ((tc + cost) ≤ 16777216) = false := by simpa using k1
                    have QQ := Lib.hid (NO2.out (by first | simpa using k1 | simp only [d1]) ((⟨⟨id, len⟩, 5, 0, tc + cost, false, 0, tag, th⟩ : Rp).rt va vn vc) _ (by obtain ⟨_, _, _, _, _, h⟩ := FIN.out false; exact h))
                    simp only [rtE, Rp.rt] at QQ
                    go_big_region
                    go_wp2_with fail
                    rw [HW'.out]
                    obtain ⟨g0, g1, g2, g3, g4, g5, g6, g7, g8⟩ := G.out
                    exact bodyPost_ret (v := .tuple #[.agg #[.int .u32 id, .int .i64 len, .int .i64 5, .int .u32 0, .int .i64 (tc + cost), .bool false, .int .i64 0, .int .i64 tag, .slice va vn vc], .bool false]) (by simp [results, Tryz.results11, go_sem, g0, g1, g2, g3, g4, g5, g6, g7, g8]) rfl QQ.out
    · have za : decide (3600 ≤ age) = true := by simp; omega
      have NOP := Lib.hid (NO.out (by rw [OKE.out]; simp [ag]))
      clear t5 ag
      obtain ⟨WF, hWF⟩ : ∃ WF, setRt W0 (w.heap.size + 1) zeroRt = WF := ⟨_, rfl⟩
      have FB : Hid (Below w.heap.size w WF) := Lib.hid (by rw [← hWF]; exact setRt_below BWX.out (Nat.le_succ _) _)
      have bk := setRt_blk BZX.out zeroRt
      rw [hWF] at bk
      have BK := Lib.hid bk
      unfold setRt at hWF
      simp only [zeroRt] at hWF
      have HWF := Lib.hid hWF
      clear hWF bk
      go_wp2_with fail
      rw [HWF.out]
      obtain ⟨⟨g0, g1, g2, g3, g4, g5, g6, g7, g8⟩, -⟩ := blk9 BK.out
      exact bodyPost_ret (v := .tuple #[.agg #[.int .u32 0, .int .i64 0, .int .i64 0, .int .u32 0, .int .i64 0, .bool false, .int .i64 0, .int .i64 0, .slice none 0 0], .bool false]) (by simp [results, Tryz.results11, go_sem, zeroRt, g0, g1, g2, g3, g4, g5, g6, g7, g8]) rfl (NOP.out _ FB.out)
  · have z5 : (typ != 5) = true := by simpa using t5
    have NOP := Lib.hid (NO.out (by rw [OKE.out]; simp [t5]))
    clear t5
    obtain ⟨WF, hWF⟩ : ∃ WF, setRt W0 (w.heap.size + 1) zeroRt = WF := ⟨_, rfl⟩
    have FB : Hid (Below w.heap.size w WF) := Lib.hid (by rw [← hWF]; exact setRt_below BWX.out (Nat.le_succ _) _)
    have bk := setRt_blk BZX.out zeroRt
    rw [hWF] at bk
    have BK := Lib.hid bk
    unfold setRt at hWF
    simp only [zeroRt] at hWF
    have HWF := Lib.hid hWF
    clear hWF bk
    go_wp2_with fail
    rw [HWF.out]
    obtain ⟨⟨g0, g1, g2, g3, g4, g5, g6, g7, g8⟩, -⟩ := blk9 BK.out
    exact bodyPost_ret (v := .tuple #[.agg #[.int .u32 0, .int .i64 0, .int .i64 0, .int .u32 0, .int .i64 0, .bool false, .int .i64 0, .int .i64 0, .slice none 0 0], .bool false]) (by simp [results, Tryz.results11, go_sem, zeroRt, g0, g1, g2, g3, g4, g5, g6, g7, g8]) rfl (NOP.out _ FB.out)


end Go.Proofs.YtiemmejpaahbpaaGreat
