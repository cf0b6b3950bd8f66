/-
  routingref32.Best.
-/
/-
  routinglaw33.find and used.
-/
/-
  InterBest in plain words.
-/
/-
  InterBack in plain words: the routes that are left out change nothing.
-/
/-
  routingref33.Routes.
-/
/-
  InterRoutes in plain words: the reference's routes are the program's.
-/
/-
  routingref33.Boundaries.
-/
/-
  Maps ranged over inside an iterator: the two laws of Map behind a fence.
-/
/-
  maps.Keys of a map with keys of uint32, and what slices.Sorted makes of it.
-/
/-
  slices.AppendSeq, Collect and Sorted of maps.Keys.
-/
/-
  InterRoutes in plain words: the reference's ways to boundary routers are the program's.
-/
/-
  inter.Boundaries walked.
-/
/-
  routingref32.SameHops, SameRoute, SameRoutes: of equal lists they tell true.
-/
/-
  routingref32.SameReach: of equal lists it tells true.
-/
/-
  InterRoutes: the law walked.
-/
import Derived.Test.YtogdconliofblaaGreatOf3
import Derived.Test.YtogdconliofblaaGreatRmg
import Derived.Test.YtogdconliofblaaGreatRtd
import Derived.Test.YtogdconliofblaaGreatCpt
import Derived.Test.YtogdconliofblaaGreatWay
import Derived.Test.YtogdconliofblaaGreatRty
import Derived.Test.YtogdconliofblaaGreatSla
import Derived.Test.YtogdconliofblaaGreatSmy
import Derived.Test.YtogdconliofblaaGreatPf2
import Derived.Test.YtogdconliofblaaGreatMap
import Derived.Test.YtogdconliofblaaGreatObw
import Derived.Test.YtogdconliofblaaGreatSel
import Derived.Test.YtogdconliofblaaGreatSos
import Derived.Test.YtogdconliofblaaGreatApo
import Derived.Test.YtogdconliofblaaGreatFin
import Derived.Test.YtogdconliofblaaGreatLsa
import Derived.Test.YtogdconliofblaaGreatLvx
import Derived.Deep.DeepCutAuto
import Derived.BigQuiet
import Derived.Deep.RegionHeld3
import Derived.Deep.AppendLies
import Derived.Sort.MapsRangeIn
import Derived.RangeFuncBox
import Derived.RangeFuncBound
import Derived.WalkKit
import Derived.OwnWalkIn
import Derived.TacticsInMore
import Derived.RegionIn
import Derived.LoopNIn
import Derived.LoopIn
import Derived.RangeFuncNested
import Derived.Laws.EntriesVeiled
import Derived.IntWalk
namespace Go.Proofs.YtogdconliofblaaGreat
open Go.RowKit

theorem nePfx (x y : Ls.Pfx) (w : World) : (binOp .neq 55 (.agg #[.int .u32 x.addr, .int .i64 x.len]) (.agg #[.int .u32 y.addr, .int .i64 y.len])).run Tryz.prog w = .ok (.bool (!decide (x = y))) w := by
  have h := eqPfx x y w
  generalize decide (x = y) = b at *
  simp only [binOp] at h ⊢
  revert h
  simp only [Sem.run_bind, Sem.run_pure]
  cases (Op.equal 55 (.agg #[.int .u32 x.addr, .int .i64 x.len]) (.agg #[.int .u32 y.addr, .int .i64 y.len])).run Tryz.prog w <;> simp <;> (intros; subst_vars; first | done | rfl | trivial)

def bsO (p : Ls.Pfx) (s : Option Of) (o : OfP) : Option Of :=
  if o.pfx = p ∧ o.cost ≤ 16777216 then (match s with
    | none => some ⟨o.cost, Ls.merge Ls.hopLt [] o.hops⟩
    | some z => if o.cost < z.cost then some ⟨o.cost, Ls.merge Ls.hopLt [] o.hops⟩ else if o.cost = z.cost then some ⟨z.cost, Ls.merge Ls.hopLt z.hops o.hops⟩ else some z) else s
def bsK (l : List OfP) (p : Ls.Pfx) (k : Nat) : Option Of := (l.take k).foldl (bsO p) none
theorem bsK_succ (l : List OfP) (p : Ls.Pfx) {k : Nat} (c : k < l.length) : bsK l p (k + 1) = bsO p (bsK l p k) l[k] := by
  unfold bsK; rw [take_fold _ _ _ _ c]
def bsC : Option Of → Int
  | none => -1
  | some z => z.cost
def bsH : Option Of → List Ls.Hop
  | none => []
  | some z => z.hops
theorem bsO_off {p : Ls.Pfx} {s : Option Of} {o : OfP} (h : ¬ (o.pfx = p ∧ o.cost ≤ 16777216)) : bsO p s o = s := if_neg h
theorem bsO_none {p : Ls.Pfx} {o : OfP} (h : o.pfx = p ∧ o.cost ≤ 16777216) : bsO p none o = some ⟨o.cost, Ls.merge Ls.hopLt [] o.hops⟩ := if_pos h
theorem bsO_lt {p : Ls.Pfx} {z : Of} {o : OfP} (h : o.pfx = p ∧ o.cost ≤ 16777216) (c : o.cost < z.cost) : bsO p (some z) o = some ⟨o.cost, Ls.merge Ls.hopLt [] o.hops⟩ := (if_pos h).trans (if_pos c)
theorem bsO_eq {p : Ls.Pfx} {z : Of} {o : OfP} (h : o.pfx = p ∧ o.cost ≤ 16777216) (c : o.cost = z.cost) : bsO p (some z) o = some ⟨z.cost, Ls.merge Ls.hopLt z.hops o.hops⟩ := (if_pos h).trans ((if_neg (by omega)).trans (if_pos c))
theorem bsO_gt {p : Ls.Pfx} {z : Of} {o : OfP} (h : o.pfx = p ∧ o.cost ≤ 16777216) (c : z.cost < o.cost) : bsO p (some z) o = some z := (if_pos h).trans ((if_neg (by omega)).trans (if_neg (by omega)))

theorem bsK_inv {l : List OfP} (p : Ls.Pfx) {M : Nat} (hc : ∀ o ∈ l, 0 ≤ o.cost) (hM : ∀ o ∈ l, o.hops.length ≤ M) : ∀ k, k ≤ l.length → ∀ z, bsK l p k = some z → 0 ≤ z.cost ∧ z.hops.length ≤ k * M
  | 0, _, z, h => by cases h
  | k + 1, hk, z, h => by
    have c : k < l.length := by omega
    have ih := bsK_inv p hc hM k (by omega)
    rw [bsK_succ l p c] at h
    have h0 := hc _ (List.getElem_mem c)
    have hm := hM _ (List.getElem_mem c)
    have hl1 := Ls.merge_length_le (lt := Ls.hopLt) [] l[k].hops
    rw [Nat.succ_mul]
    by_cases q : l[k].pfx = p ∧ l[k].cost ≤ 16777216
    · cases e : bsK l p k with
      | none =>
        rw [e, bsO_none q] at h
        cases h
        simp only [List.length_nil, Nat.zero_add] at hl1
        exact ⟨h0, by simp only; omega⟩
      | some y =>
        rw [e] at h
        obtain ⟨i1, i2⟩ := ih y e
        have hl2 := Ls.merge_length_le (lt := Ls.hopLt) y.hops l[k].hops
        rcases Int.lt_trichotomy l[k].cost y.cost with d | d | d
        · rw [bsO_lt q d] at h
          cases h
          simp only [List.length_nil, Nat.zero_add] at hl1
          exact ⟨h0, by simp only; omega⟩
        · rw [bsO_eq q d] at h
          cases h
          exact ⟨i1, by simp only; omega⟩
        · rw [bsO_gt q d] at h
          cases h
          exact ⟨i1, by omega⟩
    · rw [bsO_off q] at h
      obtain ⟨i1, i2⟩ := ih z h
      exact ⟨i1, by omega⟩

def BsPost (w : World) (s : Option Of) (e : Ending) (w' : World) : Prop := ∃ v, e = .returned (.tuple #[.int .i64 (bsC s), v]) ∧ HopsAt w' v (bsH s) ∧ Below w.heap.size w w' ∧ ∀ b, v.ownBlock = some b → w.heap.size ≤ b ∧ b < w'.heap.size

set_option maxHeartbeats 8000000 in
set_option maxRecDepth 100000 in
theorem best32_calls (w : World) (v : Value) (l : List OfP) (h : OfrAt w v l) (p : Ls.Pfx) (n1 : l.length ≤ 200) (hc : ∀ o ∈ l, 0 ≤ o.cost) (hM : ∀ o ∈ l, o.hops.length ≤ 1048576) :
    Calls Tryz.prog 64 #[v, .agg #[.int .u32 p.addr, .int .i64 p.len]] w (BsPost w (bsK l p l.length)) := by
  obtain ⟨ad, cap, e0, hcap, hmax, hn0, hcc0⟩ := h.sl
  simp only [List.length_map] at e0 hcap hcc0
  have hlen : l.length ≤ 9223372036854775807 := by omega
  subst e0
  have HCC : Hid (0 < l.length → ∃ b off, ad = some ⟨b, off, none⟩ ∧ b < w.heap.size ∧ ∀ i (hi : i < l.length), w.cell? ⟨b, off + i * 4, none⟩ = some (.int .u32 l[i].pfx.addr) ∧ w.cell? ⟨b, off + i * 4 + 1, none⟩ = some (.int .i64 l[i].pfx.len) ∧ w.cell? ⟨b, off + i * 4 + 2, none⟩ = some (.int .i64 l[i].cost) ∧ w.cell? ⟨b, off + i * 4 + 3, none⟩ = some (.slice l[i].ha l[i].hn l[i].hc)) := Lib.hid (fun hp => by
    obtain ⟨b, off, e, h4, h5⟩ := hcc0 hp
    refine ⟨b, off, e, h4, fun i hi => ?_⟩
    have := h5 i (by simpa using hi)
    simp only [List.getElem_map, ofrE] at this
    exact ⟨this 0 _ rfl, this 1 _ rfl, this 2 _ rfl, this 3 _ rfl⟩)
  have HHO := Lib.hid h.hops
  have N1 := Lib.hid n1
  have INV := Lib.hid (fun k (hk : k ≤ l.length) => bsK_inv p hc hM k hk)
  have HC0 := Lib.hid hc
  have HMM := Lib.hid hM
  clear h hcc0 n1 hc hM hcap hmax hn0
  obtain ⟨pa, pl⟩ := p
  simp only
  obtain ⟨WA, hWA⟩ : ∃ WA, w.alloc (.cells #[.int .u32 pa, .int .i64 pl] 55) = WA := ⟨_, rfl⟩
  have BA : Below w.heap.size w WA := by rw [← hWA]; exact (Below.refl _ _).alloc (Nat.le_refl _) _
  have bA : WA.heap[w.heap.size]? = some (.cells #[.int .u32 pa, .int .i64 pl] 55 (0, 0)) := by rw [← hWA]; exact alloc_new w _
  obtain ⟨W2, hW2⟩ : ∃ W2, WA.alloc (.cells #[] 60) = W2 := ⟨_, rfl⟩
  have B2 : Below WA.heap.size WA W2 := by rw [← hW2]; exact (Below.refl _ _).alloc (Nat.le_refl _) _
  have H0 : Hid (HopsAt W2 (.slice (some ⟨WA.heap.size, 0, none⟩) 0 0) []) := Lib.hid ⟨_, 0, rfl, Nat.le_refl _, (by unfold maxLen; omega), (fun h => by cases h), fun h => by cases h⟩
  have HB2 := Lib.hid (BA.trans (B2.mono BA.size))
  have HX2 := Lib.hid ((B2.block _ (blk_lt bA)).trans bA)
  have FR0 : Hid (∀ b, (Value.slice (some ⟨WA.heap.size, 0, none⟩) 0 0).ownBlock = some b → w.heap.size ≤ b ∧ b < W2.heap.size) := Lib.hid (fun b hb => by
    have hb : WA.heap.size = b := by simpa [Value.ownBlock] using hb
    have h1 : W2.heap.size = WA.heap.size + 1 := by rw [← hW2]; simp
    have h2 := BA.size
    omega)
  have HWA := Lib.hid hWA
  have HW2 := Lib.hid hW2
  have R0 : Hid (Below W2.heap.size W2 W2) := Lib.hid (Below.refl _ _)
  clear hWA BA bA hW2 B2
  go_enter Tryz.func64, Tryz.ntmps64
  go_upto_region 1 with fail
  rw [HWA.out]
  go_upto_region 3 with fail
  rw [HW2.out]
  clear HWA HW2
  go_wp2_with fail
  go_loopw [6, 7, 8] (fun cv hv iv wr => ∃ k : Nat, iv = .int .i64 k ∧ cv = .int .i64 (bsC (bsK l ⟨pa, pl⟩ k)) ∧ Hid (HopsAt wr hv (bsH (bsK l ⟨pa, pl⟩ k))) ∧ k ≤ l.length ∧ Hid (Below W2.heap.size W2 wr) ∧ Hid (∀ b, hv.ownBlock = some b → w.heap.size ≤ b ∧ b < wr.heap.size)) (fun _ _ i _ => l.length - (intOf i).toNat)
  case atStart => exact ⟨0, rfl, rfl, H0, Nat.zero_le _, R0, FR0⟩
  case round =>
    clear H0 R0 FR0
    obtain ⟨k, rfl, rfl, HO, hk, GG, FR⟩ := hrel
    obtain ⟨vH, hvH⟩ : ∃ z, z = u7 := ⟨_, rfl⟩
    subst hvH
    by_cases c : k < l.length
    · obtain ⟨b, off, rfl, hb0, hcc⟩ := HCC.out (by omega)
      have BW := HB2.out.trans (GG.out.mono HB2.out.size)
      obtain ⟨d0, d1, d2, d3⟩ := hcc k c
      have up : ∀ {o : Nat} {u : Value}, w.cell? ⟨b, o, none⟩ = some u → wr.cell? ⟨b, o, none⟩ = some u := fun {o u} hh => (World.cell?_of_block (w := w) (w' := wr) (a := ⟨b, o, none⟩) (BW.block b hb0)).trans hh
      have d0 := up d0
      have d1 := up d1
      have d2 := up d2
      have d3 := up d3
      have ST : Hid (bsK l ⟨pa, pl⟩ (k + 1) = bsO ⟨pa, pl⟩ (bsK l ⟨pa, pl⟩ k) l[k]) := Lib.hid (bsK_succ l _ c)
      have hXX := HHO.out _ (List.getElem_mem c)
      have HXL : Hid (l[k].hops.length ≤ 1048576) := Lib.hid (HMM.out _ (List.getElem_mem c))
      have hin := INV.out k hk
      have hk2 : k * 1048576 ≤ 200 * 1048576 := Nat.mul_le_mul_right _ (by have := N1.out; omega)
      have IZ : Hid (∀ z, bsK l ⟨pa, pl⟩ k = some z → 0 ≤ z.cost ∧ z.hops.length ≤ 200 * 1048576) := Lib.hid (fun z hz => ⟨(hin z hz).1, Nat.le_trans (hin z hz).2 hk2⟩)
      obtain ⟨W3, hW3⟩ : ∃ W3, wr.alloc (.cells (ofrE l[k]).toArray 113) = W3 := ⟨_, rfl⟩
      have B3 : Below wr.heap.size wr W3 := by rw [← hW3]; exact (Below.refl _ _).alloc (Nat.le_refl _) _
      have b3 : W3.heap[wr.heap.size]? = some (.cells (ofrE l[k]).toArray 113 (0, 0)) := by rw [← hW3]; exact alloc_new _ _
      have HX3 := Lib.hid (hXX.below (BW.trans (B3.mono BW.size)))
      have HO3 := Lib.hid (HO.out.below B3)
      have HB3 := Lib.hid (GG.out.trans (B3.mono GG.out.size))
      have FR3 : Hid (∀ b, vH.ownBlock = some b → w.heap.size ≤ b ∧ b < W3.heap.size) := Lib.hid (fun b hb => ⟨(FR.out b hb).1, Nat.lt_of_lt_of_le (FR.out b hb).2 B3.size⟩)
      have WS := Lib.hid (Nat.le_trans BW.size B3.size)
      have bx := (B3.block _ (blk_lt ((GG.out.block _ (blk_lt HX2.out)).trans HX2.out))).trans ((GG.out.block _ (blk_lt HX2.out)).trans HX2.out)
      have y0 := blk_cell (i := 0) bx rfl
      have y1 := blk_cell (i := 1) bx rfl
      have KC := Lib.hid c
      have n0 : (0 : Int) ≤ (k : Int) := by omega
      have n1 : (k : Int) < (l.length : Int) := by omega
      have n3 : ((k : Int)).toNat = k := by omega
      have HW3 := Lib.hid hW3
      have HB3' := Lib.hid b3
      clear hcc up hXX hin hk2 hW3 B3 b3 BW bx GG HO FR
      generalize l[k] = x at *
      generalize bsK l ⟨pa, pl⟩ k = s at *
      clear c
      obtain ⟨⟨xa, xl⟩, xc, xha, xhn, xhc, xh⟩ := x
      simp only [ofrE] at d0 d1 d2 d3 HW3 HB3' HX3 HXL
      go_upto_region 7 with fail
      rw [HW3.out]
      clear d0 d1 d2 d3 HW3
      have t0 := blk_cell (i := 0) HB3'.out rfl
      have t1 := blk_cell (i := 1) HB3'.out rfl
      have t2 := blk_cell (i := 2) HB3'.out rfl
      have t3 := blk_cell (i := 3) HB3'.out rfl
      have EQ := fun W => nePfx ⟨xa, xl⟩ ⟨pa, pl⟩ W
      by_cases he : (⟨xa, xl⟩ : Ls.Pfx) = ⟨pa, pl⟩
      · simp only [decide_eq_true he, Bool.not_true] at EQ
        by_cases q1 : 16777216 < xc
        · have c1 : decide (16777216 < xc) = true := decide_eq_true q1
          have EQS := Lib.hid (ST.out.trans (bsO_off (fun h => by have := h.2; simp only at this; omega)))
          clear ST he q1 IZ HX3 HXL HB3'
          go_wp2_with fail
          go_roundw
          case rel => exact ⟨k + 1, by go_num, by rw [EQS.out], by rw [EQS.out]; exact HO3, KC.out, HB3, FR3⟩
          case measure => simp [intOf]; have := KC.out; omega
        · have c1 : decide (16777216 < xc) = false := decide_eq_false q1
          have OK : Hid (((⟨⟨xa, xl⟩, xc, xha, xhn, xhc, xh⟩ : OfP).pfx = ⟨pa, pl⟩) ∧ xc ≤ 16777216) := Lib.hid ⟨he, by omega⟩
          clear he q1
          cases s with
          | none =>
            simp only [bsC, bsH] at HO3 ⊢
            have EQS := Lib.hid (ST.out.trans (bsO_none OK.out))
            have MC := Lib.hid (rmerge_calls W3 (.slice none 0 0) (.slice xha xhn xhc) [] xh (hopsNone _) HX3.out (by have := HXL.out; simp only [List.length_nil]; omega))
            clear ST OK IZ HX3 HXL HO3 HB3'
            go_wp2_with fail
            refine MC.out.mono ?_
            rintro e w5 ⟨v5, rfl, O5, B5⟩
            have HO5 := Lib.hid O5.at
            have HB5 := Lib.hid (HB3.out.trans (B5.mono HB3.out.size))
            have FR5 : Hid (∀ b, v5.ownBlock = some b → w.heap.size ≤ b ∧ b < w5.heap.size) := Lib.hid (fun b hb => ⟨Nat.le_trans WS.out (World.ownsRow.lt O5 b hb).1, (World.ownsRow.lt O5 b hb).2⟩)
            clear MC O5 B5 t0 t1 t2 t3 y0 y1
            go_wp2_with fail
            go_roundw
            case rel => exact ⟨k + 1, by go_num, by rw [EQS.out] <;> rfl, by rw [EQS.out]; exact HO5, KC.out, HB5, FR5⟩
            case measure => simp [intOf]; have := KC.out; omega
          | some z =>
            obtain ⟨hz0, hz1⟩ := IZ.out z rfl
            obtain ⟨zc, zh⟩ := z
            simp only [bsC, bsH] at HO3 hz0 hz1 ⊢
            have HZL := Lib.hid hz1
            have g0 : decide (0 ≤ zc) = true := decide_eq_true hz0
            have g1 : decide (zc < 0) = false := decide_eq_false (by omega)
            clear hz1
            rcases Int.lt_trichotomy xc zc with d | d | d
            · have c2 : decide (zc < xc) = false := decide_eq_false (by omega)
              have c3 : decide (xc < zc) = true := decide_eq_true d
              have EQS := Lib.hid (ST.out.trans (bsO_lt OK.out d))
              have MC := Lib.hid (rmerge_calls W3 (.slice none 0 0) (.slice xha xhn xhc) [] xh (hopsNone _) HX3.out (by have := HXL.out; simp only [List.length_nil]; omega))
              clear ST OK IZ HX3 HXL HO3 HB3' d HZL hz0
              go_wp2_with fail
              refine MC.out.mono ?_
              rintro e w5 ⟨v5, rfl, O5, B5⟩
              have HO5 := Lib.hid O5.at
              have HB5 := Lib.hid (HB3.out.trans (B5.mono HB3.out.size))
              have FR5 : Hid (∀ b, v5.ownBlock = some b → w.heap.size ≤ b ∧ b < w5.heap.size) := Lib.hid (fun b hb => ⟨Nat.le_trans WS.out (World.ownsRow.lt O5 b hb).1, (World.ownsRow.lt O5 b hb).2⟩)
              clear MC O5 B5 t0 t1 t2 t3 y0 y1
              go_wp2_with fail
              go_roundw
              case rel => exact ⟨k + 1, by go_num, by rw [EQS.out] <;> rfl, by rw [EQS.out]; exact HO5, KC.out, HB5, FR5⟩
              case measure => simp [intOf]; have := KC.out; omega
            · have c2 : decide (zc < xc) = false := decide_eq_false (by omega)
              have c3 : decide (xc < zc) = false := decide_eq_false (by omega)
              have EQS := Lib.hid (ST.out.trans (bsO_eq OK.out d))
              have MC := Lib.hid (rmerge_calls W3 vH (.slice xha xhn xhc) zh xh HO3.out HX3.out (by have := HXL.out; have := HZL.out; omega))
              clear ST OK IZ HX3 HXL HO3 HB3' d HZL hz0
              go_wp2_with fail
              refine MC.out.mono ?_
              rintro e w5 ⟨v5, rfl, O5, B5⟩
              have HO5 := Lib.hid O5.at
              have HB5 := Lib.hid (HB3.out.trans (B5.mono HB3.out.size))
              have FR5 : Hid (∀ b, v5.ownBlock = some b → w.heap.size ≤ b ∧ b < w5.heap.size) := Lib.hid (fun b hb => ⟨Nat.le_trans WS.out (World.ownsRow.lt O5 b hb).1, (World.ownsRow.lt O5 b hb).2⟩)
              clear MC O5 B5 t0 t1 t2 t3 y0 y1
              go_wp2_with fail
              go_roundw
              case rel => exact ⟨k + 1, by go_num, by rw [EQS.out] <;> rfl, by rw [EQS.out]; exact HO5, KC.out, HB5, FR5⟩
              case measure => simp [intOf]; have := KC.out; omega
            · have c2 : decide (zc < xc) = true := decide_eq_true d
              have EQS := Lib.hid (ST.out.trans (bsO_gt OK.out d))
              clear ST OK IZ HX3 HXL HB3' d HZL hz0
              go_wp2_with fail
              go_roundw
              case rel => exact ⟨k + 1, by go_num, by rw [EQS.out] <;> rfl, by rw [EQS.out]; exact HO3, KC.out, HB3, FR3⟩
              case measure => simp [intOf]; have := KC.out; omega
      · simp only [decide_eq_false he, Bool.not_false] at EQ
        have EQS := Lib.hid (ST.out.trans (bsO_off (fun h => he h.1)))
        clear ST he IZ HX3 HXL HB3'
        go_wp2_with fail
        go_roundw
        case rel => exact ⟨k + 1, by go_num, by rw [EQS.out], by rw [EQS.out]; exact HO3, KC.out, HB3, FR3⟩
        case measure => simp [intOf]; have := KC.out; omega
    · obtain rfl : k = l.length := by omega
      have FI : Hid (BsPost w (bsK l ⟨pa, pl⟩ l.length) (.returned (.tuple #[.int .i64 (bsC (bsK l ⟨pa, pl⟩ l.length)), vH])) wr) := Lib.hid ⟨vH, rfl, HO.out, HB2.out.trans (GG.out.mono HB2.out.size), FR.out⟩
      clear HO GG FR
      generalize bsC (bsK l ⟨pa, pl⟩ l.length) = cc at *
      go_wp2_with fail
      first | go_ret2 | go_ret
      exact FI.out

end Go.Proofs.YtogdconliofblaaGreat

namespace Go.Proofs.YtogdconliofblaaGreat
open Go.RowKit

def FdIs (l : List RtH) (p : Ls.Pfx) (i : Int) : Prop := (i = -1 ∧ ∀ y ∈ l, y.rt.pfx ≠ p) ∨ ∃ j : Nat, i = (j : Int) ∧ ∃ h : j < l.length, l[j].rt.pfx = p
def FdPost (w : World) (l : List RtH) (p : Ls.Pfx) (e : Ending) (w' : World) : Prop := ∃ i : Int, e = .returned (.int .i64 i) ∧ Gr w w' ∧ FdIs l p i

set_option maxHeartbeats 8000000 in
set_option maxRecDepth 100000 in
theorem lfind_calls (w : World) (v : Value) (l : List RtH) (h : RoutesAt w v l) (pa pl : Int) :
    Calls Tryz.prog 18 #[v, .agg #[.int .u32 pa, .int .i64 pl]] w (FdPost w l ⟨pa, pl⟩) := by
  obtain ⟨a1, c1, rfl, hlen, hc1⟩ := h.get
  have HC1 := Lib.hid hc1
  have mixed : Tryz.prog.follows .mixedOrders = true := by kernel_rfl
  clear h hc1
  obtain ⟨W0, hW0⟩ : ∃ W0, w.alloc (.cells #[.int .u32 pa, .int .i64 pl] 55) = W0 := ⟨_, rfl⟩
  have b0 : W0.heap[w.heap.size]? = some (.cells #[.int .u32 pa, .int .i64 pl] 55 (0, 0)) := by rw [← hW0]; exact alloc_new w _
  have G0 : Hid (Gr w W0) := Lib.hid (by rw [← hW0]; exact (Gr.refl _).alloc _)
  have HB := Lib.hid b0
  have HW0 := Lib.hid hW0
  clear hW0 b0
  go_enter Tryz.func18, Tryz.ntmps18
  go_upto_region 1 with fail
  rw [HW0.out]
  go_wp2_with fail
  go_loopw [8] (fun i wr => ∃ k : Nat, i = .int .i64 k ∧ k ≤ l.length ∧ Hid (Gr W0 wr) ∧ Hid (∀ m (hm : m < l.length), m < k → l[m].rt.pfx ≠ ⟨pa, pl⟩)) (fun i _ => l.length - (intOf i).toNat)
  case atStart => exact ⟨0, rfl, Nat.zero_le _, Lib.hid (Gr.refl _), Lib.hid (fun m _ hm => absurd hm (by omega))⟩
  case round =>
    obtain ⟨k, rfl, hk, GG, NO⟩ := hrel
    by_cases c : k < l.length
    · obtain ⟨b1, o1, rfl, hb1, hcc1⟩ := HC1.out (by omega)
      obtain ⟨d0, d1, -⟩ := ((hcc1 k c).below G0.out.b hb1).below GG.out.b (Nat.lt_of_lt_of_le hb1 G0.out.b.size)
      have br := (GG.out.b.block _ (blk_lt HB.out)).trans HB.out
      have GR := Lib.hid (fun n os => GG.out.trans (Gr.of_grow (W := wr) n os))
      have GR2 := Lib.hid (fun n os => G0.out.trans (GR.out n os))
      have KC := Lib.hid c
      have n0 : (0 : Int) ≤ (k : Int) := by omega
      have n1 : (k : Int) < (l.length : Int) := by omega
      have n3 : ((k : Int)).toNat = k := by omega
      have YES : Hid (l[k].rt.pfx = ⟨pa, pl⟩ → ∀ W, Gr w W → FdPost w l ⟨pa, pl⟩ (.returned (.int .i64 (k : Int))) W) := Lib.hid (fun e W g => ⟨_, rfl, g, .inr ⟨k, rfl, c, e⟩⟩)
      have NXT : Hid (l[k].rt.pfx ≠ ⟨pa, pl⟩ → ∀ m (hm : m < l.length), m < k + 1 → l[m].rt.pfx ≠ ⟨pa, pl⟩) := Lib.hid (fun e m hm h => by
        rcases Nat.lt_or_ge m k with h' | h'
        · exact NO.out m hm h'
        · obtain rfl : m = k := by omega
          exact e)
      clear hcc1 NO
      generalize l[k] = x at *
      clear c
      obtain ⟨⟨⟨xa, xl⟩, xproto, xarea, xcost, xsecond, xcost2, xtag, xha, xhn, xhc⟩, hops⟩ := x
      simp only at d0 d1 YES NXT
      have p0 : ∀ n os, (Go.Sort.grow (wr.drewN n) os).cell? ⟨b1, o1 + k * 9, none⟩ = some (.int .u32 xa) := cell_grown (World.block_lt_of_cell? _ _ d0) d0
      have p1 : ∀ n os, (Go.Sort.grow (wr.drewN n) os).cell? ⟨b1, o1 + k * 9 + 1, none⟩ = some (.int .i64 xl) := cell_grown (World.block_lt_of_cell? _ _ d1) d1
      have y0 := blk_cell (i := 0) br rfl
      have y1 := blk_cell (i := 1) br rfl
      have y0 : ∀ n os, (Go.Sort.grow (wr.drewN n) os).cell? ⟨w.heap.size, 0, none⟩ = some (.int .u32 pa) := cell_grown (World.block_lt_of_cell? _ _ y0) y0
      have y1 : ∀ n os, (Go.Sort.grow (wr.drewN n) os).cell? ⟨w.heap.size, 1, none⟩ = some (.int .i64 pl) := cell_grown (World.block_lt_of_cell? _ _ y1) y1
      have EQ := fun W => eqPfx ⟨xa, xl⟩ ⟨pa, pl⟩ W
      clear br d0 d1
      by_cases he : (⟨xa, xl⟩ : Ls.Pfx) = ⟨pa, pl⟩
      · have Y := Lib.hid (YES.out he)
        simp only [decide_eq_true he] at EQ
        clear he YES NXT
        go_wp2_with fail
        refine wp_region_quiet_grown (by assumption) (by kernel_rfl) ?_
        repeat (go_big_quiet_step (fail))
        refine wpQuiet_nil ?_
        intro _ hw'
        obtain ⟨⟨nq, osq⟩, hw''⟩ := hw'
        subst hw''
        have FI := Lib.hid (Y.out _ (GR2.out nq osq))
        clear p0 p1 y0 y1 EQ
        go_wp2_with fail
        go_returns
        exact FI.out
      · have N := Lib.hid (NXT.out he)
        simp only [decide_eq_false he] at EQ
        clear he YES NXT
        go_wp2_with fail
        refine wp_region_quiet_grown (by assumption) (by kernel_rfl) ?_
        repeat (go_big_quiet_step (fail))
        refine wpQuiet_nil ?_
        intro _ hw'
        obtain ⟨⟨nq, osq⟩, hw''⟩ := hw'
        subst hw''
        have GZ := Lib.hid (GR.out nq osq)
        clear p0 p1 y0 y1 EQ
        go_wp2_with fail
        go_roundw
        case rel => exact ⟨k + 1, by go_num, KC.out, GZ, N⟩
        case measure => simp [intOf]; have := KC.out; omega
    · have E : Hid (FdPost w l ⟨pa, pl⟩ (.returned (.int .i64 (-1))) wr) := Lib.hid ⟨-1, rfl, G0.out.trans GG.out, .inl ⟨rfl, fun x hx => by
        obtain ⟨i, hi, rfl⟩ := List.getElem_of_mem hx
        exact NO.out i hi (by omega)⟩⟩
      clear NO
      go_wp2_with fail
      go_ret
      exact E.out

def usedP (y : Rch) (h : Ls.Hop) : Prop := y.border = true ∧ h ∈ y.hops

set_option maxHeartbeats 8000000 in
set_option maxRecDepth 100000 in
theorem used_calls (w : World) (v : Value) (l : List Rch) (hl : ReachAt w v l) (h : Ls.Hop) (hu : ∃ y ∈ l, usedP y h) :
    Calls Tryz.prog 19 #[v, .agg #[.int .i64 h.iface, .int .u32 h.addr, .int .u32 h.router]] w fun e w' => e = .returned (.bool true) ∧ Gr w w' := by
  obtain ⟨a1, c1, rfl, hlen, hc1⟩ := hl.get
  have HC1 := Lib.hid hc1
  have HHO := Lib.hid hl.hops
  have HU : Hid (¬ ∀ m (hm : m < l.length), ¬ usedP l[m] h) := Lib.hid (fun hn => by
    obtain ⟨y, hy, hp⟩ := hu
    obtain ⟨i, hi, rfl⟩ := List.getElem_of_mem hy
    exact hn i hi hp)
  have mixed : Tryz.prog.follows .mixedOrders = true := by kernel_rfl
  clear hl hc1 hu
  obtain ⟨H, hH⟩ : ∃ H, H = h := ⟨_, rfl⟩
  have HH := Lib.hid hH
  obtain ⟨W0, hW0⟩ : ∃ W0, w.alloc (.cells #[.int .i64 h.iface, .int .u32 h.addr, .int .u32 h.router] 60) = W0 := ⟨_, rfl⟩
  have b0 : W0.heap[w.heap.size]? = some (.cells #[.int .i64 h.iface, .int .u32 h.addr, .int .u32 h.router] 60 (0, 0)) := by rw [← hW0]; exact alloc_new w _
  have G0 : Hid (Gr w W0) := Lib.hid (by rw [← hW0]; exact (Gr.refl _).alloc _)
  have HB := Lib.hid b0
  have HW0 := Lib.hid hW0
  rw [← HH.out] at HU
  clear hW0 b0 hH
  obtain ⟨hi0, ha0, hr0⟩ := h
  simp only at HB HW0 ⊢
  go_enter Tryz.func19, Tryz.ntmps19
  go_upto_region 1 with fail
  rw [HW0.out]
  go_wp2_with fail
  go_loopw [9] (fun i wr => ∃ k : Nat, i = .int .i64 k ∧ k ≤ l.length ∧ Hid (Gr W0 wr) ∧ Hid (∀ m (hm : m < l.length), m < k → ¬ usedP l[m] H)) (fun i _ => l.length - (intOf i).toNat)
  case atStart => exact ⟨0, rfl, Nat.zero_le _, Lib.hid (Gr.refl _), Lib.hid (fun m _ hm => absurd hm (by omega))⟩
  case round =>
    obtain ⟨k, rfl, hk, GG, NO⟩ := hrel
    by_cases c : k < l.length
    · obtain ⟨b1, o1, rfl, hb1, hcc1⟩ := HC1.out (by omega)
      have BW := Lib.hid (G0.out.trans GG.out)
      have up : ∀ {o : Nat} {u : Value} {W : World}, Gr w W → w.cell? ⟨b1, o, none⟩ = some u → W.cell? ⟨b1, o, none⟩ = some u := fun {o u W} g hh => (World.cell?_of_block (w := w) (w' := W) (a := ⟨b1, o, none⟩) (g.b.block b1 hb1)).trans hh
      have CL : Hid (∀ W, Gr w W → W.cell? ⟨b1, o1 + k * 7 + 3, none⟩ = some (.bool l[k].border) ∧ W.cell? ⟨b1, o1 + k * 7 + 6, none⟩ = some (.slice l[k].ha l[k].hn l[k].hc)) := Lib.hid (fun W g => by
        obtain ⟨-, -, -, d3, -, -, d6⟩ := hcc1 k c
        exact ⟨up g d3, up g d6⟩)
      obtain ⟨-, d6⟩ := CL.out wr BW.out
      have HK : Hid (HopsAt w (.slice l[k].ha l[k].hn l[k].hc) l[k].hops) := Lib.hid (HHO.out _ (List.getElem_mem c))
      have NXT : Hid (¬ usedP l[k] H → ∀ m (hm : m < l.length), m < k + 1 → ¬ usedP l[m] H) := Lib.hid (fun e m hm h => by
        rcases Nat.lt_or_ge m k with h' | h'
        · exact NO.out m hm h'
        · obtain rfl : m = k := by omega
          exact e)
      have KC := Lib.hid c
      have n0 : (0 : Int) ≤ (k : Int) := by omega
      have n1 : (k : Int) < (l.length : Int) := by omega
      have n3 : ((k : Int)).toNat = k := by omega
      clear hcc1 NO up
      generalize l[k] = x at *
      clear c
      obtain ⟨xr, xa, xinter, xborder, xbound, xc, xha, xhn, xhc, xh⟩ := x
      obtain ⟨a3, c3, e3, h31, h32, -, hc3⟩ := HK.out.get
      have hxl : xh.length ≤ 9223372036854775807 := by simp only at h31; unfold maxLen at h32; omega
      clear h31 h32
      simp only [Value.slice.injEq] at e3
      obtain ⟨rfl, rfl, rfl⟩ := e3
      have HC3 := Lib.hid hc3
      simp only at d6 CL NXT
      clear HK hc3
      obtain ⟨W5, hW5⟩ : ∃ W5, W5 = wr := ⟨_, rfl⟩
      subst hW5
      go_wp2_with fail
      clear d6
      go_loopw [18] (fun i wx => ∃ m : Nat, i = .int .i64 m ∧ m ≤ xh.length ∧ Hid (Gr W5 wx) ∧ Hid (∀ q (hq : q < xh.length), q < m → ¬ (xborder = true ∧ xh[q] = H))) (fun i _ => xh.length - (intOf i).toNat)
      case atStart => exact ⟨0, rfl, Nat.zero_le _, Lib.hid (Gr.refl _), Lib.hid (fun m _ hm => absurd hm (by omega))⟩
      case round =>
        obtain ⟨m, rfl, hm, GX, NOX⟩ := hrel
        by_cases cm : m < xh.length
        · obtain ⟨b3, o3, rfl, hb3, hcc3⟩ := HC3.out (by omega)
          obtain ⟨t0, t1, t2⟩ := hcc3 m cm
          have BX := Lib.hid (BW.out.trans GX.out)
          obtain ⟨d3, d6⟩ := CL.out wr BX.out
          have t0 := bcell BX.out.b t0
          have t1 := bcell BX.out.b t1
          have t2 := bcell BX.out.b t2
          have br := (GX.out.b.block _ (blk_lt ((GG.out.b.block _ (blk_lt HB.out)).trans HB.out))).trans ((GG.out.b.block _ (blk_lt HB.out)).trans HB.out)
          have GR := Lib.hid (fun n os => GX.out.trans (Gr.of_grow (W := wr) n os))
          have GR2 := Lib.hid (fun n os => BX.out.trans (Gr.of_grow (W := wr) n os))
          have MC := Lib.hid cm
          have m0 : (0 : Int) ≤ (m : Int) := by omega
          have m1 : (m : Int) < (xh.length : Int) := by omega
          have m3 : ((m : Int)).toNat = m := by omega
          have NX2 : Hid (¬ (xborder = true ∧ xh[m] = H) → ∀ q (hq : q < xh.length), q < m + 1 → ¬ (xborder = true ∧ xh[q] = H)) := Lib.hid (fun e q hq h => by
            rcases Nat.lt_or_ge q m with h' | h'
            · exact NOX.out q hq h'
            · obtain rfl : q = m := by omega
              exact e)
          have y0 := blk_cell (i := 0) br rfl
          have y1 := blk_cell (i := 1) br rfl
          have y2 := blk_cell (i := 2) br rfl
          clear hcc3 NOX br
          generalize xh[m] = z at *
          clear cm
          obtain ⟨zi, za, zr⟩ := z
          simp only at t0 t1 t2
          have t0 : ∀ n os, (Go.Sort.grow (wr.drewN n) os).cell? ⟨b3, o3 + m * 3, none⟩ = some (.int .i64 zi) := cell_grown (World.block_lt_of_cell? _ _ t0) t0
          have t1 : ∀ n os, (Go.Sort.grow (wr.drewN n) os).cell? ⟨b3, o3 + m * 3 + 1, none⟩ = some (.int .u32 za) := cell_grown (World.block_lt_of_cell? _ _ t1) t1
          have t2 : ∀ n os, (Go.Sort.grow (wr.drewN n) os).cell? ⟨b3, o3 + m * 3 + 2, none⟩ = some (.int .u32 zr) := cell_grown (World.block_lt_of_cell? _ _ t2) t2
          have y0 : ∀ n os, (Go.Sort.grow (wr.drewN n) os).cell? ⟨w.heap.size, 0, none⟩ = some (.int .i64 hi0) := cell_grown (World.block_lt_of_cell? _ _ y0) y0
          have y1 : ∀ n os, (Go.Sort.grow (wr.drewN n) os).cell? ⟨w.heap.size, 1, none⟩ = some (.int .u32 ha0) := cell_grown (World.block_lt_of_cell? _ _ y1) y1
          have y2 : ∀ n os, (Go.Sort.grow (wr.drewN n) os).cell? ⟨w.heap.size, 2, none⟩ = some (.int .u32 hr0) := cell_grown (World.block_lt_of_cell? _ _ y2) y2
          have d3 : ∀ n os, (Go.Sort.grow (wr.drewN n) os).cell? ⟨b1, o1 + k * 7 + 3, none⟩ = some (.bool xborder) := cell_grown (World.block_lt_of_cell? _ _ d3) d3
          have d6 : ∀ n os, (Go.Sort.grow (wr.drewN n) os).cell? ⟨b1, o1 + k * 7 + 6, none⟩ = some (.slice (some ⟨b3, o3, none⟩) xh.length xhc) := cell_grown (World.block_lt_of_cell? _ _ d6) d6
          cases xborder with
          | false =>
            have N := Lib.hid (NX2.out (by simp))
            clear NX2
            go_wp2_with fail
            refine wp_region_quiet_grown (by assumption) (by kernel_rfl) ?_
            repeat (go_big_quiet_step (fail))
            refine wpQuiet_nil ?_
            intro _ hw'
            obtain ⟨⟨nq, osq⟩, hw''⟩ := hw'
            subst hw''
            have GZ := Lib.hid (GR.out nq osq)
            clear t0 t1 t2 y0 y1 y2 d3 d6
            go_wp2_with fail
            go_roundw
            case rel => exact ⟨m + 1, by go_num, MC.out, GZ, N⟩
            case measure => simp [intOf]; have := MC.out; omega
          | true =>
            have EQ := fun W => eqHop ⟨zi, za, zr⟩ ⟨hi0, ha0, hr0⟩ W
            by_cases he : (⟨zi, za, zr⟩ : Ls.Hop) = ⟨hi0, ha0, hr0⟩
            · simp only [decide_eq_true he] at EQ
              clear he NX2
              go_wp2_with fail
              refine wp_region_quiet_grown (by assumption) (by kernel_rfl) ?_
              repeat (go_big_quiet_step (fail))
              refine wpQuiet_nil ?_
              intro _ hw'
              obtain ⟨⟨nq, osq⟩, hw''⟩ := hw'
              subst hw''
              have FI := Lib.hid (GR2.out nq osq)
              clear t0 t1 t2 y0 y1 y2 d3 d6 EQ
              go_wp2_with fail
              go_returns
              exact ⟨rfl, FI.out⟩
            · have N := Lib.hid (NX2.out (fun h => he (h.2.trans HH.out)))
              simp only [decide_eq_false he] at EQ
              clear he NX2
              go_wp2_with fail
              refine wp_region_quiet_grown (by assumption) (by kernel_rfl) ?_
              repeat (go_big_quiet_step (fail))
              refine wpQuiet_nil ?_
              intro _ hw'
              obtain ⟨⟨nq, osq⟩, hw''⟩ := hw'
              subst hw''
              have GZ := Lib.hid (GR.out nq osq)
              clear t0 t1 t2 y0 y1 y2 d3 d6 EQ
              go_wp2_with fail
              go_roundw
              case rel => exact ⟨m + 1, by go_num, MC.out, GZ, N⟩
              case measure => simp [intOf]; have := MC.out; omega
        · have NK := Lib.hid (NXT.out (fun hp => by
            obtain ⟨hb, hmem⟩ := hp
            obtain ⟨q, hq, e⟩ := List.getElem_of_mem hmem
            exact NOX.out q hq (by simp only at hq; omega) ⟨hb, e⟩))
          have GZ := Lib.hid (GG.out.trans GX.out)
          clear NOX GX NXT CL HC3
          go_wp2_with fail
          go_roundw
          case rel => exact ⟨k + 1, by go_num, KC.out, GZ, NK⟩
          case measure => simp [intOf]; have := KC.out; omega
    · exact absurd (fun m hm => NO.out m hm (by omega)) HU.out

end Go.Proofs.YtogdconliofblaaGreat

namespace Go.Proofs.YtogdconliofblaaGreat
open Go.RowKit

theorem DbOk.mem {db : List LsaD} (h : DbOk db) {d : LsaD} (hd : d ∈ db) : OkD d := by
  obtain ⟨i, hi, rfl⟩ := List.getElem_of_mem hd
  have := (h i hi).1
  rw [dAt_eq hi] at this
  exact this.ok

section
variable {α : Type} [DecidableEq α] {g : α → Option Of} {p q : α} {o z : Of}
theorem tbAdd_self (g : α → Option Of) (p : α) (h : ¬ 16777216 < o.cost) : ∃ z, tbAdd g p o p = some z ∧ z.cost ≤ o.cost := by
  cases e : g p with
  | none => exact ⟨o, by rw [tbAdd_new h e]; simp [upd], Int.le_refl _⟩
  | some old =>
    rcases Int.lt_trichotomy o.cost old.cost with d | d | d
    · exact ⟨o, by rw [tbAdd_lt h e d]; simp [upd], Int.le_refl _⟩
    · exact ⟨⟨old.cost, Ls.merge Ls.hopLt old.hops o.hops⟩, by rw [tbAdd_eq h e d]; simp [upd], by simp only; omega⟩
    · exact ⟨old, by rw [tbAdd_gt h e d]; exact e, by omega⟩
theorem tbAdd_keep (p : α) (o : Of) (h : g q = some z) : ∃ z', tbAdd g p o q = some z' ∧ z'.cost ≤ z.cost := by
  by_cases c : 16777216 < o.cost
  · exact ⟨z, by rw [tbAdd_big c]; exact h, Int.le_refl _⟩
  by_cases e : q = p
  · subst e
    rcases Int.lt_trichotomy o.cost z.cost with d | d | d
    · exact ⟨o, by rw [tbAdd_lt c h d]; simp [upd], by omega⟩
    · exact ⟨⟨z.cost, Ls.merge Ls.hopLt z.hops o.hops⟩, by rw [tbAdd_eq c h d]; simp [upd], Int.le_refl _⟩
    · exact ⟨z, by rw [tbAdd_gt c h d]; exact h, Int.le_refl _⟩
  · have up : ∀ x : Of, upd g p x q = some z := fun x => by simp [upd, e, h]
    refine ⟨z, ?_, Int.le_refl _⟩
    cases e2 : g p with
    | none => rw [tbAdd_new c e2]; exact up o
    | some old =>
      rcases Int.lt_trichotomy o.cost old.cost with d | d | d
      · rw [tbAdd_lt c e2 d]; exact up o
      · rw [tbAdd_eq c e2 d]; exact up _
      · rw [tbAdd_gt c e2 d]; exact h
theorem tbAdd_hops {P : Ls.Hop → Prop} (hg : ∀ q x, g q = some x → ∀ h ∈ x.hops, P h) (ho : ∀ h ∈ o.hops, P h) : ∀ q x, tbAdd g p o q = some x → ∀ h ∈ x.hops, P h := by
  intro q x hx
  have up : ∀ z : Of, (∀ h ∈ z.hops, P h) → upd g p z q = some x → ∀ h ∈ x.hops, P h := by
    intro z hz h
    unfold upd at h
    split at h
    · cases h; exact hz
    · exact hg q x h
  by_cases c : 16777216 < o.cost
  · rw [tbAdd_big c] at hx; exact hg q x hx
  · cases e : g p with
    | none => rw [tbAdd_new c e] at hx; exact up o ho hx
    | some old =>
      rcases Int.lt_trichotomy o.cost old.cost with d | d | d
      · rw [tbAdd_lt c e d] at hx; exact up o ho hx
      · rw [tbAdd_eq c e d] at hx
        refine up _ (fun h hm => ?_) hx
        rcases (Ls.mem_merge _ _ _).1 hm with h1 | h1
        · exact hg p old e h h1
        · exact ho h h1
      · rw [tbAdd_gt c e d] at hx; exact hg q x hx
end

theorem ofK_best (area router : Int) (reach : List Rch) (db : List Lsa) {y : Rch} : ∀ k, k ≤ db.length → ∀ i, i < k → ∀ (hl : i < db.length), inK 3 router db[i] = true → wayF area db[i].router reach = some y → ¬ 16777216 < y.cost + db[i].cost →
    ∃ z, ofK area router reach db k (lsaPfx db[i]) = some z ∧ z.cost ≤ y.cost + db[i].cost
  | 0, _, i, hi, _, _, _, _ => absurd hi (by omega)
  | k + 1, hk, i, hi, hl, h1, h2, h3 => by
    rw [ofK_succ area router reach db (show k < db.length by omega)]
    unfold ofStep
    rcases Nat.lt_or_ge i k with h' | h'
    · obtain ⟨z, hz, hc⟩ := ofK_best area router reach db k (by omega) i h' hl h1 h2 h3
      split
      · cases e : wayF area (db[k]'(by omega)).router reach with
        | none => exact ⟨z, hz, hc⟩
        | some y' =>
          obtain ⟨z', hz', hc'⟩ := tbAdd_keep (lsaPfx (db[k]'(by omega))) (ofO (db[k]'(by omega)) y') hz
          exact ⟨z', hz', by omega⟩
      · exact ⟨z, hz, hc⟩
    · obtain rfl : i = k := by omega
      rw [if_pos h1, h2]
      exact tbAdd_self (o := ofO db[i] y) _ _ h3

theorem wayF_border {area router : Int} {l : List Rch} {y : Rch} (h : wayF area router l = some y) : y.border = true := by
  have := List.find?_some h
  simp [wayM] at this
  exact this.1.2

theorem ofK_hops (area router : Int) (reach : List Rch) (db : List Lsa) : ∀ k, k ≤ db.length → ∀ p x, ofK area router reach db k p = some x → ∀ h ∈ x.hops, ∃ y ∈ reach, usedP y h
  | 0, _, p, x, h => by cases h
  | k + 1, hk, p, x, h => by
    have ih := ofK_hops area router reach db k (by omega)
    rw [ofK_succ area router reach db (show k < db.length by omega)] at h
    unfold ofStep at h
    split at h
    · cases e : wayF area (db[k]'(by omega)).router reach with
      | none => rw [e] at h; exact ih p x h
      | some y =>
        rw [e] at h
        refine tbAdd_hops (P := fun h => ∃ y ∈ reach, usedP y h) ih (fun u hu => ?_) p x h
        have hm : u ∈ Ls.merge Ls.hopLt y.hops [] := hu
        rcases (Ls.mem_merge _ _ _).1 hm with h1 | h1
        · exact ⟨y, wayF_mem e, wayF_border e, h1⟩
        · cases h1
    · exact ih p x h

theorem routes_at {area : Int} {g : Ls.Pfx → Option Of} {l : List RtH} (hm : ∀ r, r ∈ l.map RtH.pure ↔ pfxOk r.pfx ∧ ∃ o, g r.pfx = some o ∧ r = orP area r.pfx o) {p : Ls.Pfx} {z : Of} (hp : pfxOk p) (hg : g p = some z) :
    (∃ y ∈ l, y.rt.pfx = p) ∧ ∀ y ∈ l, y.rt.pfx = p → y.rt.cost = z.cost := by
  constructor
  · have := (hm (orP area p z)).2 ⟨hp, z, hg, rfl⟩
    obtain ⟨y, hy, e⟩ := List.mem_map.1 this
    refine ⟨y, hy, ?_⟩
    have : y.pure.pfx = (orP area p z).pfx := by rw [e]
    exact this
  · intro y hy hp'
    obtain ⟨_, o, ho, e⟩ := (hm y.pure).1 (List.mem_map.2 ⟨y, hy, rfl⟩)
    have e1 : y.pure.pfx = p := hp'
    rw [e1, hg] at ho
    cases ho
    have : y.pure.cost = (orP area y.pure.pfx z).cost := congrArg Rp.cost e
    exact this

theorem routes_hops {area : Int} {g : Ls.Pfx → Option Of} {l : List RtH} (hm : ∀ r, r ∈ l.map RtH.pure ↔ pfxOk r.pfx ∧ ∃ o, g r.pfx = some o ∧ r = orP area r.pfx o) {P : Ls.Hop → Prop} (hg : ∀ p x, g p = some x → ∀ h ∈ x.hops, P h) : ∀ y ∈ l, ∀ h ∈ y.hops, P h := by
  intro y hy h hh
  obtain ⟨_, o, ho, e⟩ := (hm y.pure).1 (List.mem_map.2 ⟨y, hy, rfl⟩)
  have : y.pure.hops = (orP area y.pure.pfx o).hops := congrArg Rp.hops e
  have h2 : y.hops = o.hops := this
  rw [h2] at hh
  exact hg _ _ ho h hh

/-- a valid summary's prefix is what its header tells -/
theorem sum_pfx {d : LsaD} (h : OkD d) (ht : d.x.typ = 3) : lsaPfx d.x = ⟨d.x.id, d.x.len⟩ := by
  have := h.fit (.inl ht)
  unfold fitsB validP at this
  simp only [Bool.and_eq_true, decide_eq_true_eq] at this
  unfold lsaPfx
  rw [this.2]

end Go.Proofs.YtogdconliofblaaGreat

namespace Go.Proofs.YtogdconliofblaaGreat
open Go.RowKit

def keptB (into : Int) (r : Rt) : Bool := !decide (r.area = into) && (!decide (into = 0) || decide (r.proto = 3))

theorem rngK_none (l : List Arg) (r : Rt) (q : Int → Option Int) (h : r.proto ≠ 3) : ∀ k, rngK l r q k = (false, q)
  | 0 => rfl
  | k + 1 => by
    unfold rngK
    have : takB l (argAt l k) r = false := by simp [takB, covB, h]
    rw [this, if_neg (by simp)]
    exact rngK_none l r q h k

theorem sumOne_skip (l : List Arg) (into : Int) (s : SmS) (r : Rt) (h : keptB into r = false) : sumOne l into s r = s := by
  unfold sumOne
  by_cases u : useB into r = true
  · rw [if_pos u]
    have hp : into = 0 ∧ r.proto ≠ 3 := by
      simp only [useB, Bool.and_eq_true, Bool.not_eq_true', decide_eq_false_iff_not] at u
      simp only [keptB, Bool.and_eq_false_iff, Bool.not_eq_false', decide_eq_true_eq, Bool.or_eq_false_iff, decide_eq_false_iff_not] at h
      rcases h with h | h
      · exact absurd h u.1
      · exact h
    rw [rngK_none l r s.2 hp.2]
    have ho : ownB into r false = false := by simp [ownB, hp.1, hp.2]
    simp only [ho, Bool.false_eq_true, if_false]
  · rw [if_neg u]

theorem sumK_all (l : List Arg) (into : Int) (rs : List RtH) : sumK l into rs rs.length = (rs.map RtH.rt).foldl (sumOne l into) (fun _ => none, fun _ => none) := by
  unfold sumK
  rw [List.take_of_length_le (by simp)]

theorem sumK_kept (l : List Arg) (into : Int) (rs : List RtH) : sumK l into (rs.filter fun y => keptB into y.rt) (rs.filter fun y => keptB into y.rt).length = sumK l into rs rs.length := by
  rw [sumK_all, sumK_all]
  generalize ((fun _ => none, fun _ => none) : SmS) = s
  induction rs generalizing s with
  | nil => rfl
  | cons r rs ih =>
    cases h : keptB into r.rt with
    | true =>
      rw [List.filter_cons_of_pos (by simpa using h), List.map_cons, List.map_cons, List.foldl_cons, List.foldl_cons]
      exact ih _
    | false =>
      rw [List.filter_cons_of_neg (by simp [h]), List.map_cons, List.foldl_cons, sumOne_skip _ _ _ _ h]
      exact ih _

theorem asc_eq {α : Type} {R : α → α → Prop} (irr : ∀ a, ¬ R a a) (tr : ∀ a b c, R a b → R b c → R a c) : ∀ L L' : List α, L.Pairwise R → L'.Pairwise R → (∀ x, x ∈ L ↔ x ∈ L') → L = L'
  | [], [], _, _, _ => rfl
  | [], y :: L', _, _, h => absurd ((h y).2 (by simp)) (by simp)
  | x :: L, [], _, _, h => absurd ((h x).1 (by simp)) (by simp)
  | x :: L, y :: L', h1, h2, h => by
    have hx := List.pairwise_cons.1 h1
    have hy := List.pairwise_cons.1 h2
    have e : x = y := by
      rcases List.mem_cons.1 ((h x).1 (by simp)) with e | e
      · exact e
      · rcases List.mem_cons.1 ((h y).2 (by simp)) with f | f
        · exact f.symm
        · exact absurd (tr _ _ _ (hx.1 y f) (hy.1 x e)) (irr x)
    subst e
    rw [asc_eq irr tr L L' hx.2 hy.2 fun z => ?_]
    constructor
    · intro hz
      rcases List.mem_cons.1 ((h z).1 (List.mem_cons_of_mem _ hz)) with e | e
      · subst e; exact absurd (hx.1 z hz) (irr z)
      · exact e
    · intro hz
      rcases List.mem_cons.1 ((h z).2 (List.mem_cons_of_mem _ hz)) with e | e
      · subst e; exact absurd (hy.1 z hz) (irr z)
      · exact e

theorem lk_irr (a : Lsa) : ¬ kkCmp (lkOf a) (lkOf a) < 0 := by rw [kk_neg]; omega
theorem lk_tr (a b c : Lsa) (h1 : kkCmp (lkOf a) (lkOf b) < 0) (h2 : kkCmp (lkOf b) (lkOf c) < 0) : kkCmp (lkOf a) (lkOf c) < 0 := by
  rw [kk_neg] at *; omega

theorem SuIs.one {C : Cfg} {lr : List Arg} {into : Int} {rs rs' : List RtH} {l : List Rch} {L L' : List Lsa} (h : SuIs C lr into rs l L) (h' : SuIs C lr into rs' l L') (e : sumK lr into rs rs.length = sumK lr into rs' rs'.length) : L = L' := by
  obtain ⟨asc, g, hg, hm⟩ := h
  obtain ⟨asc', g', hg', hm'⟩ := h'
  have : MinF (SumS lr into rs) g' := hg'.congr fun p c => by unfold SumS; rw [e]
  obtain rfl := hg.one this
  exact asc_eq lk_irr lk_tr L L' asc asc' fun x => by rw [hm, hm']

theorem SuIs.kept {C : Cfg} {lr : List Arg} {into : Int} {rs : List RtH} {l : List Rch} {L L' : List Lsa} (h : SuIs C lr into rs l L) (h' : SuIs C lr into (rs.filter fun y => keptB into y.rt) l L') : L = L' := h.one h' (sumK_kept lr into rs).symm

theorem SuIs.bare {C : Cfg} {lr : List Arg} {into : Int} {rs : List RtH} {l : List Rch} {L : List Lsa} (h : SuIs C lr into rs l L) : ∀ x ∈ L, x.ln = 0 ∧ x.an = 0 := by
  intro x hx
  obtain ⟨asc, g, hg, hm⟩ := h
  rcases (hm x).1 hx with ⟨p, c, _, _, rfl⟩ | ⟨r, c, _, _, rfl⟩ <;> exact ⟨rfl, rfl⟩

end Go.Proofs.YtogdconliofblaaGreat

namespace Go.Proofs.YtogdconliofblaaGreat
open Go.RowKit

def rsel (area : Int) (L : List OfP) (p : Ls.Pfx) : Option Rp := (bsK L p L.length).map (orP area p)

/-- the routes to k prefixes are put out -/
structure RtW (W1 : World) (area : Int) (L : List OfP) (ps : List Ls.Pfx) (k : Nat) (out : List RtH) (v : Value) (wr : World) : Prop where
  hk : k ≤ ps.length
  eq : out.map RtH.pure = (ps.take k).filterMap (rsel area L)
  own : RtsOwn W1.heap.size wr v (out.map RtH.rt)
  hops : ∀ x ∈ out, HopsAt wr x.rt.hv x.hops
  sep : ∀ x ∈ out, ∀ b, x.rt.hv.ownBlock = some b → v.ownBlock ≠ some b ∧ b < wr.heap.size
  len : out.length ≤ k
  bel : Below W1.heap.size W1 wr
theorem RtW.start (W1 : World) (area : Int) (L : List OfP) (ps : List Ls.Pfx) : RtW W1 area L ps 0 [] (.slice (some ⟨W1.heap.size, 0, none⟩) 0 0) (W1.alloc (.cells #[] 57)) := by
  refine ⟨Nat.zero_le _, rfl, ?_, (fun x hx => by cases hx), (fun x hx => by cases hx), Nat.le_refl _, (Below.refl _ _).alloc (Nat.le_refl _) _⟩
  have := World.ownsRow_made (size := 9) (e := 57) (base := W1.heap.size) W1 #[] 0 (by simp) (by unfold maxLen; omega) rfl
  simpa [RtsOwn] using this
theorem RtW.below {W1 : World} {area : Int} {L : List OfP} {ps : List Ls.Pfx} {k : Nat} {out : List RtH} {v : Value} {wr W' : World} (R : RtW W1 area L ps k out v wr) (hb : Below wr.heap.size wr W') : RtW W1 area L ps k out v W' :=
  ⟨R.hk, R.eq, World.ownsRow.kept (row := none) R.own (grown_of_below hb none) (by cases v.ownBlock <;> simp), fun x hx => (R.hops x hx).below hb, fun x hx b h => ⟨(R.sep x hx b h).1, Nat.lt_of_lt_of_le (R.sep x hx b h).2 hb.size⟩, R.len, R.bel.trans (hb.mono R.bel.size)⟩
theorem RtW.skip {W1 : World} {area : Int} {L : List OfP} {ps : List Ls.Pfx} {k : Nat} {out : List RtH} {v : Value} {wr W' : World} (R : RtW W1 area L ps k out v wr) (c : k < ps.length) (h : bsK L ps[k] L.length = none) (hb : Below wr.heap.size wr W') : RtW W1 area L ps (k + 1) out v W' := by
  have R' := R.below hb
  refine ⟨c, ?_, R'.own, R'.hops, R'.sep, by have := R'.len; omega, R'.bel⟩
  rw [List.take_succ_eq_append_getElem c, List.filterMap_append, ← R.eq]
  have : rsel area L ps[k] = none := by unfold rsel; rw [h]; rfl
  simp [this]
theorem RtW.push {W1 : World} {area : Int} {L : List OfP} {ps : List Ls.Pfx} {k : Nat} {out : List RtH} {v v' : Value} {wr W w4 : World} (R : RtW W1 area L ps k out v wr) (c : k < ps.length) {z : Of} (h : bsK L ps[k] L.length = some z) (hb : Below wr.heap.size wr W)
    {x : RtH} (hx : x.pure = orP area ps[k] z) (hh : HopsAt W x.rt.hv x.hops) (hf : ∀ b, x.rt.hv.ownBlock = some b → wr.heap.size ≤ b ∧ b < W.heap.size)
    (own' : w4.ownsRow W1.heap.size 57 9 v' ((out.map RtH.rt).length + 1) (((out.map RtH.rt).map rtE).flatten ++ rtE x.rt)) (hg4 : W.grownBy w4 v.ownBlock) (d : v'.ownBlock = v.ownBlock ∨ v'.ownBlock = some W.heap.size) : RtW W1 area L ps (k + 1) (out ++ [x]) v' w4 := by
  have R' := R.below hb
  have sepx : ∀ y ∈ out ++ [x], ∀ b, y.rt.hv.ownBlock = some b → v.ownBlock ≠ some b ∧ b < W.heap.size := by
    intro y hy b hb'
    rcases List.mem_append.1 hy with hy | hy
    · exact R'.sep y hy b hb'
    · rw [List.mem_singleton] at hy
      subst hy
      obtain ⟨h1, h2⟩ := hf b hb'
      refine ⟨fun e => ?_, h2⟩
      have := (World.ownsRow.lt R.own b e).2
      omega
  refine ⟨c, ?_, ?_, fun y hy => ?_, fun y hy b hb' => ?_, by have := R.len; rw [List.length_append, List.length_singleton]; omega, R'.bel.grown hg4 R'.bel.size (fun j hj => (World.ownsRow.lt R'.own j hj).1)⟩
  · rw [List.take_succ_eq_append_getElem c, List.filterMap_append, List.map_append, R.eq]
    have : rsel area L ps[k] = some (orP area ps[k] z) := by unfold rsel; rw [h]; rfl
    simp [this, hx]
  · unfold RtsOwn
    rw [List.map_append, List.length_append, List.map_append, List.flatten_append]
    simpa using own'
  · have hy0 : HopsAt W y.rt.hv y.hops := by
      rcases List.mem_append.1 hy with h1 | h1
      · exact R'.hops y h1
      · rw [List.mem_singleton] at h1
        subst h1; exact hh
    exact SlV.kept hy0 hg4 fun b off n c e => (sepx y hy b (by rw [e]; rfl)).1
  · obtain ⟨h1, h2⟩ := sepx y hy b hb'
    refine ⟨?_, Nat.lt_of_lt_of_le h2 hg4.size⟩
    rcases d with d | d
    · rw [d]; exact h1
    · rw [d]; intro e; cases e; omega
theorem RtW.at {W1 : World} {area : Int} {L : List OfP} {ps : List Ls.Pfx} {k : Nat} {out : List RtH} {v : Value} {wr : World} (R : RtW W1 area L ps k out v wr) : RoutesAt wr v out := by
  refine ⟨?_, R.hops⟩
  have e : out.map (fun x => rtE x.rt) = (out.map RtH.rt).map rtE := by rw [List.map_map]; rfl
  rw [e]
  exact SlV.of_own (rtE_len _) (by simpa [RtsOwn] using R.own)

def Rt3Post (w : World) (area : Int) (L : List OfP) (e : Ending) (w' : World) : Prop := ∃ v l, e = .returned v ∧ RoutesAt w' v l ∧ l.map RtH.pure = (Ls.adds Ls.pfxLt [] (L.map OfP.pfx)).filterMap (rsel area L) ∧ Below w.heap.size w w'

set_option maxHeartbeats 8000000 in
set_option maxRecDepth 100000 in
theorem rroutes33_calls (w : World) (area router : Int) (vd : Value) (db : List Lsa) (hd : LsasAt w vd db) (vr : Value) (reach : List Rch) (hr : ReachAt w vr reach) (cost : ∀ x ∈ db, x.typ = 3 → 0 ≤ x.cost ∧ x.cost ≤ 16777216) (rc : ∀ y ∈ reach, costFine y.cost) (n1 : db.length ≤ 200) (hM : hopSum reach ≤ 1048576) :
    Calls Tryz.prog 26 #[.agg #[.int .u32 area, vd], .int .u32 router, vr] w (Rt3Post w area (rfL 3 area router reach db db.length)) := by
  obtain ⟨i0, hi0, hz0, hz1, hz2⟩ := info_parts Tryz.infoRt
  have HI0 := Lib.hid hi0
  have HZ0 := Lib.hid hz0
  have HZ1 := Lib.hid hz1
  have HZ2 := Lib.hid hz2
  have OF := Lib.hid (fun W (hb : Below w.heap.size w W) => roffers_calls W 3 area router vd db (hd.below hb) vr reach (hr.below hb) cost rc n1)
  have hl1 := rfL_len 3 area router reach db db.length
  have LC : Hid (∀ o ∈ rfL 3 area router reach db db.length, 0 ≤ o.cost) := Lib.hid (fun o ho => by
    obtain ⟨x, hx, y, h1, h2, -, rfl⟩ := rfL_hops ho
    have h3 := (rc y (wayF_mem h2)).1
    have t3 : x.typ = 3 := by
      unfold inK at h1
      simp only [Bool.and_eq_true, decide_eq_true_eq] at h1
      exact h1.1.1
    have h4 := (cost x hx t3).1
    show 0 ≤ y.cost + x.cost
    omega)
  have LM : Hid (∀ o ∈ rfL 3 area router reach db db.length, o.hops.length ≤ 1048576) := Lib.hid (fun o ho => by
    obtain ⟨x, hx, y, h1, h2, -, rfl⟩ := rfL_hops ho
    have := hops_le (wayF_mem h2)
    show y.hops.length ≤ 1048576
    omega)
  obtain ⟨da, dc, e1, -, -⟩ := hd.get
  obtain ⟨ra, rcap, e2, -, -⟩ := hr.get
  subst e1 e2
  have N1 : Hid ((rfL 3 area router reach db db.length).length ≤ 200) := Lib.hid (by omega)
  clear hd hr cost rc n1 hM hl1 hi0 hz0 hz1 hz2
  generalize rfL 3 area router reach db db.length = L at *
  obtain ⟨WA, hWA⟩ : ∃ WA, w.alloc (.cells #[.int .u32 area, .slice da db.length dc] 36) = WA := ⟨_, rfl⟩
  have BA : Below w.heap.size w WA := by rw [← hWA]; exact (Below.refl _ _).alloc (Nat.le_refl _) _
  have bA : WA.heap[w.heap.size]? = some (.cells #[.int .u32 area, .slice da db.length dc] 36 (0, 0)) := by rw [← hWA]; exact alloc_new w _
  have OFA := Lib.hid (OF.out WA BA)
  have y0 := blk_cell (i := 0) bA rfl
  have y1 := blk_cell (i := 1) bA rfl
  have HWA := Lib.hid hWA
  have HBA := Lib.hid BA
  have HXA := Lib.hid bA
  clear hWA BA bA OF
  go_enter Tryz.func26, Tryz.ntmps26
  go_upto_region 1 with fail
  rw [HWA.out]
  go_wp2_with fail
  refine OFA.out.mono ?_
  rintro e w1 ⟨vL, rfl, OL, B1⟩
  have HB1 := Lib.hid (HBA.out.trans (B1.mono HBA.out.size))
  have HX1 := Lib.hid ((B1.block _ (blk_lt HXA.out)).trans HXA.out)
  have HOL := Lib.hid OL
  obtain ⟨La, Lcap, eL, -, -, -, -⟩ := OL.sl
  rw [List.length_map] at eL
  subst eL
  obtain ⟨W2, hW2⟩ : ∃ W2, w1.alloc (.cells #[] 57) = W2 := ⟨_, rfl⟩
  have B2 : Below w1.heap.size w1 W2 := by rw [← hW2]; exact (Below.refl _ _).alloc (Nat.le_refl _) _
  have S0 : Hid (∀ ps, RtW w1 area L ps 0 [] (.slice (some ⟨w1.heap.size, 0, none⟩) 0 0) W2) := Lib.hid (fun ps => by rw [← hW2]; exact RtW.start w1 area L ps)
  have PC := Lib.hid (prefixes2_calls W2 _ (L.map OfP.pfx) (OL.below B2).prefixes (by rw [List.length_map]; have := N1.out; omega))
  have HWS : Hid (W2.heap.size = w1.heap.size + 1) := Lib.hid (by rw [← hW2]; simp)
  have HB2 := Lib.hid B2
  have HW2 := Lib.hid hW2
  clear y0 y1 OL B1 OFA HXA HWA hW2 B2
  go_upto_region 3 with fail
  rw [HW2.out]
  clear HW2
  go_wp2_with fail
  refine PC.out.mono ?_
  rintro e w3 ⟨vP, rfl, HP, B3, FP⟩
  have S3 := Lib.hid ((S0.out (Ls.adds Ls.pfxLt [] (L.map OfP.pfx))).below B3)
  have HPP := Lib.hid HP
  have PL : Hid ((Ls.adds Ls.pfxLt [] (L.map OfP.pfx)).length ≤ 200) := Lib.hid (by
    have h1 := Ls.adds_len (lt := Ls.pfxLt) (L.map OfP.pfx) []
    simp only [List.length_nil, List.length_map] at h1
    have := N1.out
    omega)
  have HB3 := Lib.hid (HB2.out.trans (B3.mono HB2.out.size))
  clear S0 B3 PC HB2
  generalize hps : Ls.adds Ls.pfxLt [] (L.map OfP.pfx) = ps at *
  have HPS := Lib.hid hps
  have HFP := Lib.hid FP
  have W2S : Hid (W2.heap.size = w1.heap.size + 1) := Lib.hid (by have := HWS.out; exact this)
  obtain ⟨Pa, Pcap, rfl, hPl, hPc⟩ := HP.get
  have HPC := Lib.hid hPc
  clear HP hPc hps FP
  have OJ0 : Hid (∀ j, (Value.slice (some ⟨w1.heap.size, 0, none⟩) 0 0).ownBlock = some j → j = w1.heap.size ∨ w3.heap.size ≤ j) := Lib.hid (fun j hj => by
    have hj : w1.heap.size = j := by simpa [Value.ownBlock] using hj
    exact .inl hj.symm)
  go_wp2_with fail
  go_loopw [8, 10] (fun vo iv wr => ∃ (k : Nat) (out : List RtH), iv = .int .i64 k ∧ Hid (RtW w1 area L ps k out vo wr) ∧ Hid (w3.heap.size ≤ wr.heap.size ∧ ∀ b, w1.heap.size < b → b < w3.heap.size → wr.heap[b]? = w3.heap[b]?) ∧ Hid (∀ j, vo.ownBlock = some j → j = w1.heap.size ∨ w3.heap.size ≤ j)) (fun _ i _ => ps.length - (intOf i).toNat)
  case atStart => exact ⟨0, [], rfl, S3, Lib.hid ⟨Nat.le_refl _, fun _ _ _ => rfl⟩, OJ0⟩
  case round =>
    clear S3 OJ0
    obtain ⟨k, out, rfl, S, GG, OJ⟩ := hrel
    obtain ⟨vO, hvO⟩ : ∃ z, z = u8 := ⟨_, rfl⟩
    subst hvO
    by_cases c : k < ps.length
    · obtain ⟨b, off, rfl, hb0, hcc⟩ := HPC.out (by omega)
      obtain ⟨d0, d1⟩ := hcc k c
      have HBF : Hid (w1.heap.size < b) := Lib.hid (by have h1 := (HFP.out b rfl).1; have h2 := W2S.out; omega)
      have d0 := (World.cell?_of_block (w := w3) (w' := wr) (a := ⟨b, off + k * 2, none⟩) (GG.out.2 b HBF.out hb0)).trans d0
      have d1 := (World.cell?_of_block (w := w3) (w' := wr) (a := ⟨b, off + k * 2 + 1, none⟩) (GG.out.2 b HBF.out hb0)).trans d1
      have B1r := S.out.bel
      have bx := (B1r.block _ (blk_lt HX1.out)).trans HX1.out
      have HXR := Lib.hid bx
      have BC := Lib.hid (best32_calls wr _ L (HOL.out.below B1r) ps[k] N1.out LC.out LM.out)
      have SKP := Lib.hid (fun h W' hb => S.out.skip c h (W' := W') hb)
      have PU := Lib.hid (fun v' W w4 z x (h : bsK L ps[k] L.length = some z) (hb : Below wr.heap.size wr W) hx hh hf own' hg4 d => S.out.push (v' := v') (W := W) (w4 := w4) c (z := z) h hb (x := x) hx hh hf own' hg4 d)
      have OWN := Lib.hid (fun W' (hb : Below wr.heap.size wr W') => (S.out.below hb).own)
      have IV := Lib.hid (fun z (h : bsK L ps[k] L.length = some z) => (bsK_inv ps[k] LC.out LM.out L.length (Nat.le_refl _) z h).1)
      have KC := Lib.hid c
      have n0 : (0 : Int) ≤ (k : Int) := by omega
      have n1 : (k : Int) < (ps.length : Int) := by omega
      have n3 : ((k : Int)).toNat = k := by omega
      have K1 : Hid ((out.map RtH.rt).length + 1 ≤ maxLen) := Lib.hid (by have h1 := S.out.len; have h2 := PL.out; rw [List.length_map]; unfold maxLen; omega)
      have K2 : Hid (((out.map RtH.rt).length + 1) * 88 ≤ 140737488355328) := Lib.hid (by have h1 := S.out.len; have h2 := PL.out; rw [List.length_map]; omega)
      have BSZ := Lib.hid S.out.bel.size
      have HHD := Lib.hid (hcc k c)
      have HBL := Lib.hid hb0
      have OWL := Lib.hid (fun j hj => World.ownsRow.lt S.out.own j hj)
      clear hcc S bx B1r
      generalize bsK L ps[k] L.length = s at *
      generalize ps[k] = p at *
      obtain ⟨pa, pl⟩ := p
      simp only at d0 d1 BC HHD
      go_wp2_with fail
      refine BC.out.mono ?_
      rintro e w5 ⟨vH, rfl, HH, B5, FR⟩
      have HB5 := Lib.hid B5
      have HF5 := Lib.hid FR
      have HHH := Lib.hid HH
      have G5 : Hid (w3.heap.size ≤ w5.heap.size ∧ ∀ b, w1.heap.size < b → b < w3.heap.size → w5.heap[b]? = w3.heap[b]?) := Lib.hid ⟨Nat.le_trans GG.out.1 B5.size, fun b h1 h2 => (B5.block b (Nat.lt_of_lt_of_le h2 GG.out.1)).trans (GG.out.2 b h1 h2)⟩
      clear d0 d1 BC
      cases s with
      | none =>
        have NX := Lib.hid (SKP.out rfl _ HB5.out)
        simp only [bsC]
        clear SKP PU OWN K1 K2 BSZ HHD HBL HH B5 FR HF5 HHH HB5 GG IV HXR
        go_wp2_with fail
        go_roundw
        case rel => exact ⟨k + 1, out, by go_num, NX, G5, OJ⟩
        case measure => simp [intOf]; have := KC.out; omega
      | some z =>
        have hz := IV.out z rfl
        obtain ⟨zc, zh⟩ := z
        simp only [bsC, bsH] at HH HHH hz ⊢
        have g0 : decide (0 ≤ zc) = true := decide_eq_true hz
        obtain ⟨ha, hcp, eH, -, -, -, -⟩ := HH.get
        generalize hhn : zh.length = hn at eH
        subst eH
        clear hz HH B5 FR IV SKP hhn
        go_upto_region 9 with fail
        --R9
        have e0 := (World.cell?_of_block (w := w3) (w' := w5) (a := ⟨b, off + k * 2, none⟩) (G5.out.2 b HBF.out HBL.out)).trans HHD.out.1
        have e1 := (World.cell?_of_block (w := w3) (w' := w5) (a := ⟨b, off + k * 2 + 1, none⟩) (G5.out.2 b HBF.out HBL.out)).trans HHD.out.2
        have y0 := blk_cell (i := 0) ((HB5.out.block _ (blk_lt HXR.out)).trans HXR.out) rfl
        obtain ⟨W9, hW9⟩ : ∃ W9, (w5.alloc (.cells #[.int .u32 pa, .int .i64 pl, .int .i64 4, .int .u32 area, .int .i64 zc, .bool false, .int .i64 0, .int .i64 0, .slice ha hn hcp] 57)).drew = W9 := ⟨_, rfl⟩
        have B9 : Below w5.heap.size w5 W9 := by rw [← hW9]; exact ((Below.refl _ _).alloc (Nat.le_refl _) _).drew
        have b9 : W9.heap[w5.heap.size]? = some (.cells #[.int .u32 pa, .int .i64 pl, .int .i64 4, .int .u32 area, .int .i64 zc, .bool false, .int .i64 0, .int .i64 0, .slice ha hn hcp] 57 (0, 0)) := by rw [← hW9]; exact alloc_new w5 _
        have BR9 := HB5.out.trans (B9.mono HB5.out.size)
        have z9 : W9.heap.size = w5.heap.size + 1 := by rw [← hW9]; simp [World.drew]
        have OW9 := Lib.hid (OWN.out W9 BR9)
        have NEWS := Lib.hid (World.news_of_block b9)
        have ONE : Hid (∀ u ∈ ([.int .u32 pa, .int .i64 pl, .int .i64 4, .int .u32 area, .int .i64 zc, .bool false, .int .i64 0, .int .i64 0, .slice ha hn hcp] : List Value), u.oneCell' = true) := Lib.hid (fun u hu => rtE_one ⟨⟨pa, pl⟩, 4, area, zc, false, 0, 0, ha, hn, hcp⟩ u hu)
        have BS : Hid (w1.heap.size ≤ W9.heap.size) := Lib.hid (Nat.le_trans BSZ.out BR9.size)
        have PK := Lib.hid (fun v' w4 own' hg4 d => PU.out v' W9 w4 ⟨zc, zh⟩ ⟨⟨⟨pa, pl⟩, 4, area, zc, false, 0, 0, ha, hn, hcp⟩, zh⟩ rfl BR9 rfl (HHH.out.below B9) (fun b hb => ⟨(HF5.out b hb).1, Nat.lt_of_lt_of_le (HF5.out b hb).2 B9.size⟩) own' hg4 d)
        have CF : Hid (∀ w9, W9.grownBy w9 vO.ownBlock → w9.cell? ⟨b, off + k * 2, none⟩ = some (.int .u32 pa) ∧ w9.cell? ⟨b, off + k * 2 + 1, none⟩ = some (.int .i64 pl) ∧ w9.cell? ⟨w.heap.size, 0, none⟩ = some (.int .u32 area)) := Lib.hid (fun w9 hg => by
          have h1 := HBL.out
          have h2 := HBF.out
          have h3 := blk_lt HX1.out
          have h4 := G5.out.1
          have h5 := B9.size
          have h6 := HB3.out.size
          have nb : some b ≠ vO.ownBlock := fun e => by rcases OJ.out b e.symm with h | h <;> omega
          have nw : some w.heap.size ≠ vO.ownBlock := fun e => by have := (OWL.out _ e.symm).1; omega
          exact ⟨(hg.cell_far _ (by show b < _; omega) nb).trans (bcell B9 e0), (hg.cell_far _ (by show b < _; omega) nb).trans (bcell B9 e1), (hg.cell_far _ (by show w.heap.size < _; omega) nw).trans (bcell B9 y0)⟩)
        have OJ2 : Hid (∀ g n cap, (vO.ownBlock = some g ∨ g = w5.heap.size + 1) → ∀ j, (Value.slice (some ⟨g, 0, none⟩) n cap).ownBlock = some j → j = w1.heap.size ∨ w3.heap.size ≤ j) := Lib.hid (fun g n cap hat j hj => by
          have hj : g = j := by simpa [Value.ownBlock] using hj
          subst hj
          rcases hat with h | h
          · exact OJ.out g h
          · right; have := G5.out.1; omega)
        have G9 : Hid (∀ w9, W9.grownBy w9 vO.ownBlock → w3.heap.size ≤ w9.heap.size ∧ ∀ b, w1.heap.size < b → b < w3.heap.size → w9.heap[b]? = w3.heap[b]?) := Lib.hid (fun w9 hg => ⟨Nat.le_trans G5.out.1 (Nat.le_trans B9.size hg.size), fun b h1 h2 => (hg.block b (Nat.lt_of_lt_of_le h2 (Nat.le_trans G5.out.1 B9.size)) (fun e => by rcases OJ.out b e.symm with h | h <;> omega)).trans ((B9.block b (Nat.lt_of_lt_of_le h2 G5.out.1)).trans (G5.out.2 b h1 h2))⟩)
        have HW9 := Lib.hid hW9
        have HS9 := Lib.hid z9
        clear hW9 B9 b9 BR9 z9 PU OWN
        go_region_held3 (fun W' => W'.cell? ⟨b, off + k * 2, none⟩ = some (.int .u32 pa) ∧ W'.cell? ⟨b, off + k * 2 + 1, none⟩ = some (.int .i64 pl) ∧ W'.cell? ⟨w.heap.size, 0, none⟩ = some (.int .u32 area)) (first | with_reducible exact ⟨e0, e1, y0⟩ | with_reducible exact CF.out _ hgrow | go_keep)
          ((rw [HW9.out]; refine step_append_lies _ (by rfl) (.tmp 37) (.tmp 47) 27 (by rfl) w1.heap.size 57 i0 (.agg #[.int .u32 0, .int .i64 0, .int .i64 0, .int .u32 0, .int .i64 0, .bool false, .int .i64 0, .int .i64 0, .slice none 0 0]) 9 88 Tryz.underlying27 HI0.out HZ0.out HZ1.out HZ2.out (by rfl) (by decide) vO (out.map RtH.rt).length _ (by rfl) OW9.out ⟨w5.heap.size, 0, none⟩ 1 1 [.int .u32 pa, .int .i64 pl, .int .i64 4, .int .u32 area, .int .i64 zc, .bool false, .int .i64 0, .int .i64 0, .slice ha hn hcp] (by rfl) (by rfl) NEWS.out ONE.out (by decide) K1.out K2.out BS.out (w5.heap.size + 1) HS9.out ?_; intro g cap w9 hown hgrow hat hlt))
        have NX := Lib.hid (PK.out _ w9 hown hgrow (by rcases hat with h | h; · exact .inl h.symm
                                                       · right; rw [HS9.out, ← h]; rfl))
        have OJn := Lib.hid (OJ2.out g ((out.map RtH.rt).length + 1) cap hat)
        have GN := Lib.hid (G9.out w9 hgrow)
        clear hown hgrow hat hlt PK OJ2 G9 OJ GG G5
        go_wp2_with fail
        go_roundw
        case rel =>
          rw [List.length_map] at NX OJn
          exact ⟨k + 1, _, by go_num, NX, GN, OJn⟩
        case measure => simp [intOf]; have := KC.out; omega
    · have FI : Hid (Rt3Post w area L (.returned vO) wr) := Lib.hid ⟨vO, out, rfl, S.out.at, by
        have ek : k = ps.length := by have := S.out.hk; omega
        rw [S.out.eq, ek, List.take_length, HPS.out], HB1.out.trans (S.out.bel.mono HB1.out.size)⟩
      clear S GG
      go_wp2_with fail
      go_ret
      exact FI.out

end Go.Proofs.YtogdconliofblaaGreat

namespace Go.Proofs.YtogdconliofblaaGreat
open Go.RowKit

theorem merge_nil (l : List Ls.Hop) : Ls.merge Ls.hopLt l [] = Ls.merge Ls.hopLt [] l := Ls.merge_comm Ls.hopLin l []
theorem merge_merge (z l : List Ls.Hop) : Ls.merge Ls.hopLt z (Ls.merge Ls.hopLt l []) = Ls.merge Ls.hopLt z l :=
  Ls.merge_eq Ls.hopLin (Ls.asc_merge Ls.hopLin _ _) fun x => by simp [Ls.mem_merge]

theorem tb_bs (g : Ls.Pfx → Option Of) (q p : Ls.Pfx) (c : Int) (ha : Option Addr) (hn hc : Nat) (hops : List Ls.Hop) : tbAdd g q ⟨c, Ls.merge Ls.hopLt hops []⟩ p = bsO p (g p) ⟨q, c, ha, hn, hc, hops⟩ := by
  by_cases h1 : 16777216 < c
  · rw [tbAdd_big h1, bsO_off fun h => by have := h.2; simp only at this; omega]
  by_cases e : q = p
  · subst e
    have ok : (⟨q, c, ha, hn, hc, hops⟩ : OfP).pfx = q ∧ (⟨q, c, ha, hn, hc, hops⟩ : OfP).cost ≤ 16777216 := ⟨rfl, by simp only; omega⟩
    cases e2 : g q with
    | none =>
      rw [tbAdd_new h1 e2, bsO_none ok]
      simp [upd, merge_nil]
    | some z =>
      rcases Int.lt_trichotomy c z.cost with d | d | d
      · rw [tbAdd_lt h1 e2 d, bsO_lt ok d]
        simp [upd, merge_nil]
      · rw [tbAdd_eq h1 e2 d, bsO_eq ok d]
        simp [upd, merge_merge]
      · rw [tbAdd_gt h1 e2 d, bsO_gt ok d, e2]
  · rw [bsO_off fun h => e h.1]
    cases e2 : g q with
    | none => rw [tbAdd_new h1 e2]; unfold upd; exact if_neg fun h => e h.symm
    | some z =>
      have up : ∀ x : Of, upd g q x p = g p := fun x => by unfold upd; exact if_neg fun h => e h.symm
      rcases Int.lt_trichotomy c z.cost with d | d | d
      · rw [tbAdd_lt h1 e2 d]; exact up _
      · rw [tbAdd_eq h1 e2 d]; exact up _
      · rw [tbAdd_gt h1 e2 d]

theorem inK_typ {kind router : Int} {x : Lsa} (h : inK kind router x = true) : x.typ = kind := by
  unfold inK at h
  simp only [Bool.and_eq_true, decide_eq_true_eq] at h
  exact h.1.1

theorem bs_ofK (area router : Int) (reach : List Rch) (db : List Lsa) (hv : ∀ x ∈ db, x.typ = 3 → lsaPfx x = ⟨x.id, x.len⟩) : ∀ k, k ≤ db.length → ∀ p, ofK area router reach db k p = (rfL 3 area router reach db k).foldl (bsO p) none
  | 0, _, p => rfl
  | k + 1, hk, p => by
    have c : k < db.length := by omega
    have ih := bs_ofK area router reach db hv k (by omega)
    rw [ofK_succ area router reach db c, rfL_succ 3 area router reach db c, List.foldl_append]
    unfold ofStep rfSel
    by_cases h : inK 3 router db[k] = true
    · rw [if_pos h, if_pos h]
      cases e : wayF area db[k].router reach with
      | none => simp only; rw [ih p]; rfl
      | some y =>
        simp only [true_or, if_true]
        rw [hv _ (List.getElem_mem c) (inK_typ h)]
        unfold ofO
        rw [tb_bs _ _ _ _ y.ha y.hn y.hc, ih p]
        rfl
    · rw [if_neg h, if_neg h]
      simp only
      rw [ih p]; rfl

theorem bsK_all (L : List OfP) (p : Ls.Pfx) : bsK L p L.length = L.foldl (bsO p) none := by unfold bsK; rw [List.take_length]

theorem bsK_mem {L : List OfP} {p : Ls.Pfx} {z : Of} (h : L.foldl (bsO p) none = some z) : p ∈ L.map OfP.pfx := by
  have key : ∀ (m : List OfP) (s : Option Of), m.foldl (bsO p) s = some z → s = none → p ∈ m.map OfP.pfx := by
    intro m
    induction m with
    | nil => intro s h1 h2; rw [h2] at h1; cases h1
    | cons o m ih =>
      intro s h1 h2
      rw [List.foldl_cons] at h1
      by_cases e : o.pfx = p
      · simp [e]
      · have : bsO p s o = s := bsO_off fun h => e h.1
        rw [this] at h1
        have := ih s h1 h2
        simp only [List.map_cons, List.mem_cons]
        exact .inr this
  exact key L none h rfl

theorem ofK_pfxOk (area router : Int) (reach : List Rch) (db : List Lsa) (hp : ∀ x ∈ db, x.typ = 3 → pfxOk ⟨x.id, x.len⟩) {k : Nat} {p : Ls.Pfx} (h : p ∈ (rfL 3 area router reach db k).map OfP.pfx) : pfxOk p := by
  obtain ⟨o, ho, rfl⟩ := List.mem_map.1 h
  obtain ⟨x, hx, y, h1, _, _, rfl⟩ := rfL_hops ho
  exact hp x hx (inK_typ h1)

theorem routes_eq33 {area router : Int} {reach : List Rch} {db : List Lsa} (hv : ∀ x ∈ db, x.typ = 3 → lsaPfx x = ⟨x.id, x.len⟩) (hp : ∀ x ∈ db, x.typ = 3 → pfxOk ⟨x.id, x.len⟩) {l : List Rp} (asc : l.Pairwise fun a b => Ls.pfxLt a.pfx b.pfx = true)
    (hm : ∀ r, r ∈ l ↔ pfxOk r.pfx ∧ ∃ o, ofK area router reach db db.length r.pfx = some o ∧ r = orP area r.pfx o) :
    l = (Ls.adds Ls.pfxLt [] ((rfL 3 area router reach db db.length).map OfP.pfx)).filterMap (rsel area (rfL 3 area router reach db db.length)) := by
  have sel : ∀ p r, rsel area (rfL 3 area router reach db db.length) p = some r ↔ ∃ o, ofK area router reach db db.length p = some o ∧ r = orP area p o := by
    intro p r
    unfold rsel
    rw [bsK_all, ← bs_ofK area router reach db hv _ (Nat.le_refl _), Option.map_eq_some_iff]
    exact ⟨fun ⟨o, h1, h2⟩ => ⟨o, h1, h2.symm⟩, fun ⟨o, h1, h2⟩ => ⟨o, h1, h2.symm⟩⟩
  refine asc_eq (R := fun a b : Rp => Ls.pfxLt a.pfx b.pfx = true) (fun a => by rw [Ls.pfxLin.irr]; simp) (fun a b c h1 h2 => Ls.pfxLin.tr _ _ _ h1 h2) _ _ asc ?_ fun r => ?_
  · have ha : Ls.Asc Ls.pfxLt (Ls.adds Ls.pfxLt [] ((rfL 3 area router reach db db.length).map OfP.pfx)) := Ls.asc_adds Ls.pfxLin _ _ (by simp [Ls.Asc])
    rw [List.pairwise_filterMap]
    refine List.Pairwise.imp ?_ ha
    intro a b hab r hr s hs
    obtain ⟨o, _, rfl⟩ := (sel a r).1 hr
    obtain ⟨o', _, rfl⟩ := (sel b s).1 hs
    exact hab
  · rw [hm, List.mem_filterMap]
    constructor
    · rintro ⟨_, o, h1, h2⟩
      refine ⟨r.pfx, ?_, (sel _ _).2 ⟨o, h1, h2⟩⟩
      rw [Ls.mem_adds]
      right
      refine bsK_mem (z := o) ?_
      rw [← bs_ofK area router reach db hv _ (Nat.le_refl _)]; exact h1
    · rintro ⟨p, hpm, hs⟩
      obtain ⟨o, h1, rfl⟩ := (sel _ _).1 hs
      refine ⟨?_, o, h1, rfl⟩
      rw [Ls.mem_adds] at hpm
      rcases hpm with h | h
      · cases h
      · exact ofK_pfxOk area router reach db hp h

end Go.Proofs.YtogdconliofblaaGreat

namespace Go.Proofs.YtogdconliofblaaGreat
open Go.RowKit

/-- a way, without its place in memory -/
structure Rq where
  router : Int
  area : Int
  inter : Bool
  border : Bool
  boundary : Bool
  cost : Int
  hops : List Ls.Hop
deriving DecidableEq, Inhabited
def Rch.pq (x : Rch) : Rq := ⟨x.router, x.area, x.inter, x.border, x.boundary, x.cost, x.hops⟩
def boP (area : Int) (p : Ls.Pfx) (z : Of) : Rq := ⟨p.addr, area, true, false, true, z.cost, z.hops⟩
def bsel (area : Int) (L : List OfP) (p : Ls.Pfx) : Option Rq := (bsK L p L.length).map (boP area p)
theorem Tryz.infoRch : (Tryz.prog.info? 50).map (fun i => (i.zero, i.size, i.bytes)) = some (some (.agg #[.int .u32 0, .int .u32 0, .bool false, .bool false, .bool false, .int .i64 0, .slice none 0 0]), 7, 48) := by kernel_rfl

/-- the routes to k prefixes are put out -/
structure BrW (W1 : World) (area : Int) (L : List OfP) (ps : List Ls.Pfx) (k : Nat) (out : List Rch) (v : Value) (wr : World) : Prop where
  hk : k ≤ ps.length
  eq : out.map Rch.pq = (ps.take k).filterMap (bsel area L)
  own : wr.ownsRow W1.heap.size 50 7 v out.length (out.map rchE).flatten
  hops : ∀ x ∈ out, HopsAt wr (Value.slice x.ha x.hn x.hc) x.hops
  sep : ∀ x ∈ out, ∀ b, (Value.slice x.ha x.hn x.hc).ownBlock = some b → v.ownBlock ≠ some b ∧ b < wr.heap.size
  len : out.length ≤ k
  bel : Below W1.heap.size W1 wr
theorem BrW.start (W1 : World) (area : Int) (L : List OfP) (ps : List Ls.Pfx) : BrW W1 area L ps 0 [] (.slice (some ⟨W1.heap.size, 0, none⟩) 0 0) (W1.alloc (.cells #[] 50)) := by
  refine ⟨Nat.zero_le _, rfl, ?_, (fun x hx => by cases hx), (fun x hx => by cases hx), Nat.le_refl _, (Below.refl _ _).alloc (Nat.le_refl _) _⟩
  have := World.ownsRow_made (size := 7) (e := 50) (base := W1.heap.size) W1 #[] 0 (by simp) (by unfold maxLen; omega) rfl
  simpa using this
theorem BrW.below {W1 : World} {area : Int} {L : List OfP} {ps : List Ls.Pfx} {k : Nat} {out : List Rch} {v : Value} {wr W' : World} (R : BrW W1 area L ps k out v wr) (hb : Below wr.heap.size wr W') : BrW W1 area L ps k out v W' :=
  ⟨R.hk, R.eq, World.ownsRow.kept (row := none) R.own (grown_of_below hb none) (by cases v.ownBlock <;> simp), fun x hx => (R.hops x hx).below hb, fun x hx b h => ⟨(R.sep x hx b h).1, Nat.lt_of_lt_of_le (R.sep x hx b h).2 hb.size⟩, R.len, R.bel.trans (hb.mono R.bel.size)⟩
theorem BrW.skip {W1 : World} {area : Int} {L : List OfP} {ps : List Ls.Pfx} {k : Nat} {out : List Rch} {v : Value} {wr W' : World} (R : BrW W1 area L ps k out v wr) (c : k < ps.length) (h : bsK L ps[k] L.length = none) (hb : Below wr.heap.size wr W') : BrW W1 area L ps (k + 1) out v W' := by
  have R' := R.below hb
  refine ⟨c, ?_, R'.own, R'.hops, R'.sep, by have := R'.len; omega, R'.bel⟩
  rw [List.take_succ_eq_append_getElem c, List.filterMap_append, ← R.eq]
  have : bsel area L ps[k] = none := by unfold bsel; rw [h]; rfl
  simp [this]
theorem BrW.push {W1 : World} {area : Int} {L : List OfP} {ps : List Ls.Pfx} {k : Nat} {out : List Rch} {v v' : Value} {wr W w4 : World} (R : BrW W1 area L ps k out v wr) (c : k < ps.length) {z : Of} (h : bsK L ps[k] L.length = some z) (hb : Below wr.heap.size wr W)
    {x : Rch} (hx : x.pq = boP area ps[k] z) (hh : HopsAt W (Value.slice x.ha x.hn x.hc) x.hops) (hf : ∀ b, (Value.slice x.ha x.hn x.hc).ownBlock = some b → wr.heap.size ≤ b ∧ b < W.heap.size)
    (own' : w4.ownsRow W1.heap.size 50 7 v' (out.length + 1) ((out.map rchE).flatten ++ rchE x)) (hg4 : W.grownBy w4 v.ownBlock) (d : v'.ownBlock = v.ownBlock ∨ v'.ownBlock = some W.heap.size) : BrW W1 area L ps (k + 1) (out ++ [x]) v' w4 := by
  have R' := R.below hb
  have sepx : ∀ y ∈ out ++ [x], ∀ b, (Value.slice y.ha y.hn y.hc).ownBlock = some b → v.ownBlock ≠ some b ∧ b < W.heap.size := by
    intro y hy b hb'
    rcases List.mem_append.1 hy with hy | hy
    · exact R'.sep y hy b hb'
    · rw [List.mem_singleton] at hy
      subst hy
      obtain ⟨h1, h2⟩ := hf b hb'
      refine ⟨fun e => ?_, h2⟩
      have := (World.ownsRow.lt R.own b e).2
      omega
  refine ⟨c, ?_, ?_, fun y hy => ?_, fun y hy b hb' => ?_, by have := R.len; rw [List.length_append, List.length_singleton]; omega, R'.bel.grown hg4 R'.bel.size (fun j hj => (World.ownsRow.lt R'.own j hj).1)⟩
  · rw [List.take_succ_eq_append_getElem c, List.filterMap_append, List.map_append, R.eq]
    have : bsel area L ps[k] = some (boP area ps[k] z) := by unfold bsel; rw [h]; rfl
    simp [this, hx]
  · rw [List.map_append, List.length_append, List.flatten_append]
    simpa using own'
  · have hy0 : HopsAt W (Value.slice y.ha y.hn y.hc) y.hops := by
      rcases List.mem_append.1 hy with h1 | h1
      · exact R'.hops y h1
      · rw [List.mem_singleton] at h1
        subst h1; exact hh
    exact SlV.kept hy0 hg4 fun b off n c e => (sepx y hy b (by rw [e]; rfl)).1
  · obtain ⟨h1, h2⟩ := sepx y hy b hb'
    refine ⟨?_, Nat.lt_of_lt_of_le h2 hg4.size⟩
    rcases d with d | d
    · rw [d]; exact h1
    · rw [d]; intro e; cases e; omega
theorem BrW.at {W1 : World} {area : Int} {L : List OfP} {ps : List Ls.Pfx} {k : Nat} {out : List Rch} {v : Value} {wr : World} (R : BrW W1 area L ps k out v wr) : ReachAt wr v out := by
  refine ⟨SlV.of_own (base := W1.heap.size) (e := 50) (fun cs hcs => by obtain ⟨o, _, rfl⟩ := List.mem_map.1 hcs; rfl) (by rw [List.length_map]; exact R.own), R.hops⟩

def Br3Post (w : World) (area : Int) (L : List OfP) (e : Ending) (w' : World) : Prop := ∃ v l, e = .returned v ∧ ReachAt w' v l ∧ l.map Rch.pq = (Ls.adds Ls.pfxLt [] (L.map OfP.pfx)).filterMap (bsel area L) ∧ Below w.heap.size w w'

set_option maxHeartbeats 8000000 in
set_option maxRecDepth 100000 in
theorem rbounds33_calls (w : World) (area router : Int) (vd : Value) (db : List Lsa) (hd : LsasAt w vd db) (vr : Value) (reach : List Rch) (hr : ReachAt w vr reach) (cost : ∀ x ∈ db, x.typ = 4 → 0 ≤ x.cost ∧ x.cost ≤ 16777216) (rc : ∀ y ∈ reach, costFine y.cost) (n1 : db.length ≤ 200) (hM : hopSum reach ≤ 1048576) :
    Calls Tryz.prog 29 #[.agg #[.int .u32 area, vd], .int .u32 router, vr] w (Br3Post w area (rfL 4 area router reach db db.length)) := by
  obtain ⟨i0, hi0, hz0, hz1, hz2⟩ := info_parts Tryz.infoRch
  have HI0 := Lib.hid hi0
  have HZ0 := Lib.hid hz0
  have HZ1 := Lib.hid hz1
  have HZ2 := Lib.hid hz2
  have OF := Lib.hid (fun W (hb : Below w.heap.size w W) => roffers_calls W 4 area router vd db (hd.below hb) vr reach (hr.below hb) cost rc n1)
  have hl1 := rfL_len 4 area router reach db db.length
  have LC : Hid (∀ o ∈ rfL 4 area router reach db db.length, 0 ≤ o.cost) := Lib.hid (fun o ho => by
    obtain ⟨x, hx, y, h1, h2, -, rfl⟩ := rfL_hops ho
    have h3 := (rc y (wayF_mem h2)).1
    have t3 : x.typ = 4 := by
      unfold inK at h1
      simp only [Bool.and_eq_true, decide_eq_true_eq] at h1
      exact h1.1.1
    have h4 := (cost x hx t3).1
    show 0 ≤ y.cost + x.cost
    omega)
  have LM : Hid (∀ o ∈ rfL 4 area router reach db db.length, o.hops.length ≤ 1048576) := Lib.hid (fun o ho => by
    obtain ⟨x, hx, y, h1, h2, -, rfl⟩ := rfL_hops ho
    have := hops_le (wayF_mem h2)
    show y.hops.length ≤ 1048576
    omega)
  obtain ⟨da, dc, e1, -, -⟩ := hd.get
  obtain ⟨ra, rcap, e2, -, -⟩ := hr.get
  subst e1 e2
  have N1 : Hid ((rfL 4 area router reach db db.length).length ≤ 200) := Lib.hid (by omega)
  clear hd hr cost rc n1 hM hl1 hi0 hz0 hz1 hz2
  generalize rfL 4 area router reach db db.length = L at *
  obtain ⟨WA, hWA⟩ : ∃ WA, w.alloc (.cells #[.int .u32 area, .slice da db.length dc] 36) = WA := ⟨_, rfl⟩
  have BA : Below w.heap.size w WA := by rw [← hWA]; exact (Below.refl _ _).alloc (Nat.le_refl _) _
  have bA : WA.heap[w.heap.size]? = some (.cells #[.int .u32 area, .slice da db.length dc] 36 (0, 0)) := by rw [← hWA]; exact alloc_new w _
  have OFA := Lib.hid (OF.out WA BA)
  have y0 := blk_cell (i := 0) bA rfl
  have y1 := blk_cell (i := 1) bA rfl
  have HWA := Lib.hid hWA
  have HBA := Lib.hid BA
  have HXA := Lib.hid bA
  clear hWA BA bA OF
  go_enter Tryz.func29, Tryz.ntmps29
  go_upto_region 1 with fail
  rw [HWA.out]
  go_wp2_with fail
  refine OFA.out.mono ?_
  rintro e w1 ⟨vL, rfl, OL, B1⟩
  have HB1 := Lib.hid (HBA.out.trans (B1.mono HBA.out.size))
  have HX1 := Lib.hid ((B1.block _ (blk_lt HXA.out)).trans HXA.out)
  have HOL := Lib.hid OL
  obtain ⟨La, Lcap, eL, -, -, -, -⟩ := OL.sl
  rw [List.length_map] at eL
  subst eL
  obtain ⟨W2, hW2⟩ : ∃ W2, w1.alloc (.cells #[] 50) = W2 := ⟨_, rfl⟩
  have B2 : Below w1.heap.size w1 W2 := by rw [← hW2]; exact (Below.refl _ _).alloc (Nat.le_refl _) _
  have S0 : Hid (∀ ps, BrW w1 area L ps 0 [] (.slice (some ⟨w1.heap.size, 0, none⟩) 0 0) W2) := Lib.hid (fun ps => by rw [← hW2]; exact BrW.start w1 area L ps)
  have PC := Lib.hid (prefixes2_calls W2 _ (L.map OfP.pfx) (OL.below B2).prefixes (by rw [List.length_map]; have := N1.out; omega))
  have HWS : Hid (W2.heap.size = w1.heap.size + 1) := Lib.hid (by rw [← hW2]; simp)
  have HB2 := Lib.hid B2
  have HW2 := Lib.hid hW2
  clear y0 y1 OL B1 OFA HXA HWA hW2 B2
  go_upto_region 3 with fail
  rw [HW2.out]
  clear HW2
  go_wp2_with fail
  refine PC.out.mono ?_
  rintro e w3 ⟨vP, rfl, HP, B3, FP⟩
  have S3 := Lib.hid ((S0.out (Ls.adds Ls.pfxLt [] (L.map OfP.pfx))).below B3)
  have HPP := Lib.hid HP
  have PL : Hid ((Ls.adds Ls.pfxLt [] (L.map OfP.pfx)).length ≤ 200) := Lib.hid (by
    have h1 := Ls.adds_len (lt := Ls.pfxLt) (L.map OfP.pfx) []
    simp only [List.length_nil, List.length_map] at h1
    have := N1.out
    omega)
  have HB3 := Lib.hid (HB2.out.trans (B3.mono HB2.out.size))
  clear S0 B3 PC HB2
  generalize hps : Ls.adds Ls.pfxLt [] (L.map OfP.pfx) = ps at *
  have HPS := Lib.hid hps
  have HFP := Lib.hid FP
  have W2S : Hid (W2.heap.size = w1.heap.size + 1) := Lib.hid (by have := HWS.out; exact this)
  obtain ⟨Pa, Pcap, rfl, hPl, hPc⟩ := HP.get
  have HPC := Lib.hid hPc
  clear HP hPc hps FP
  have OJ0 : Hid (∀ j, (Value.slice (some ⟨w1.heap.size, 0, none⟩) 0 0).ownBlock = some j → j = w1.heap.size ∨ w3.heap.size ≤ j) := Lib.hid (fun j hj => by
    have hj : w1.heap.size = j := by simpa [Value.ownBlock] using hj
    exact .inl hj.symm)
  go_wp2_with fail
  go_loopw [8, 10] (fun vo iv wr => ∃ (k : Nat) (out : List Rch), iv = .int .i64 k ∧ Hid (BrW w1 area L ps k out vo wr) ∧ Hid (w3.heap.size ≤ wr.heap.size ∧ ∀ b, w1.heap.size < b → b < w3.heap.size → wr.heap[b]? = w3.heap[b]?) ∧ Hid (∀ j, vo.ownBlock = some j → j = w1.heap.size ∨ w3.heap.size ≤ j)) (fun _ i _ => ps.length - (intOf i).toNat)
  case atStart => exact ⟨0, [], rfl, S3, Lib.hid ⟨Nat.le_refl _, fun _ _ _ => rfl⟩, OJ0⟩
  case round =>
    clear S3 OJ0
    obtain ⟨k, out, rfl, S, GG, OJ⟩ := hrel
    obtain ⟨vO, hvO⟩ : ∃ z, z = u8 := ⟨_, rfl⟩
    subst hvO
    by_cases c : k < ps.length
    · obtain ⟨b, off, rfl, hb0, hcc⟩ := HPC.out (by omega)
      obtain ⟨d0, d1⟩ := hcc k c
      have HBF : Hid (w1.heap.size < b) := Lib.hid (by have h1 := (HFP.out b rfl).1; have h2 := W2S.out; omega)
      have d0 := (World.cell?_of_block (w := w3) (w' := wr) (a := ⟨b, off + k * 2, none⟩) (GG.out.2 b HBF.out hb0)).trans d0
      have d1 := (World.cell?_of_block (w := w3) (w' := wr) (a := ⟨b, off + k * 2 + 1, none⟩) (GG.out.2 b HBF.out hb0)).trans d1
      have B1r := S.out.bel
      have bx := (B1r.block _ (blk_lt HX1.out)).trans HX1.out
      have HXR := Lib.hid bx
      have BC := Lib.hid (best32_calls wr _ L (HOL.out.below B1r) ps[k] N1.out LC.out LM.out)
      have SKP := Lib.hid (fun h W' hb => S.out.skip c h (W' := W') hb)
      have PU := Lib.hid (fun v' W w4 z x (h : bsK L ps[k] L.length = some z) (hb : Below wr.heap.size wr W) hx hh hf own' hg4 d => S.out.push (v' := v') (W := W) (w4 := w4) c (z := z) h hb (x := x) hx hh hf own' hg4 d)
      have OWN := Lib.hid (fun W' (hb : Below wr.heap.size wr W') => (S.out.below hb).own)
      have IV := Lib.hid (fun z (h : bsK L ps[k] L.length = some z) => (bsK_inv ps[k] LC.out LM.out L.length (Nat.le_refl _) z h).1)
      have KC := Lib.hid c
      have n0 : (0 : Int) ≤ (k : Int) := by omega
      have n1 : (k : Int) < (ps.length : Int) := by omega
      have n3 : ((k : Int)).toNat = k := by omega
      have K1 : Hid (out.length + 1 ≤ maxLen) := Lib.hid (by have h1 := S.out.len; have h2 := PL.out; unfold maxLen; omega)
      have K2 : Hid ((out.length + 1) * 48 ≤ 140737488355328) := Lib.hid (by have h1 := S.out.len; have h2 := PL.out; omega)
      have BSZ := Lib.hid S.out.bel.size
      have HHD := Lib.hid (hcc k c)
      have HBL := Lib.hid hb0
      have OWL := Lib.hid (fun j hj => World.ownsRow.lt S.out.own j hj)
      clear hcc S bx B1r
      generalize bsK L ps[k] L.length = s at *
      generalize ps[k] = p at *
      obtain ⟨pa, pl⟩ := p
      simp only at d0 d1 BC HHD
      go_wp2_with fail
      refine BC.out.mono ?_
      rintro e w5 ⟨vH, rfl, HH, B5, FR⟩
      have HB5 := Lib.hid B5
      have HF5 := Lib.hid FR
      have HHH := Lib.hid HH
      have G5 : Hid (w3.heap.size ≤ w5.heap.size ∧ ∀ b, w1.heap.size < b → b < w3.heap.size → w5.heap[b]? = w3.heap[b]?) := Lib.hid ⟨Nat.le_trans GG.out.1 B5.size, fun b h1 h2 => (B5.block b (Nat.lt_of_lt_of_le h2 GG.out.1)).trans (GG.out.2 b h1 h2)⟩
      clear d0 d1 BC
      cases s with
      | none =>
        have NX := Lib.hid (SKP.out rfl _ HB5.out)
        simp only [bsC]
        clear SKP PU OWN K1 K2 BSZ HHD HBL HH B5 FR HF5 HHH HB5 GG IV HXR
        go_wp2_with fail
        go_roundw
        case rel => exact ⟨k + 1, out, by go_num, NX, G5, OJ⟩
        case measure => simp [intOf]; have := KC.out; omega
      | some z =>
        have hz := IV.out z rfl
        obtain ⟨zc, zh⟩ := z
        simp only [bsC, bsH] at HH HHH hz ⊢
        have g0 : decide (0 ≤ zc) = true := decide_eq_true hz
        obtain ⟨ha, hcp, eH, -, -, -, -⟩ := HH.get
        generalize hhn : zh.length = hn at eH
        subst eH
        clear hz HH B5 FR IV SKP hhn
        go_upto_region 9 with fail
        --R9
        have e0 := (World.cell?_of_block (w := w3) (w' := w5) (a := ⟨b, off + k * 2, none⟩) (G5.out.2 b HBF.out HBL.out)).trans HHD.out.1
        have e1 := (World.cell?_of_block (w := w3) (w' := w5) (a := ⟨b, off + k * 2 + 1, none⟩) (G5.out.2 b HBF.out HBL.out)).trans HHD.out.2
        have y0 := blk_cell (i := 0) ((HB5.out.block _ (blk_lt HXR.out)).trans HXR.out) rfl
        obtain ⟨W9, hW9⟩ : ∃ W9, (w5.alloc (.cells #[.int .u32 pa, .int .u32 area, .bool true, .bool false, .bool true, .int .i64 zc, .slice ha hn hcp] 50)).drew = W9 := ⟨_, rfl⟩
        have B9 : Below w5.heap.size w5 W9 := by rw [← hW9]; exact ((Below.refl _ _).alloc (Nat.le_refl _) _).drew
        have b9 : W9.heap[w5.heap.size]? = some (.cells #[.int .u32 pa, .int .u32 area, .bool true, .bool false, .bool true, .int .i64 zc, .slice ha hn hcp] 50 (0, 0)) := by rw [← hW9]; exact alloc_new w5 _
        have BR9 := HB5.out.trans (B9.mono HB5.out.size)
        have z9 : W9.heap.size = w5.heap.size + 1 := by rw [← hW9]; simp [World.drew]
        have OW9 := Lib.hid (OWN.out W9 BR9)
        have NEWS := Lib.hid (World.news_of_block b9)
        have ONE : Hid (∀ u ∈ ([.int .u32 pa, .int .u32 area, .bool true, .bool false, .bool true, .int .i64 zc, .slice ha hn hcp] : List Value), u.oneCell' = true) := Lib.hid (by intro u hu; simp at hu; rcases hu with rfl | rfl | rfl | rfl | rfl | rfl | rfl <;> rfl)
        have BS : Hid (w1.heap.size ≤ W9.heap.size) := Lib.hid (Nat.le_trans BSZ.out BR9.size)
        have PK := Lib.hid (fun v' w4 own' hg4 d => PU.out v' W9 w4 ⟨zc, zh⟩ ⟨pa, area, true, false, true, zc, ha, hn, hcp, zh⟩ rfl BR9 rfl (HHH.out.below B9) (fun b hb => ⟨(HF5.out b hb).1, Nat.lt_of_lt_of_le (HF5.out b hb).2 B9.size⟩) own' hg4 d)
        have CF : Hid (∀ w9, W9.grownBy w9 vO.ownBlock → w9.cell? ⟨b, off + k * 2, none⟩ = some (.int .u32 pa) ∧ w9.cell? ⟨b, off + k * 2 + 1, none⟩ = some (.int .i64 pl) ∧ w9.cell? ⟨w.heap.size, 0, none⟩ = some (.int .u32 area)) := Lib.hid (fun w9 hg => by
          have h1 := HBL.out
          have h2 := HBF.out
          have h3 := blk_lt HX1.out
          have h4 := G5.out.1
          have h5 := B9.size
          have h6 := HB3.out.size
          have nb : some b ≠ vO.ownBlock := fun e => by rcases OJ.out b e.symm with h | h <;> omega
          have nw : some w.heap.size ≠ vO.ownBlock := fun e => by have := (OWL.out _ e.symm).1; omega
          exact ⟨(hg.cell_far _ (by show b < _; omega) nb).trans (bcell B9 e0), (hg.cell_far _ (by show b < _; omega) nb).trans (bcell B9 e1), (hg.cell_far _ (by show w.heap.size < _; omega) nw).trans (bcell B9 y0)⟩)
        have OJ2 : Hid (∀ g n cap, (vO.ownBlock = some g ∨ g = w5.heap.size + 1) → ∀ j, (Value.slice (some ⟨g, 0, none⟩) n cap).ownBlock = some j → j = w1.heap.size ∨ w3.heap.size ≤ j) := Lib.hid (fun g n cap hat j hj => by
          have hj : g = j := by simpa [Value.ownBlock] using hj
          subst hj
          rcases hat with h | h
          · exact OJ.out g h
          · right; have := G5.out.1; omega)
        have G9 : Hid (∀ w9, W9.grownBy w9 vO.ownBlock → w3.heap.size ≤ w9.heap.size ∧ ∀ b, w1.heap.size < b → b < w3.heap.size → w9.heap[b]? = w3.heap[b]?) := Lib.hid (fun w9 hg => ⟨Nat.le_trans G5.out.1 (Nat.le_trans B9.size hg.size), fun b h1 h2 => (hg.block b (Nat.lt_of_lt_of_le h2 (Nat.le_trans G5.out.1 B9.size)) (fun e => by rcases OJ.out b e.symm with h | h <;> omega)).trans ((B9.block b (Nat.lt_of_lt_of_le h2 G5.out.1)).trans (G5.out.2 b h1 h2))⟩)
        have HW9 := Lib.hid hW9
        have HS9 := Lib.hid z9
        clear hW9 B9 b9 BR9 z9 PU OWN
        go_region_held3 (fun W' => W'.cell? ⟨b, off + k * 2, none⟩ = some (.int .u32 pa) ∧ W'.cell? ⟨b, off + k * 2 + 1, none⟩ = some (.int .i64 pl) ∧ W'.cell? ⟨w.heap.size, 0, none⟩ = some (.int .u32 area)) (first | with_reducible exact ⟨e0, e1, y0⟩ | with_reducible exact CF.out _ hgrow | go_keep)
          ((rw [HW9.out]; refine step_append_lies _ (by rfl) (.tmp 37) (.tmp 48) 28 (by rfl) w1.heap.size 50 i0 (.agg #[.int .u32 0, .int .u32 0, .bool false, .bool false, .bool false, .int .i64 0, .slice none 0 0]) 7 48 Tryz.underlying28 HI0.out HZ0.out HZ1.out HZ2.out (by rfl) (by decide) vO out.length _ (by rfl) OW9.out ⟨w5.heap.size, 0, none⟩ 1 1 [.int .u32 pa, .int .u32 area, .bool true, .bool false, .bool true, .int .i64 zc, .slice ha hn hcp] (by rfl) (by rfl) NEWS.out ONE.out (by decide) K1.out K2.out BS.out (w5.heap.size + 1) HS9.out ?_; intro g cap w9 hown hgrow hat hlt))
        have NX := Lib.hid (PK.out _ w9 hown hgrow (by rcases hat with h | h; · exact .inl h.symm
                                                       · right; rw [HS9.out, ← h]; rfl))
        have OJn := Lib.hid (OJ2.out g (out.length + 1) cap hat)
        have GN := Lib.hid (G9.out w9 hgrow)
        clear hown hgrow hat hlt PK OJ2 G9 OJ GG G5
        go_wp2_with fail
        go_roundw
        case rel =>
          exact ⟨k + 1, _, by go_num, NX, GN, OJn⟩
        case measure => simp [intOf]; have := KC.out; omega
    · have FI : Hid (Br3Post w area L (.returned vO) wr) := Lib.hid ⟨vO, out, rfl, S.out.at, by
        have ek : k = ps.length := by have := S.out.hk; omega
        rw [S.out.eq, ek, List.take_length, HPS.out], HB1.out.trans (S.out.bel.mono HB1.out.size)⟩
      clear S GG
      go_wp2_with fail
      go_ret
      exact FI.out

end Go.Proofs.YtogdconliofblaaGreat

namespace Go.Proofs.YtogdconliofblaaGreat
open Go.RowKit

section
variable {P : Program} {k : TypeId} {α β : Type} {ok : α → Prop} {mkK : α → Value} {lit : α → Lit} {mkV : β → Value} {ops : Array Oper} {rest : List Oper} {o : Oper} {a : Act} {Q : Exit → Act → World → Prop} {F : Fence} {nf : Nat}

theorem wpListIn_rangeF (w : World) (hg : o.guard = none) (m : Operand) (t : TypeId) (hop : o.op = Op.range t m) (e : TypeId) (K : KeyIs P k ok mkK lit) (ht : P.underlying t = some (.map k e)) (b n : Nat) (f : α → Option β)
    (hm : a.eval m = .map (some b)) (hown : MapF P k ok lit mkV w b n f)
    (hK : ∀ w' cnt, cnt ≤ n → RangeF P k ok lit mkV w' b w.heap.size n f (fun x => (f x).isSome) cnt → w.grownBy w' none → w'.heap.size = w.heap.size + 1 → wpListIn F nf P ops Q rest (a.put o.dst (.pointer (some ⟨w.heap.size, 0, none⟩))) w') :
    wpListIn F nf P ops Q (o :: rest) a w := by
  obtain ⟨D, h1, h2⟩ := hown
  refine wpListIn_range_own w hg m t hop k e K.keyed ht heldR b n D hm h1 fun w' r1 r2 r3 => hK w' _ h1.size_le ⟨D, _, r1, fun x hx => (h2 x hx).1, h2⟩ r2 r3

theorem wpListIn_nextF [DecidableEq α] (w : World) (hg : o.guard = none) (it : Operand) (hop : o.op = Op.next it false) (K : KeyIs P k ok mkK lit) (b r n : Nat) (f : α → Option β) (left : α → Bool) (cnt : Nat)
    (hit : a.eval it = .pointer (some ⟨r, 0, none⟩)) (h : RangeF P k ok lit mkV w b r n f left cnt)
    (hDone : (∀ x, ok x → left x = false) → wpListIn F nf P ops Q rest (a.put o.dst (.tuple #[.bool false])) w)
    (hMore : ∀ (x : α) (c : β) (w' : World) (cnt' : Nat), ok x → left x = true → f x = some c → RangeF P k ok lit mkV w' b r n f (fun z => left z && !decide (z = x)) cnt' → cnt' < cnt →
      w.grownBy w' (some r) → w'.heap.size = w.heap.size → (Instr.entry (.pointer (some ⟨r, 0, none⟩))).run P w' = .ok (.tuple #[mkK x, mkV c]) w' → wpListIn F nf P ops Q rest (a.put o.dst (.tuple #[.bool true, mkK x, mkV c])) w') :
    wpListIn F nf P ops Q (o :: rest) a w := by
  obtain ⟨D, lf, h1, h2, h3⟩ := h
  refine wpListIn_plain hg fun K' hK' => ?_
  unfold Oper.wpIn
  refine ⟨by simp [Oper.about, hop], ?_⟩
  rw [Oper.semAt_plain F _ _ (by rw [hop]; intro c hc'; cases hc')]
  rcases h1.next K.keyed o.type with ⟨h0, hl, hrun⟩ | ⟨key, v, kl, y, w', cnt', hkey, hlk, hv, hat, hrun, hrg, hlt, hgr, hsz, hen⟩
  · simp [execOp, hop, hit, hrun, Result.andThen]
    exact hK' _ _ (hDone fun x hx => by rw [← h2 x hx]; exact hl _)
  · obtain ⟨x, hx, rfl⟩ := K.inv key kl hkey
    have ek : lit x = kl := Option.some.inj ((K.of x hx).symm.trans hkey)
    subst ek
    cases hf : f x with
    | none =>
      have hh := (h3 x hx).1
      rw [hf] at hh
      have := hat (.held undef)
      have h4 := hat (.nil)
      rw [Maps.atKey_of_not_has hh] at this h4
      rw [← this] at h4
      cases h4
    | some c =>
      have ha := (h3 x hx).2 c hf .nil
      rw [hat] at ha
      simp only [heldR, Option.some.injEq] at hv
      rw [← hv] at ha
      simp only [DataW.held.injEq] at ha
      subst ha
      simp [execOp, hop, hit, hrun, Result.andThen]
      refine hK' _ _ (hMore x c w' cnt' hx (by rw [← h2 x hx]; exact hlk) hf ⟨D, _, hrg, fun z hz => ?_, h3⟩ hlt hgr hsz hen)
      rw [h2 z hz]
      by_cases e1 : z = x
      · subst e1
        rw [WideAt.sameKey_self (K.isKey hx)]; simp
      · rw [Maps.sameKey_ne fun e2 => e1 (K.lit_inj hz hx e2)]; simp [e1]
end

end Go.Proofs.YtogdconliofblaaGreat

namespace Go.Proofs.YtogdconliofblaaGreat
open Go.RowKit Go.Shelf
attribute [local go_sem] Oper.semAt_some

/-- the keys, each once -/
def KeysOf {β : Type} (f : Int → Option β) (ss : List Int) : Prop := ss.Nodup ∧ ∀ x, x ∈ ss ↔ u32Ok x ∧ (f x).isSome = true
/-- the keys that have come -/
def Came {β : Type} (f : Int → Option β) (left : Int → Bool) (ss : List Int) : Prop := ss.Nodup ∧ ∀ x, x ∈ ss ↔ u32Ok x ∧ (f x).isSome = true ∧ left x = false
theorem Came.start {β : Type} (f : Int → Option β) : Came f (fun x => (f x).isSome) [] :=
  ⟨List.nodup_nil, fun x => ⟨fun h => absurd h (by simp), fun ⟨_, h1, h2⟩ => by have h2 : (f x).isSome = false := h2; rw [h1] at h2; cases h2⟩⟩
theorem Came.step {β : Type} {f : Int → Option β} {left : Int → Bool} {ss : List Int} (h : Came f left ss) {x : Int} {c : β} (hx : u32Ok x) (hl : left x = true) (hf : f x = some c) :
    Came f (fun z => left z && !decide (z = x)) (ss ++ [x]) := by
  refine ⟨List.nodup_append.2 ⟨h.1, by simp, ?_⟩, fun z => ?_⟩
  · intro a ha b hb e
    subst e
    obtain rfl := List.mem_singleton.1 hb
    have := ((h.2 _).1 ha).2.2
    rw [hl] at this; cases this
  · rw [List.mem_append, List.mem_singleton, h.2 z]
    by_cases e : z = x
    · subst e
      exact ⟨fun _ => ⟨hx, by rw [hf]; rfl, by simp⟩, fun _ => .inr rfl⟩
    · simp [e]
theorem Came.fin {β : Type} {f : Int → Option β} {left : Int → Bool} {ss : List Int} (h : Came f left ss) (h0 : ∀ x, u32Ok x → left x = false) : KeysOf f ss :=
  ⟨h.1, fun x => by rw [h.2 x]; exact ⟨fun ⟨a, b, _⟩ => ⟨a, b⟩, fun ⟨a, b⟩ => ⟨a, b, h0 x a⟩⟩⟩

theorem RangeF.walks {P : Program} {k : TypeId} {α β : Type} {ok : α → Prop} {lit : α → Lit} {mkV : β → Value} {w w' : World} {b r n : Nat} {f : α → Option β} {left : α → Bool} {cnt : Nat}
    (h : RangeF P k ok lit mkV w b r n f left cnt) (hk : KeepsWalks w w') : RangeF P k ok lit mkV w' b r n f left cnt := by
  obtain ⟨D, lf, h1, h2⟩ := h
  exact ⟨D, lf, h1.of_walks hk, h2⟩
theorem RangeF.walk {P : Program} {k : TypeId} {α β : Type} {ok : α → Prop} {lit : α → Lit} {mkV : β → Value} {w : World} {b r n : Nat} {f : α → Option β} {left : α → Bool} {cnt : Nat}
    (h : RangeF P k ok lit mkV w b r n f left cnt) : ∃ o : Obj, w.heap[r]? = some o ∧ o.isWalk = true := by
  obtain ⟨D, lf, h1, h2⟩ := h
  exact h1.iter_walk

set_option maxRecDepth 100000 in
set_option maxHeartbeats 2000000 in
theorem keys1_in (F : Fence) (n : Nat) (hf : F.fn 100) (hro : F.round = none) (hn : 1 ≤ n) (l Bm b nn : Nat) (f : Int → Option OfH) (J Jx : List Int → World → Prop)
    (hY : ∀ pre x W, J pre W → pre.length < nn → YieldAt F (n - 1) Tryz.prog l #[.int .u32 x] W fun e W' => (e = .returned (.bool true) ∧ J (pre ++ [x]) W' ∧ KeepsWalks W W') ∨ (e = .returned (.bool false) ∧ Jx (pre ++ [x]) W'))
    (W : World) (hJ : AbidesFrom W.heap.size J) (hm : W.cell? ⟨Bm, 0, none⟩ = some (.map (some b))) (hown : MapF Tryz.prog 22 u32Ok (intLit .u32) ofV W b nn f) (h0 : J [] W) :
    CallsIn F n Tryz.prog 100 #[.func (.yield l) #[] #[], .pointer (some ⟨Bm, 0, none⟩)] W fun e W' => (∃ v, e = .returned v) ∧ ((∃ ss, KeysOf f ss ∧ J ss W') ∨ ∃ pre, Jx pre W') := by
  refine callsIn_of_wp Tryz.func100 rfl hf ?_ hro
  simp only [Tryz.ntmps100, List.size_toArray, List.length_cons, List.length_nil, Nat.reduceAdd, Nat.reduceSub, Array.replicate_succ, Array.replicate_zero, List.push_toArray, List.append_toArray, List.nil_append, List.cons_append]
  gi_wp2_with (first
    | (gi_at_range; refine wpListIn_rangeF _ rfl _ 120 rfl 98 Tryz.u32Key Tryz.underlying120 b nn f rfl hown ?_; intro w0 cnt0 hcnt0 hrg0 hg0 hs0)
    | gi_in)
  go_frame
  gi_loopw [3] (fun _ wr => ∃ (left : Int → Bool) (cnt : Nat) (ss : List Int), RangeF Tryz.prog 22 u32Ok (intLit .u32) ofV wr b W.heap.size nn f left cnt ∧ ss.length + cnt ≤ nn ∧ Came f left ss ∧ J ss wr)
    (fun _ wr => wr.rangeLeft b W.heap.size)
  case atStart =>
    exact ⟨_, _, [], hrg0, by simpa using hcnt0, Came.start f, hJ [] W w0 none h0 hg0 (fun r e => by cases e)⟩
  case round =>
    obtain ⟨left, cnt, ss, hrg, hcs, hC, hJs⟩ := hrel
    gi_wp2_with (first
      | (gi_at_next; refine wpListIn_nextF _ rfl _ rfl Tryz.u32Key b W.heap.size nn f left cnt rfl hrg ?_ ?_)
      | gi_in)
    · -- nothing is left
      intro hl0
      gi_wp2
      go_end0
      exact ⟨⟨_, rfl⟩, .inl ⟨ss, hC.fin hl0, hJs⟩⟩
    · -- a key
      intro x c w2 cnt2 hx hlx hfx hrg2 hlt hg2 hs2 hen
      have hJ2 : J ss w2 := hJ ss wr w2 (some W.heap.size) hJs hg2 (fun r e => by cases e; exact ⟨Nat.le_refl _, hrg.walk⟩)
      obtain ⟨fn, tmps, assign, body, hy, hR⟩ := hY ss x w2 hJ2 (by omega)
      clear hs2
      gi_wp2
      refine hR.mono ?_
      rintro e W3 (⟨rfl, hJ3, hk3⟩ | ⟨rfl, hJx3⟩)
      · gi_wp2
        have hrg3 := hrg2.walks hk3
        go_roundw
        case rel => exact ⟨_, cnt2, ss ++ [x], hrg3, by simp; omega, hC.step hx hlx hfx, hJ3⟩
        case measure => rw [hrg3.left_eq, hrg.left_eq]; exact hlt
      · gi_wp2
        refine bodyPost_ret (results_none rfl _ _ _) rfl ?_
        exact ⟨⟨_, rfl⟩, .inr ⟨_, hJx3⟩⟩

theorem keys_keep (F : Fence) (n : Nat) (hf : F.fn 100) (hro : F.round = none) (hn : 1 ≤ n) (Bm b nn : Nat) (f : Int → Option OfH) (w : World) (hBm : Bm < w.heap.size)
    (hm : w.cell? ⟨Bm, 0, none⟩ = some (.map (some b))) (hown : MapF Tryz.prog 22 u32Ok (intLit .u32) ofV w b nn f) :
    SeqStopsK F n Tryz.prog 100 #[.pointer (some ⟨Bm, 0, none⟩)] (fun x : Int => #[.int .u32 x]) KeepsWalks (KeysOf f) (fun _ => True) nn w := fun lp J Jx W hW hJ _ hY h0 => by
  refine (keys1_in F n hf hro hn lp Bm b nn f J Jx hY W hJ ((hW.cell (p := ⟨Bm, 0, none⟩) hBm).trans hm) (hown.grow hW) h0).mono ?_
  rintro e W2 ⟨h1, ⟨ys, h2, h3⟩ | ⟨pre, h2⟩⟩
  · exact ⟨h1, .inl ⟨ys, h2, h3⟩⟩
  · exact ⟨h1, .inr ⟨pre, trivial, h2⟩⟩

def ApJ (w : World) (nn : Nat) (pre : List Int) (W : World) : Prop :=
  ((∃ v, Boxed W w.heap.size 44 v ∧ W.ownsRow w.heap.size 22 1 v pre.length ((pre.map u32E).flatten) ∧ True) ∧ Below w.heap.size w W) ∧ pre.length ≤ nn
theorem ApJ.own (w : World) (nn B : Nat) (hB : w.heap.size ≤ B) : OwnFrom B (ApJ w nn) :=
  OwnFrom.and (OwnFrom.and (Own.from (holdsRow_own _ _ _ _ _ _ _ (fun _ _ => True)) _) (ownFrom_below (Nat.le_refl _) hB)) (ownFrom_pure _ _)

def KeysPost (nn : Nat) (f : Int → Option OfH) (w : World) (e : Ending) (w' : World) : Prop :=
  ∃ v ss, e = .returned v ∧ KeysOf f ss ∧ w'.ownsRow w.heap.size 22 1 v ss.length ((ss.map u32E).flatten) ∧ Below w.heap.size w w' ∧ ss.length ≤ nn

end Go.Proofs.YtogdconliofblaaGreat

namespace Go.Proofs.YtogdconliofblaaGreat
open Go.RowKit Go.Shelf
attribute [local go_sem] Oper.semAt_some

theorem wpListIn_append_1 {F : Fence} {n : Nat} {P : Program} {w : World} {ops : Array Oper} {rest : List Oper} {o : Oper} {a : Act} {Q : Exit → Act → World → Prop} (hgd : o.guard = none) (s x : Operand) (t : TypeId)
    (ho : o.op = .call { callee := .builtin .append, args := #[s, x], argTypes := #[t, t] })
    (base : Nat) (e : TypeId) (i : TypeInfo) (z : Value) (size bytes : Nat) (ht : P.underlying t = some (.slice e)) (hi : P.info? e = some i) (hz : i.zero = some z)
    (hsize : i.size = size) (hby : i.bytes = bytes) (hzs : z.cells.size = size) (hsz : 0 < size)
    (v : Value) (k : Nat) (xs : List Value) (hs : a.eval s = v) (hown : w.ownsRow base e size v k xs)
    (nb : Nat) (vals : List Value) (te : TypeId) (hx : a.eval x = .slice (some ⟨nb, 0, none⟩) 1 1) (hblk : w.heap[nb]? = some (.cells vals.toArray te (0, 0))) (hl : vals.length = size) (h1 : ∀ u ∈ vals, u.oneCell' = true)
    (h63 : k + 1 ≤ maxLen) (hbytes : (k + 1) * bytes ≤ 140737488355328) (hbase : base ≤ w.heap.size)
    (h : ∀ v' w', w'.ownsRow base e size v' (k + 1) (xs ++ vals) → w.grownBy w' v.ownBlock → wpListIn F n P ops Q rest (a.put o.dst v') w') : wpListIn F n P ops Q (o :: rest) a w := by
  refine wpListIn_append_own w hgd s x t ho base e i z size bytes ht hi hz hsize hby hzs hsz v k xs hs hown ⟨nb, 0, none⟩ 1 1 vals hx (by rw [hl, Nat.one_mul]) ?_ h1 h63 hbytes hbase fun v' w' h2 h3 _ => h v' w' h2 h3
  intro j u hu
  have := blk_cell (i := j) hblk (by simpa using hu)
  have e : (⟨nb, 0, none⟩ : Addr).add j = ⟨nb, j, none⟩ := by
    cases j with
    | zero => rfl
    | succ j => simp [Addr.add]
  rw [e]; exact this

set_option maxRecDepth 100000 in
set_option maxHeartbeats 4000000 in
theorem appendseq_calls (w : World) (Bm b nn : Nat) (f : Int → Option OfH) (hBm : Bm < w.heap.size) (hm : w.cell? ⟨Bm, 0, none⟩ = some (.map (some b))) (hown : MapF Tryz.prog 22 u32Ok (intLit .u32) ofV w b nn f) (h64 : nn ≤ 3000) :
    Calls Tryz.prog 140 #[.slice none 0 0, .func (.func 100) #[] #[.pointer (some ⟨Bm, 0, none⟩)]] w (KeysPost nn f w) := by
  obtain ⟨i0, hi0, hz0, hz1, hz2⟩ := info_parts Tryz.infoU32
  have HI0 := Lib.hid hi0
  have HZ0 := Lib.hid hz0
  have HZ1 := Lib.hid hz1
  have HZ2 := Lib.hid hz2
  clear hi0 hz0 hz1 hz2
  refine (callsIn_wide (n := 5)).1 ?_
  refine callsIn_of_wp_marks Tryz.func140 rfl trivial ?_ rfl
  simp only [Tryz.ntmps140, List.size_toArray, List.length_cons, List.length_nil, Nat.reduceAdd, Nat.reduceSub, Array.replicate_succ, Array.replicate_zero, List.push_toArray, List.append_toArray, List.nil_append, List.cons_append]
  gi_wp2
  obtain ⟨W0, hW0⟩ : ∃ W0, w.alloc (.cells #[.slice none 0 0] 44) = W0 := ⟨_, rfl⟩
  have sz : W0.heap.size = w.heap.size + 1 := by rw [← hW0]; simp
  have B0 : Below w.heap.size w W0 := by rw [← hW0]; exact (Below.refl _ _).alloc (Nat.le_refl _) _
  have bO : Boxed W0 w.heap.size 44 (.slice none 0 0) := by rw [← hW0]; exact Boxed.new w _ _
  rw [hW0]
  clear hW0
  refine wpIn_rangeFunc_ownH rfl (by omega) (gf := 100) (lb := #[.pointer (some ⟨Bm, 0, none⟩)]) rfl trivial (enters_of Tryz.func100 (by kernel_rfl) rfl)
    (keys_keep Fence.wide _ trivial rfl (by omega) Bm b nn f w hBm hm hown) KeepsWalks.trans (fun W l o o' _ h1 _ h3 => KeepsWalks.putObj o' h1 h3) B0 (fun _ => rfl)
    (ApJ w nn) (fun _ _ _ => False) (ApJ.own w nn _ (by omega)) (fun c => fun _ _ _ _ h => h.elim)
    ⟨⟨⟨_, bO, World.ownsRow_nil _ _ _ _, trivial⟩, B0⟩, Nat.zero_le _⟩
    (fun x a' W => a' = { tmps := #[.slice none 0 0, .func (.func 100) #[] #[.pointer (some ⟨Bm, 0, none⟩)], .pointer (some ⟨w.heap.size, 0, none⟩), undef, .slice none 0 0, .int .u32 x, .func (.func 100) #[] #[.pointer (some ⟨Bm, 0, none⟩)], .int .u32 x, undef, undef, undef, undef, undef], defers := [] }) ?hAx ?assign ?body ?done ?stop
  case hAx =>
    intro x a' _ A B row h _ _
    exact h
  case assign =>
    rintro l' pre x W K hi hK
    gi_wp2
    exact hK _ _ ((KeepsOthers.refl _).from _) (KeepsWalks.refl _) hi rfl
  case body =>
    rintro l' pre x a' W hl' ⟨r, hr⟩ hi rfl hlt
    obtain ⟨⟨⟨v, hv, hrow, -⟩, hB⟩, hle⟩ := hi
    have SZ : Hid (w.heap.size ≤ W.heap.size) := Lib.hid hB.size
    have cV := hv.cell
    have HV := Lib.hid hv
    have HR := Lib.hid hrow
    have HB := Lib.hid hB
    have K1 : Hid (pre.length + 1 ≤ maxLen) := Lib.hid (by unfold maxLen; omega)
    have K2 : Hid ((pre.length + 1) * 4 ≤ 140737488355328) := Lib.hid (by omega)
    have K3 : Hid (pre.length + 1 ≤ nn) := Lib.hid (by omega)
    have ONE : Hid (∀ u ∈ ([.int .u32 x] : List Value), u.oneCell' = true) := Lib.hid (by intro u hu; rw [List.mem_singleton] at hu; subst hu; rfl)
    have BS : Hid (w.heap.size ≤ (W.alloc (.cells #[.int .u32 x] 22)).heap.size) := Lib.hid (by have := hB.size; simp; omega)
    have OW := Lib.hid (hrow.alloc (.cells #[.int .u32 x] 22))
    have BK : Hid ((W.alloc (.cells #[.int .u32 x] 22)).heap[W.heap.size]? = some (.cells (List.toArray [.int .u32 x]) 22 (0, 0))) := Lib.hid (alloc_new W _)
    have APP := Lib.hid (fun (v' : Value) (w1 : World) hown' hgrow => Boxed.appended (W := W) (w1 := w1) (n₀ := w.heap.size) (B := w.heap.size) (t := 44) (e := 22) (size := 1) (v := v) (v' := v') (k := pre.length) (m := pre.length + 1) (ys := (pre.map u32E).flatten ++ [.int .u32 x]) (tmp := .cells #[.int .u32 x] 22) hv (by decide) hrow hB.size (Nat.le_refl _) hown' hgrow)
    clear hv hrow hB hlt hle
    gi_wp2_with (gi_at_builtin; refine wpListIn_append_1 rfl (.tmp 8) (.tmp 10) 44 rfl w.heap.size 22 i0 (.int .u32 0) 1 4 Tryz.underlying44 HI0.out HZ0.out HZ1.out HZ2.out rfl (by decide) v pre.length _ rfl OW.out W.heap.size [.int .u32 x] 22 rfl BK.out rfl ONE.out K1.out K2.out BS.out ?_; intro v' w1 hown' hgrow; obtain ⟨g', cap', rfl⟩ := ownsRow_succ hown'; obtain ⟨hv1, hv2, hr2, hk2, hb2⟩ := APP.out _ w1 hown' hgrow; have hc1 := hv1.cell; have hf1 := hv1.frozen; (have KO := Lib.hid hk2); (have KB := Lib.hid hb2); (have HV2 := Lib.hid hv2); (have HR2 := Lib.hid hr2); clear hv1 hv2 hr2 hk2 hb2 hown' hgrow)
    refine ⟨KO.out.from _, KO.out.walks, ⟨⟨_, HV2.out, ?_, trivial⟩, HB.out.trans KB.out⟩, ?_⟩
    · have := HR2.out
      rw [List.length_append, List.map_append, List.flatten_append, List.length_singleton]
      simpa [u32E] using this
    · rw [List.length_append]; exact K3.out
  case done =>
    rintro D ys W hD hys ⟨⟨⟨v, hv, hrow, -⟩, hB⟩, hle⟩ hK
    have cV := hv.cell
    have HD : Hid (w.heap.size ≤ D) := Lib.hid (by omega)
    have FIN := Lib.hid (And.intro hys (And.intro (ownsRow_putObj hrow (.deferred none) hK rfl) (And.intro (hB.grown (grownBy_putObj' W D (.deferred none)) hB.size (fun k e => by cases e; omega)) hle)))
    have HK := Lib.hid hK
    clear hv hrow hB hys hK
    gi_wp2
    refine ⟨by simp, .inl ⟨_, _, rfl, run_takeDeferred HK.out, ?_⟩⟩
    exact ⟨_, results_tmp rfl _ _ _, v, ys, rfl, FIN.out⟩
  case stop =>
    rintro D c pre W hD _ h _
    exact h.elim

set_option maxHeartbeats 4000000 in
theorem collect_calls (w : World) (Bm b nn : Nat) (f : Int → Option OfH) (hBm : Bm < w.heap.size) (hm : w.cell? ⟨Bm, 0, none⟩ = some (.map (some b))) (hown : MapF Tryz.prog 22 u32Ok (intLit .u32) ofV w b nn f) (h64 : nn ≤ 3000) :
    Calls Tryz.prog 98 #[.func (.func 100) #[] #[.pointer (some ⟨Bm, 0, none⟩)]] w (KeysPost nn f w) := by
  have h := appendseq_calls w Bm b nn f hBm hm hown h64
  go_enter Tryz.func98, Tryz.ntmps98
  go_wp2_with fail
  refine h.mono ?_
  rintro e w' ⟨v, ss, rfl, h1⟩
  go_wp2_with fail
  go_ret
  exact ⟨v, ss, rfl, h1⟩

/-- the keys, in order -/
def SortedPost (nn : Nat) (f : Int → Option OfH) (w : World) (e : Ending) (w' : World) : Prop :=
  ∃ (v : Value) (ks : List Int), e = .returned v ∧ ks.Pairwise (· < ·) ∧ (∀ x, x ∈ ks ↔ u32Ok x ∧ (f x).isSome = true) ∧ w'.ownsRow w.heap.size 22 1 v ks.length ((ks.map u32E).flatten) ∧ Below w.heap.size w w' ∧ ks.length ≤ nn

theorem keysOf_sorted {β : Type} {f : Int → Option β} {ss : List Int} (h : KeysOf f ss) : (ss.mergeSort fun x y => decide (x ≤ y)).Pairwise (· < ·) ∧ ∀ x, x ∈ (ss.mergeSort fun x y => decide (x ≤ y)) ↔ u32Ok x ∧ (f x).isSome = true := by
  have h2 : (ss.mergeSort fun x y => decide (x ≤ y)).Pairwise (fun a b => decide (a ≤ b) = true) := List.pairwise_mergeSort (fun a b c h1 h2 => by simp at *; omega) (fun a b => by simp; omega) ss
  have hp := List.mergeSort_perm ss (fun x y => decide (x ≤ y))
  refine ⟨?_, fun x => by rw [hp.mem_iff]; exact h.2 x⟩
  have hn : (ss.mergeSort fun x y => decide (x ≤ y)).Nodup := hp.nodup_iff.2 h.1
  refine (hn.and h2).imp ?_
  rintro a b ⟨h1, h2⟩
  have := of_decide_eq_true h2
  have : a ≠ b := h1
  omega

set_option maxHeartbeats 4000000 in
theorem sorted_calls (w : World) (Bm b nn : Nat) (f : Int → Option OfH) (hBm : Bm < w.heap.size) (hm : w.cell? ⟨Bm, 0, none⟩ = some (.map (some b))) (hown : MapF Tryz.prog 22 u32Ok (intLit .u32) ofV w b nn f) (h64 : nn ≤ 3000) :
    Calls Tryz.prog 68 #[.func (.func 100) #[] #[.pointer (some ⟨Bm, 0, none⟩)]] w (SortedPost nn f w) := by
  have h := collect_calls w Bm b nn f hBm hm hown h64
  go_enter Tryz.func68, Tryz.ntmps68
  go_wp2_with fail
  refine h.mono ?_
  rintro e w1 ⟨v, ss, rfl, hk, hrow, hb, hlen⟩
  have SW := sort_words w.heap.size w1 v ss hrow (by omega)
  have HK := Lib.hid (keysOf_sorted hk)
  have HB := Lib.hid hb
  have HL := Lib.hid hlen
  clear h hk hrow hb hlen
  go_wp2_with fail
  refine SW.mono ?_
  rintro e w2 ⟨rfl, hrow2, hb2, -⟩
  have hl : (ss.mergeSort fun x y => decide (x ≤ y)).length = ss.length := List.length_mergeSort ..
  have FIN : Hid (SortedPost nn f w (.returned v) w2) := Lib.hid ⟨v, _, rfl, HK.out.1, HK.out.2, by rw [hl]; exact hrow2, HB.out.trans hb2, by rw [hl]; exact HL.out⟩
  clear hrow2 hb2 SW hl
  go_wp2_with fail
  go_ret
  exact FIN.out

set_option maxHeartbeats 4000000 in
theorem mapkeys_calls (w : World) (b : Nat) :
    Calls Tryz.prog 69 #[.map (some b)] w fun e w' => e = .returned (.func (.func 100) #[] #[.pointer (some ⟨w.heap.size, 0, none⟩)]) ∧ w' = w.alloc (.cells #[.map (some b)] 120) := by
  go_enter Tryz.func69, Tryz.ntmps69
  go_wp2_with fail
  go_ret
  exact ⟨rfl, rfl⟩

end Go.Proofs.YtogdconliofblaaGreat

namespace Go.Proofs.YtogdconliofblaaGreat
open Go.RowKit

theorem tb_bsI (g : Int → Option Of) (i j : Int) (c : Int) (ha : Option Addr) (hn hc : Nat) (hops : List Ls.Hop) : tbAdd g i ⟨c, Ls.merge Ls.hopLt hops []⟩ j = bsO ⟨j, 0⟩ (g j) ⟨⟨i, 0⟩, c, ha, hn, hc, hops⟩ := by
  by_cases h1 : 16777216 < c
  · rw [tbAdd_big h1, bsO_off fun h => by have := h.2; simp only at this; omega]
  by_cases e : i = j
  · subst e
    have ok : (⟨⟨i, 0⟩, c, ha, hn, hc, hops⟩ : OfP).pfx = ⟨i, 0⟩ ∧ (⟨⟨i, 0⟩, c, ha, hn, hc, hops⟩ : OfP).cost ≤ 16777216 := ⟨rfl, by simp only; omega⟩
    cases e2 : g i with
    | none =>
      rw [tbAdd_new h1 e2, bsO_none ok]
      simp [upd, merge_nil]
    | some z =>
      rcases Int.lt_trichotomy c z.cost with d | d | d
      · rw [tbAdd_lt h1 e2 d, bsO_lt ok d]
        simp [upd, merge_nil]
      · rw [tbAdd_eq h1 e2 d, bsO_eq ok d]
        simp [upd, merge_merge]
      · rw [tbAdd_gt h1 e2 d, bsO_gt ok d, e2]
  · rw [bsO_off fun h => e (by have := h.1; simp only at this; cases this; rfl)]
    cases e2 : g i with
    | none => rw [tbAdd_new h1 e2]; unfold upd; exact if_neg fun h => e h.symm
    | some z =>
      have up : ∀ x : Of, upd g i x j = g j := fun x => by unfold upd; exact if_neg fun h => e h.symm
      rcases Int.lt_trichotomy c z.cost with d | d | d
      · rw [tbAdd_lt h1 e2 d]; exact up _
      · rw [tbAdd_eq h1 e2 d]; exact up _
      · rw [tbAdd_gt h1 e2 d]

theorem bs_ofKB (area router : Int) (reach : List Rch) (db : List Lsa) (hv : ∀ x ∈ db, x.typ = 4 → x.len = 0) : ∀ k, k ≤ db.length → ∀ p, ofKB area router reach db k p = (rfL 4 area router reach db k).foldl (bsO ⟨p, 0⟩) none
  | 0, _, p => rfl
  | k + 1, hk, p => by
    have c : k < db.length := by omega
    have ih := bs_ofKB area router reach db hv k (by omega)
    rw [ofKB_succ area router reach db c, rfL_succ 4 area router reach db c, List.foldl_append]
    unfold ofStepB rfSel
    by_cases h : inK 4 router db[k] = true
    · rw [if_pos h, if_pos h]
      cases e : wayF area db[k].router reach with
      | none => simp only; rw [ih p]; rfl
      | some y =>
        simp only
        unfold tbB
        by_cases d : db[k].id = router
        · rw [if_pos d, if_neg (by simp [d]), ih p]; rfl
        · rw [if_neg d, if_pos (.inr d), hv _ (List.getElem_mem c) (inK_typ h)]
          unfold ofO
          rw [tb_bsI _ _ _ _ y.ha y.hn y.hc, ih p]
          rfl
    · rw [if_neg h, if_neg h]
      simp only
      rw [ih p]; rfl

theorem ofKB_okU (area router : Int) (reach : List Rch) (db : List Lsa) (hp : ∀ x ∈ db, x.typ = 4 → x.len = 0 ∧ u32Ok x.id) {k : Nat} {p : Ls.Pfx} (h : p ∈ (rfL 4 area router reach db k).map OfP.pfx) : p.len = 0 ∧ u32Ok p.addr := by
  obtain ⟨o, ho, rfl⟩ := List.mem_map.1 h
  obtain ⟨x, hx, y, h1, _, _, rfl⟩ := rfL_hops ho
  exact hp x hx (inK_typ h1)

/-- the ways, in order of their routers, each as g tells it -/
def BoIs (area : Int) (g : Int → Option Of) (l : List Rq) : Prop :=
  (l.Pairwise fun a b => a.router < b.router) ∧ ∀ r, r ∈ l ↔ u32Ok r.router ∧ ∃ o, g r.router = some o ∧ r = boP area ⟨r.router, 0⟩ o

theorem bounds_eq33 {area router : Int} {reach : List Rch} {db : List Lsa} (hv : ∀ x ∈ db, x.typ = 4 → x.len = 0 ∧ u32Ok x.id) {l : List Rq} (hl : BoIs area (ofKB area router reach db db.length) l) :
    l = (Ls.adds Ls.pfxLt [] ((rfL 4 area router reach db db.length).map OfP.pfx)).filterMap (bsel area (rfL 4 area router reach db db.length)) := by
  obtain ⟨asc, hm⟩ := hl
  have sel : ∀ i r, bsel area (rfL 4 area router reach db db.length) ⟨i, 0⟩ = some r ↔ ∃ o, ofKB area router reach db db.length i = some o ∧ r = boP area ⟨i, 0⟩ o := by
    intro p r
    unfold bsel
    rw [bsK_all, ← bs_ofKB area router reach db (fun x h1 h2 => (hv x h1 h2).1) _ (Nat.le_refl _), Option.map_eq_some_iff]
    exact ⟨fun ⟨o, h1, h2⟩ => ⟨o, h1, h2.symm⟩, fun ⟨o, h1, h2⟩ => ⟨o, h1, h2.symm⟩⟩
  have inL : ∀ p, p ∈ Ls.adds Ls.pfxLt [] ((rfL 4 area router reach db db.length).map OfP.pfx) → p.len = 0 ∧ u32Ok p.addr := by
    intro p hp
    rw [Ls.mem_adds] at hp
    rcases hp with h | h
    · cases h
    · exact ofKB_okU area router reach db hv h
  refine asc_eq (R := fun a b : Rq => a.router < b.router) (fun a => by omega) (fun a b c h1 h2 => by omega) _ _ asc ?_ fun r => ?_
  · have ha : Ls.Asc Ls.pfxLt (Ls.adds Ls.pfxLt [] ((rfL 4 area router reach db db.length).map OfP.pfx)) := Ls.asc_adds Ls.pfxLin _ _ (by simp [Ls.Asc])
    rw [List.pairwise_filterMap]
    refine List.Pairwise.imp_of_mem ?_ ha
    rintro ⟨a, al⟩ ⟨b, bl⟩ ma mb hab r hr s hs
    obtain rfl : al = 0 := (inL _ ma).1
    obtain rfl : bl = 0 := (inL _ mb).1
    obtain ⟨o, _, rfl⟩ := (sel a r).1 hr
    obtain ⟨o', _, rfl⟩ := (sel b s).1 hs
    show a < b
    simpa [Ls.pfxLt, Ls.lexB] using hab
  · rw [hm, List.mem_filterMap]
    constructor
    · rintro ⟨_, o, h1, h2⟩
      refine ⟨⟨r.router, 0⟩, ?_, (sel _ _).2 ⟨o, h1, h2⟩⟩
      rw [Ls.mem_adds]
      right
      refine bsK_mem (z := o) ?_
      rw [← bs_ofKB area router reach db (fun x h1 h2 => (hv x h1 h2).1) _ (Nat.le_refl _)]; exact h1
    · rintro ⟨⟨p, pl⟩, hpm, hs⟩
      obtain ⟨h0, hok⟩ := inL _ hpm
      simp only at h0 hok
      subst h0
      obtain ⟨o, h1, rfl⟩ := (sel _ _).1 hs
      exact ⟨hok, o, h1, rfl⟩

end Go.Proofs.YtogdconliofblaaGreat

namespace Go.Proofs.YtogdconliofblaaGreat
open Go.RowKit

theorem wpList_look_val {P : Program} {k : TypeId} {α β : Type} {ok : α → Prop} {mkK : α → Value} {lit : α → Lit} {mkV : β → Value} {ops : Array Oper} {rest : List Oper} {o : Oper} {a : Act} {Q : Exit → Act → World → Prop}
    (w : World) (hg : o.guard = none) (m x : Operand) (t : TypeId) (hop : o.op = Op.lookup t m x false) (e : TypeId) (K : KeyIs P k ok mkK lit) (ht : P.underlying t = some (.map k e)) {z : Value} (hz : (zeroValue e).run P w = .ok z w)
    (b n : Nat) (f : α → Option β) (hm : a.eval m = .map (some b)) (hown : MapF P k ok lit mkV w b n f) (y : α) (hx : a.eval x = mkK y) (hy : ok y) (c : β) (hf : f y = some c)
    (hK : wpList P ops Q rest (a.put o.dst (mkV c)) w) : wpList P ops Q (o :: rest) a w := by
  obtain ⟨D, h1, h2⟩ := hown
  have ha := (h2 y hy).2 c hf
  refine wpList_plain hg fun K' hK' => ?_
  obtain ⟨v, ps, hrun, hv⟩ := h1.lookup K.keyed ht hz (zd := .held z) (zp := []) rfl (K.of y hy)
  rw [ha] at hv
  simp only [heldR, Option.some.injEq, Prod.mk.injEq, DataW.held.injEq] at hv
  obtain ⟨rfl, -⟩ := hv
  unfold Oper.wp
  simp [execOp, hop, hm, hx, hrun, Result.andThen]
  exact hK' _ _ hK

theorem boIs_of {area : Int} {g : Int → Option Of} {f : Int → Option OfH} {ks : List Int} (asc : ks.Pairwise (· < ·)) (mem : ∀ x, x ∈ ks ↔ u32Ok x ∧ (f x).isSome = true) (val : ∀ p, (f p).map OfH.pure = g p) :
    BoIs area g (ks.filterMap fun r => (g r).map (boP area ⟨r, 0⟩)) := by
  constructor
  · rw [List.pairwise_filterMap]
    refine asc.imp ?_
    intro a b hab r hr s hs
    obtain ⟨o, _, rfl⟩ := Option.map_eq_some_iff.1 hr
    obtain ⟨o', _, rfl⟩ := Option.map_eq_some_iff.1 hs
    exact hab
  · intro r
    rw [List.mem_filterMap]
    constructor
    · rintro ⟨i, hi, hs⟩
      obtain ⟨o, ho, rfl⟩ := Option.map_eq_some_iff.1 hs
      exact ⟨((mem i).1 hi).1, o, ho, rfl⟩
    · rintro ⟨h1, o, ho, e⟩
      refine ⟨r.router, (mem _).2 ⟨h1, ?_⟩, ?_⟩
      · rw [← val] at ho
        cases hf : f r.router with
        | none => rw [hf] at ho; cases ho
        | some z => rfl
      · show (g r.router).map _ = some r
        rw [ho]
        exact congrArg some e.symm

def boR (area : Int) (r : Int) (x : OfH) : Rch := ⟨r, area, true, false, true, x.cost, x.ha, x.hn, x.hc, x.hops⟩

/-- the ways to k routers are put out -/
structure BoW (W1 : World) (area : Int) (g : Int → Option Of) (ks : List Int) (k : Nat) (out : List Rch) (v : Value) (wr : World) : Prop where
  hk : k ≤ ks.length
  eq : out.map Rch.pq = (ks.take k).filterMap fun r => (g r).map (boP area ⟨r, 0⟩)
  own : wr.ownsRow W1.heap.size 50 7 v out.length (out.map rchE).flatten
  hops : ∀ x ∈ out, HopsAt W1 (Value.slice x.ha x.hn x.hc) x.hops
  len : out.length ≤ k
  bel : Below W1.heap.size W1 wr
theorem BoW.start (W1 : World) (area : Int) (g : Int → Option Of) (ks : List Int) : BoW W1 area g ks 0 [] (.slice none 0 0) W1 :=
  ⟨Nat.zero_le _, rfl, World.ownsRow_nil _ _ _ _, (fun x hx => by cases hx), Nat.le_refl _, Below.refl _ _⟩
theorem BoW.below {W1 : World} {area : Int} {g : Int → Option Of} {ks : List Int} {k : Nat} {out : List Rch} {v : Value} {wr W' : World} (R : BoW W1 area g ks k out v wr) (hb : Below wr.heap.size wr W') : BoW W1 area g ks k out v W' :=
  ⟨R.hk, R.eq, World.ownsRow.kept (row := none) R.own (grown_of_below hb none) (by cases v.ownBlock <;> simp), R.hops, R.len, R.bel.trans (hb.mono R.bel.size)⟩
theorem BoW.push {W1 : World} {area : Int} {g : Int → Option Of} {f : Int → Option OfH} {ks : List Int} {k : Nat} {out : List Rch} {v v' : Value} {wr W w4 : World} (R : BoW W1 area g ks k out v wr) (c : k < ks.length) {x : OfH} (h : f ks[k] = some x) (val : ∀ p, (f p).map OfH.pure = g p)
    (hb : Below wr.heap.size wr W) (hh : HopsAt W1 (Value.slice x.ha x.hn x.hc) x.hops)
    (own' : w4.ownsRow W1.heap.size 50 7 v' (out.length + 1) ((out.map rchE).flatten ++ rchE (boR area ks[k] x))) (hg4 : W.grownBy w4 v.ownBlock) : BoW W1 area g ks (k + 1) (out ++ [boR area ks[k] x]) v' w4 := by
  have R' := R.below hb
  refine ⟨c, ?_, ?_, fun y hy => ?_, by have := R.len; rw [List.length_append, List.length_singleton]; omega, R'.bel.grown hg4 R'.bel.size (fun j hj => (World.ownsRow.lt R'.own j hj).1)⟩
  · rw [List.take_succ_eq_append_getElem c, List.filterMap_append, List.map_append, R.eq]
    have : (g ks[k]).map (boP area ⟨ks[k], 0⟩) = some (boR area ks[k] x).pq := by rw [← val, h]; rfl
    simp [this]
  · rw [List.map_append, List.length_append, List.flatten_append]
    simpa using own'
  · rcases List.mem_append.1 hy with h1 | h1
    · exact R.hops y h1
    · rw [List.mem_singleton] at h1
      subst h1; exact hh

def BoPost (w : World) (area : Int) (g : Int → Option Of) (e : Ending) (w' : World) : Prop := ∃ v l, e = .returned v ∧ ReachAt w' v l ∧ Below w.heap.size w w' ∧ BoIs area g (l.map Rch.pq)

theorem BoW.post {w W1 : World} {area : Int} {g : Int → Option Of} {f : Int → Option OfH} {ks : List Int} {out : List Rch} {v : Value} {wr : World} (R : BoW W1 area g ks ks.length out v wr) (hw : Below w.heap.size w W1)
    (asc : ks.Pairwise (· < ·)) (mem : ∀ x, x ∈ ks ↔ u32Ok x ∧ (f x).isSome = true) (val : ∀ p, (f p).map OfH.pure = g p) : BoPost w area g (.returned v) wr := by
  refine ⟨v, out, rfl, ⟨SlV.of_own (base := W1.heap.size) (e := 50) (fun cs hcs => by obtain ⟨o, _, rfl⟩ := List.mem_map.1 hcs; rfl) (by rw [List.length_map]; exact R.own), fun x hx => (R.hops x hx).below R.bel⟩, hw.trans (R.bel.mono hw.size), ?_⟩
  rw [R.eq, List.take_length]
  exact boIs_of asc mem val

set_option maxHeartbeats 16000000 in
set_option maxRecDepth 100000 in
theorem bounds_calls (w : World) (area router : Int) (reach : List Rch) (db : List Lsa) (vd vr : Value) (hd : LsasAt w vd db) (hr : ReachAt w vr reach)
    (okl : ∀ x ∈ db, OkL x) (cost : ∀ x ∈ db, x.typ = 4 → 0 ≤ x.cost ∧ x.cost ≤ 16777216) (rc : ∀ y ∈ reach, costFine y.cost) (hN : (db.length + 2) * hopSum reach * 16 ≤ 140737488355328) (n1 : db.length ≤ 2000) :
    Calls Tryz.prog 28 #[.agg #[.int .u32 area, vd], .int .u32 router, vr] w (BoPost w area (ofKB area router reach db db.length)) := by
  obtain ⟨i0, hi0, hz0, hz1, hz2⟩ := info_parts Tryz.infoRch
  have HI0 := Lib.hid hi0
  have HZ0 := Lib.hid hz0
  have HZ1 := Lib.hid hz1
  have HZ2 := Lib.hid hz2
  have hmm := @run_makeMap Tryz.prog
  have HN1 := Lib.hid n1
  obtain ⟨W1, hW1⟩ : ∃ W1, w.alloc (.cells #[.int .u32 area, vd] 36) = W1 := ⟨_, rfl⟩
  have B1 : Below w.heap.size w W1 := by rw [← hW1]; exact (Below.refl _ _).alloc (Nat.le_refl _) _
  have b1 : W1.heap[w.heap.size]? = some (.cells #[.int .u32 area, vd] 36 (0, 0)) := by rw [← hW1]; exact alloc_new w _
  have z1 : W1.heap.size = w.heap.size + 1 := by rw [← hW1]; simp
  obtain ⟨W2, hW2⟩ : ∃ W2, W1.alloc (.cells #[.int .u32 router] 22) = W2 := ⟨_, rfl⟩
  have B2 : Below W1.heap.size W1 W2 := by rw [← hW2]; exact (Below.refl _ _).alloc (Nat.le_refl _) _
  have b2 : W2.heap[w.heap.size + 1]? = some (.cells #[.int .u32 router] 22 (0, 0)) := by rw [← hW2, ← z1]; exact alloc_new _ _
  have z2 : W2.heap.size = w.heap.size + 2 := by rw [← hW2]; simp; omega
  obtain ⟨W3, hW3⟩ : ∃ W3, W2.alloc (.map #[] 0) = W3 := ⟨_, rfl⟩
  have B3 : Below W2.heap.size W2 W3 := by rw [← hW3]; exact (Below.refl _ _).alloc (Nat.le_refl _) _
  have z3 : W3.heap.size = W2.heap.size + 1 := by rw [← hW3]; simp
  have M3 : MapF Tryz.prog 22 u32Ok (intLit .u32) ofV W3 W2.heap.size 0 (fun _ => none) := by rw [← hW3]; exact MapF.made W2
  have T3 : ObAt 22 u32Ok (intLit .u32) W3 W2.heap.size 0 (fun _ => none) (fun _ => none) := ⟨M3, fun _ => rfl, fun p x h => by cases h⟩
  obtain ⟨W4, hW4⟩ : ∃ W4, W3.alloc (.cells #[.map (some W2.heap.size)] 122) = W4 := ⟨_, rfl⟩
  have B4 : Below W3.heap.size W3 W4 := by rw [← hW4]; exact (Below.refl _ _).alloc (Nat.le_refl _) _
  have b4 : W4.heap[W2.heap.size + 1]? = some (.cells #[.map (some W2.heap.size)] 122 (0, 0)) := by rw [← hW4, ← z3]; exact alloc_new _ _
  have z4 : W4.heap.size = W2.heap.size + 2 := by rw [← hW4]; simp; omega
  obtain ⟨W5, hW5⟩ : ∃ W5, W4.alloc (.cells #[addBV W2.heap.size] 123) = W5 := ⟨_, rfl⟩
  have B5 : Below W4.heap.size W4 W5 := by rw [← hW5]; exact (Below.refl _ _).alloc (Nat.le_refl _) _
  have b5 : W5.heap[W4.heap.size]? = some (.cells #[addBV W2.heap.size] 123 (0, 0)) := by rw [← hW5]; exact alloc_new _ _
  have B35 := B4.trans (B5.mono B4.size)
  have B25 := B3.trans (B35.mono B3.size)
  have B15 := B2.trans (B25.mono B2.size)
  have B05 := B1.trans (B15.mono B1.size)
  have a5 := (B15.block _ (blk_lt b1)).trans b1
  have r5 := (B25.block _ (blk_lt b2)).trans b2
  have t5 := (B5.block _ (blk_lt b4)).trans b4
  have OC := Lib.hid (offersb_calls W5 area router reach db vd vr (hd.below B05) (hr.below B05) W2.heap.size W4.heap.size (w.heap.size + 1) 0 (by omega) (by omega) ⟨_, T3.grow B35⟩ b5 r5 okl cost rc hN n1 (by omega))
  have x40 := blk_cell (i := 0) b4 rfl
  have y0 := blk_cell (i := 0) a5 rfl
  have y1 := blk_cell (i := 1) a5 rfl
  have yr := blk_cell (i := 0) r5 rfl
  have HW1 := Lib.hid hW1
  have HW2 := Lib.hid hW2
  have HW3 := Lib.hid hW3
  have HW4 := Lib.hid hW4
  simp only [addBV] at hW5
  have HW5 := Lib.hid hW5
  have HA5 := Lib.hid a5
  have HT5 := Lib.hid t5
  have HB5 := Lib.hid B05
  have HZ := Lib.hid (⟨z1, z2, z3, z4⟩ : W1.heap.size = w.heap.size + 1 ∧ W2.heap.size = w.heap.size + 2 ∧ W3.heap.size = W2.heap.size + 1 ∧ W4.heap.size = W2.heap.size + 2)
  clear hi0 hz0 hz1 hz2 n1 B1 b1 B2 b2 B3 M3 T3 B4 b4 B5 b5 B35 B25 B15 B05 a5 r5 t5 hW1 hW2 hW3 hW4 hW5 hd hr okl cost rc hN z1 z2 z3 z4
  go_enter Tryz.func28, Tryz.ntmps28
  go_upto_region 1 with fail
  rw [HW1.out, HW2.out]
  go_upto_region 2 with fail
  rw [HW3.out, HW4.out]
  go_upto_region 3 with fail
  rw [HW5.out]
  clear x40
  go_wp2_with fail
  refine OC.out.mono ?_
  rintro e w6 ⟨rfl, ⟨f, T6⟩, G6⟩
  rw [Nat.zero_add] at T6
  have hz := HZ.out
  have BX6 := Lib.hid ((G6.block _ (blk_lt HA5.out) (by simp; omega)).trans HA5.out)
  have BT6 := (G6.block _ (blk_lt HT5.out) (by simp)).trans HT5.out
  have HT6 := Lib.hid BT6
  have OB6 := Lib.hid T6
  have BW6 : Hid (Below w.heap.size w w6) := Lib.hid (HB5.out.grown G6 HB5.out.size (fun j hj => by cases hj; omega))
  have t0 := blk_cell (i := 0) BT6 rfl
  have KC := Lib.hid (mapkeys_calls w6 W2.heap.size)
  have SC := Lib.hid (sorted_calls (w6.alloc (.cells #[.map (some W2.heap.size)] 120)) w6.heap.size W2.heap.size db.length f (by simp) (blk_cell (alloc_new w6 _) rfl) (T6.map.grow ((Below.refl _ _).alloc (Nat.le_refl _) _)) (by have := HN1.out; omega))
  clear hz G6 T6 BT6 y0 y1 yr OC HW1 HW2 HW3 HW4 HW5 HA5 HT5 HB5 HZ
  go_wp2_with fail
  refine KC.out.mono ?_
  rintro e w7 ⟨rfl, rfl⟩
  go_wp2_with fail
  refine SC.out.mono ?_
  rintro e w8 ⟨v8, ks, rfl, ASC, MEM, ROW, B78, LEN⟩
  have HASC := Lib.hid ASC
  have HMEM := Lib.hid MEM
  have LK : Hid (ks.length ≤ 2000) := Lib.hid (by have := HN1.out; omega)
  have B68 : Below w6.heap.size w6 w8 := ((Below.refl _ _).alloc (Nat.le_refl _) _).trans (B78.mono (by simp))
  have BW8 := Lib.hid (BW6.out.trans (B68.mono BW6.out.size))
  have OB8 := Lib.hid (OB6.out.grow B68)
  have BX8 := Lib.hid ((B68.block _ (blk_lt BX6.out)).trans BX6.out)
  have BT8 := Lib.hid ((B68.block _ (blk_lt HT6.out)).trans HT6.out)
  have AT : WordsAt w8 v8 ks := SlV.of_own (e := 22) (fun cs hcs => by obtain ⟨o, _, rfl⟩ := List.mem_map.1 hcs; rfl) (by rw [List.length_map]; exact ROW)
  obtain ⟨sa, scap, rfl, hsc⟩ := AT.get
  have HSC := Lib.hid hsc
  have S0 := Lib.hid (BoW.start w8 area (ofKB area router reach db db.length) ks)
  clear ASC MEM ROW B78 LEN B68 AT hsc BW6 OB6 BX6 HT6 t0 KC SC
  go_wp2_with fail
  generalize W2.heap.size = mb at *
  go_loopw [9, 27] (fun vo iv wr => ∃ (k : Nat) (out : List Rch), iv = .int .i64 k ∧ Hid (BoW w8 area (ofKB area router reach db db.length) ks k out vo wr)) (fun _ i _ => ks.length - (intOf i).toNat)
  case atStart => exact ⟨0, [], rfl, S0⟩
  case round =>
    clear S0
    obtain ⟨k, out, rfl, S⟩ := hrel
    obtain ⟨vO, hvO⟩ : ∃ z, z = u9 := ⟨_, rfl⟩
    subst hvO
    have n0 : (0 : Int) ≤ (k : Int) := by omega
    have n3 : ((k : Int)).toNat = k := by omega
    have n4 := LK.out
    by_cases c : k < ks.length
    · obtain ⟨b, off, rfl, hb0, hcc⟩ := HSC.out (by omega)
      have n1 : (k : Int) < (ks.length : Int) := by omega
      have B8 := S.out.bel
      have d0 := bcell B8 (hcc k c)
      have bx := (B8.block _ (blk_lt BX8.out)).trans BX8.out
      have bt := (B8.block _ (blk_lt BT8.out)).trans BT8.out
      have y0 := blk_cell (i := 0) bx rfl
      have t0 := blk_cell (i := 0) bt rfl
      have mk := (HMEM.out _).1 (List.getElem_mem c)
      obtain ⟨x, hx⟩ := Option.isSome_iff_exists.1 mk.2
      have MP := Lib.hid (OB8.out.map.grow B8)
      have HX := Lib.hid hx
      have HP := Lib.hid mk.1
      have PU := Lib.hid (fun v' W w4 hb own' hg4 => S.out.push (v' := v') (W := W) (w4 := w4) c hx OB8.out.val hb (OB8.out.hops _ _ hx) own' hg4)
      have OWN := Lib.hid (fun W' (hb : Below wr.heap.size wr W') => (S.out.below hb).own)
      have KC := Lib.hid c
      have K1 : Hid (out.length + 1 ≤ maxLen) := Lib.hid (by have h1 := S.out.len; have h2 := LK.out; unfold maxLen; omega)
      have K2 : Hid ((out.length + 1) * 48 ≤ 140737488355328) := Lib.hid (by have h1 := S.out.len; have h2 := LK.out; omega)
      have BSZ := Lib.hid S.out.bel.size
      clear hcc S bx bt B8 mk hx
      generalize ks[k] = r at *
      obtain ⟨oc, oa, on, ocp, oh⟩ := x
      obtain ⟨W9, hW9⟩ : ∃ W9, wr.alloc (.cells #[.int .i64 oc, .slice oa on ocp] 98) = W9 := ⟨_, rfl⟩
      have B9 : Below wr.heap.size wr W9 := by rw [← hW9]; exact (Below.refl _ _).alloc (Nat.le_refl _) _
      have bo : W9.heap[wr.heap.size]? = some (.cells #[.int .i64 oc, .slice oa on ocp] 98 (0, 0)) := by rw [← hW9]; exact alloc_new _ _
      have o0 := blk_cell (i := 0) bo rfl
      have o1 := blk_cell (i := 1) bo rfl
      have y0 := bcell B9 y0
      obtain ⟨W10, hW10⟩ : ∃ W10, W9.alloc (.cells #[.int .u32 r, .int .u32 area, .bool true, .bool false, .bool true, .int .i64 oc, .slice oa on ocp] 50) = W10 := ⟨_, rfl⟩
      have B10 : Below W9.heap.size W9 W10 := by rw [← hW10]; exact (Below.refl _ _).alloc (Nat.le_refl _) _
      have BA := B9.trans (B10.mono B9.size)
      have OW := Lib.hid (OWN.out W10 BA)
      have BK : Hid (W10.heap[W9.heap.size]? = some (.cells (List.toArray [.int .u32 r, .int .u32 area, .bool true, .bool false, .bool true, .int .i64 oc, .slice oa on ocp]) 50 (0, 0))) := Lib.hid (by rw [← hW10]; exact alloc_new _ _)
      have ONE : Hid (∀ u ∈ ([.int .u32 r, .int .u32 area, .bool true, .bool false, .bool true, .int .i64 oc, .slice oa on ocp] : List Value), u.oneCell' = true) := Lib.hid (by intro u hu; simp at hu; rcases hu with rfl | rfl | rfl | rfl | rfl | rfl | rfl <;> rfl)
      have BS : Hid (w8.heap.size ≤ W10.heap.size) := Lib.hid (Nat.le_trans BSZ.out BA.size)
      have STEP := Lib.hid (fun v' w4 own' hg4 => PU.out v' W10 w4 BA own' hg4)
      have HW9 := Lib.hid hW9
      have HW10 := Lib.hid hW10
      clear hW9 hW10 B9 B10 BA bo PU OWN
      go_upto_region 9 with (at_lookup; refine wpList_look_val _ rfl _ _ 120 rfl 98 Tryz.u32Key Tryz.underlying120 (Tryz.zeroOf _) mb db.length f rfl MP.out r rfl HP.out ⟨oc, oa, on, ocp, oh⟩ HX.out ?_; simp only [ofV, ofE])
      rw [HW9.out]
      go_wp2_with (at_builtin; rw [HW10.out]; refine wpList_append_one rfl (.tmp 35) (.tmp 44) 28 rfl w8.heap.size 50 i0 (.agg #[.int .u32 0, .int .u32 0, .bool false, .bool false, .bool false, .int .i64 0, .slice none 0 0]) 7 48 Tryz.underlying28 ?g1 ?g2 ?g3 ?g4 ?g5 ?g6 vO out.length _ ?g7 OW.out W9.heap.size [.int .u32 r, .int .u32 area, .bool true, .bool false, .bool true, .int .i64 oc, .slice oa on ocp] 50 ?g8 BK.out ?g9 ONE.out K1.out K2.out BS.out ?_; (case g1 => exact HI0.out); (case g2 => exact HZ0.out); (case g3 => exact HZ1.out); (case g4 => exact HZ2.out); (case g5 => exact rfl); (case g6 => decide); (case g7 => exact rfl); (case g8 => exact rfl); (case g9 => exact rfl); intro v' w4 own' hg4 d; have NX := Lib.hid (STEP.out v' w4 own' hg4); clear own' hg4 d)
      go_roundw
      case rel => exact ⟨k + 1, _, by go_num, NX⟩
      case measure => simp [intOf]; have := KC.out; omega
    · obtain rfl : k = ks.length := by have := S.out.hk; omega
      have FIN := Lib.hid (S.out.post BW8.out HASC.out HMEM.out OB8.out.val)
      clear S
      go_wp2_with fail
      go_ret
      exact FIN.out

end Go.Proofs.YtogdconliofblaaGreat

namespace Go.Proofs.YtogdconliofblaaGreat
open Go.RowKit

theorem blk9 {w : World} {b : Nat} {c0 c1 c2 c3 c4 c5 c6 c7 c8 : Value} {t : TypeId} (h : w.heap[b]? = some (.cells #[c0, c1, c2, c3, c4, c5, c6, c7, c8] t (0, 0))) :
    (w.cell? ⟨b, 0, none⟩ = some c0 ∧ w.cell? ⟨b, 1, none⟩ = some c1 ∧ w.cell? ⟨b, 2, none⟩ = some c2 ∧ w.cell? ⟨b, 3, none⟩ = some c3 ∧ w.cell? ⟨b, 4, none⟩ = some c4 ∧ w.cell? ⟨b, 5, none⟩ = some c5 ∧ w.cell? ⟨b, 6, none⟩ = some c6 ∧ w.cell? ⟨b, 7, none⟩ = some c7 ∧ w.cell? ⟨b, 8, none⟩ = some c8) ∧ ∀ i, w.frozen? ⟨b, i, none⟩ = false :=
  ⟨⟨blk_cell h rfl, blk_cell h rfl, blk_cell h rfl, blk_cell h rfl, blk_cell h rfl, blk_cell h rfl, blk_cell h rfl, blk_cell h rfl, blk_cell h rfl⟩, blk_free h⟩

set_option maxHeartbeats 4000000 in
set_option maxRecDepth 100000 in
theorem samehops_calls (w : World) (v1 v2 : Value) (l : List Ls.Hop) (h1 : HopsAt w v1 l) (h2 : HopsAt w v2 l) : Calls Tryz.prog 65 #[v1, v2] w fun e w' => e = .returned (.bool true) ∧ Gr w w' := by
  obtain ⟨a1, c1, rfl, hcap, hml, -, hc1⟩ := h1.get
  obtain ⟨a2, c2, rfl, -, -, -, hc2⟩ := h2.get
  have hlen : l.length ≤ 9223372036854775807 := by unfold maxLen at hml; omega
  have HC1 := Lib.hid hc1
  have HC2 := Lib.hid hc2
  have mixed : Tryz.prog.follows .mixedOrders = true := by kernel_rfl
  clear h1 h2 hc1 hc2 hcap hml
  go_enter Tryz.func65, Tryz.ntmps65
  go_wp2_with fail
  go_loopw [5] (fun i wr => ∃ k : Nat, i = .int .i64 k ∧ k ≤ l.length ∧ Hid (Gr w wr)) (fun i _ => l.length - (intOf i).toNat)
  case atStart => exact ⟨0, rfl, Nat.zero_le _, Lib.hid (Gr.refl _)⟩
  case round =>
    obtain ⟨k, rfl, hk, R⟩ := hrel
    by_cases c : k < l.length
    · obtain ⟨b1, o1, rfl, -, hcc1⟩ := HC1.out (by omega)
      obtain ⟨b2, o2, rfl, -, hcc2⟩ := HC2.out (by omega)
      obtain ⟨d0, d1, d2⟩ := hcc1 k c
      obtain ⟨e0, e1, e2⟩ := hcc2 k c
      have d0 := bcell R.out.b d0
      have d1 := bcell R.out.b d1
      have d2 := bcell R.out.b d2
      have e0 := bcell R.out.b e0
      have e1 := bcell R.out.b e1
      have e2 := bcell R.out.b e2
      clear hcc1 hcc2
      have E : ∀ W, (binOp .neq 60 (.agg #[.int .i64 l[k].iface, .int .u32 l[k].addr, .int .u32 l[k].router]) (.agg #[.int .i64 l[k].iface, .int .u32 l[k].addr, .int .u32 l[k].router])).run Tryz.prog W = .ok (.bool false) W := fun W => by
        have := neqHop l[k] l[k] W
        rwa [decide_eq_true rfl] at this
      generalize l[k].iface = hi at *
      generalize l[k].addr = ha at *
      generalize l[k].router = hr at *
      have NX : Hid (∀ n, Gr w (wr.drewN n)) := Lib.hid (fun n => R.out.drewN n)
      have i0 : (0 : Int) ≤ (k : Int) := by omega
      have i1 : (k : Int) < (l.length : Int) := by omega
      have s3 : ((k : Int)).toNat = k := by omega
      go_wp2_with fail
      go_quiet (fail)
      clear d0 d1 d2 e0 e1 e2 E
      go_wp2_with fail
      go_roundw
      case rel => exact ⟨k + 1, by go_num, by omega, Lib.hid (NX.out _)⟩
      case measure => simp [intOf]; omega
    · have FIN := Lib.hid R.out
      clear R
      go_wp2_with fail
      go_ret
      exact ⟨rfl, FIN.out⟩

set_option maxHeartbeats 8000000 in
set_option maxRecDepth 100000 in
theorem sameroute_calls (w : World) (a b : Rt) (l : List Ls.Hop) (h1 : HopsAt w a.hv l) (h2 : HopsAt w b.hv l) (e : (⟨a, l⟩ : RtH).pure = (⟨b, l⟩ : RtH).pure) :
    Calls Tryz.prog 60 #[.agg (rtE a).toArray, .agg (rtE b).toArray] w fun e w' => e = .returned (.bool true) ∧ Gr w w' := by
  obtain ⟨⟨pa, pl⟩, proto, area, cost, second, cost2, tag, aa, an, ac⟩ := a
  obtain ⟨⟨qa, ql⟩, proto', area', cost', second', cost2', tag', ba, bn, bc⟩ := b
  simp only [RtH.pure, Rp.mk.injEq, Ls.Pfx.mk.injEq] at e
  obtain ⟨⟨rfl, rfl⟩, rfl, rfl, rfl, rfl, rfl, rfl, -⟩ := e
  have E : ∀ W, (binOp .eql 55 (.agg #[.int .u32 pa, .int .i64 pl]) (.agg #[.int .u32 pa, .int .i64 pl])).run Tryz.prog W = .ok (.bool true) W := fun W => by
    have := eqPfx ⟨pa, pl⟩ ⟨pa, pl⟩ W
    rwa [decide_eq_true rfl] at this
  have SH := Lib.hid (fun W (hb : Gr w W) => samehops_calls W _ _ l (h1.below hb.b) (h2.below hb.b))
  clear h1 h2
  simp only [Rt.hv] at SH
  simp only [rtE]
  obtain ⟨W0, hW0⟩ : ∃ W0, (w.alloc (.cells #[.int .u32 pa, .int .i64 pl, .int .i64 proto, .int .u32 area, .int .i64 cost, .bool second, .int .i64 cost2, .int .i64 tag, .slice aa an ac] 57)).alloc (.cells #[.int .u32 pa, .int .i64 pl, .int .i64 proto, .int .u32 area, .int .i64 cost, .bool second, .int .i64 cost2, .int .i64 tag, .slice ba bn bc] 57) = W0 := ⟨_, rfl⟩
  have b0 : W0.heap[w.heap.size]? = some (.cells #[.int .u32 pa, .int .i64 pl, .int .i64 proto, .int .u32 area, .int .i64 cost, .bool second, .int .i64 cost2, .int .i64 tag, .slice aa an ac] 57 (0, 0)) := by rw [← hW0]; exact (alloc_get _ _ _ (by simp)).trans (alloc_new w _)
  have b1 : W0.heap[w.heap.size + 1]? = some (.cells #[.int .u32 pa, .int .i64 pl, .int .i64 proto, .int .u32 area, .int .i64 cost, .bool second, .int .i64 cost2, .int .i64 tag, .slice ba bn bc] 57 (0, 0)) := by rw [← hW0]; exact blk_new2 w _ _
  have G0 : Gr w W0 := by rw [← hW0]; exact ((Gr.refl _).alloc _).alloc _
  have SH1 := Lib.hid (SH.out W0 G0)
  have HW0 := Lib.hid hW0
  have HG0 := Lib.hid G0
  clear hW0 G0 SH
  obtain ⟨⟨x0, x1, x2, x3, x4, x5, x6, x7, x8⟩, -⟩ := blk9 b0
  obtain ⟨⟨y0, y1, y2, y3, y4, y5, y6, y7, y8⟩, -⟩ := blk9 b1
  clear b0 b1
  go_enter Tryz.func60, Tryz.ntmps60
  go_upto_region 1 with fail
  rw [HW0.out]
  go_wp2_with fail
  refine SH1.out.mono ?_
  rintro e w1 ⟨rfl, G1⟩
  have FIN := Lib.hid (HG0.out.trans G1)
  clear G1
  go_wp2_with fail
  go_ret
  exact ⟨rfl, FIN.out⟩

set_option maxHeartbeats 8000000 in
set_option maxRecDepth 100000 in
theorem sameroutes_calls (w : World) (v1 v2 : Value) (l1 l2 : List RtH) (h1 : RoutesAt w v1 l1) (h2 : RoutesAt w v2 l2) (he : l1.map RtH.pure = l2.map RtH.pure) : Calls Tryz.prog 24 #[v1, v2] w fun e w' => e = .returned (.bool true) ∧ Below w.heap.size w w' := by
  have hln : l1.length = l2.length := by have := congrArg List.length he; simpa using this
  have EQ : Hid (∀ k, k < l1.length → ∃ l, HopsAt w (rthAt l1 k).rt.hv l ∧ HopsAt w (rthAt l2 k).rt.hv l ∧ (⟨(rthAt l1 k).rt, l⟩ : RtH).pure = (⟨(rthAt l2 k).rt, l⟩ : RtH).pure) := Lib.hid (fun k hk => by
    have hk2 : k < l2.length := by omega
    have e1 : (l1.map RtH.pure)[k]? = (l2.map RtH.pure)[k]? := by rw [he]
    rw [List.getElem?_map, List.getElem?_map, List.getElem?_eq_getElem hk, List.getElem?_eq_getElem hk2] at e1
    have e2 : (l1[k]).pure = (l2[k]).pure := Option.some.inj e1
    rw [rthAt_eq hk, rthAt_eq hk2]
    refine ⟨l1[k].hops, h1.hops _ (List.getElem_mem hk), ?_, ?_⟩
    · have e3 : l1[k].hops = l2[k].hops := congrArg Rp.hops e2
      rw [e3]
      exact h2.hops _ (List.getElem_mem hk2)
    · simp only [RtH.pure, Rp.mk.injEq] at e2 ⊢
      exact ⟨e2.1, e2.2.1, e2.2.2.1, e2.2.2.2.1, e2.2.2.2.2.1, e2.2.2.2.2.2.1, e2.2.2.2.2.2.2.1, trivial⟩)
  obtain ⟨a1, c1, rfl, hlen, hc1⟩ := h1.get
  obtain ⟨a2, c2, rfl, -, hc2⟩ := h2.get
  have HC1 := Lib.hid hc1
  have HC2 := Lib.hid hc2
  have HLN := Lib.hid hln
  rw [← hln]
  have mixed : Tryz.prog.follows .mixedOrders = true := by kernel_rfl
  clear h1 h2 hc1 hc2 he hln
  go_enter Tryz.func24, Tryz.ntmps24
  go_wp2_with fail
  go_loopw [5] (fun i wr => ∃ k : Nat, i = .int .i64 k ∧ k ≤ l1.length ∧ Hid (Gr w wr)) (fun i _ => l1.length - (intOf i).toNat)
  case atStart => exact ⟨0, rfl, Nat.zero_le _, Lib.hid (Gr.refl _)⟩
  case round =>
    obtain ⟨k, rfl, hk, R⟩ := hrel
    by_cases c : k < l1.length
    · have c2 : k < l2.length := by have := HLN.out; omega
      obtain ⟨b1, o1, rfl, hb1, hcc1⟩ := HC1.out (by omega)
      obtain ⟨b2, o2, rfl, hb2, hcc2⟩ := HC2.out (by have := HLN.out; omega)
      have hcc1 := hcc1 k c
      have hcc2 := hcc2 k c2
      rw [← rthAt_eq c] at hcc1
      rw [← rthAt_eq c2] at hcc2
      obtain ⟨d0, d1, d2, d3, d4, d5, d6, d7, d8⟩ := hcc1.below R.out.b hb1
      obtain ⟨e0, e1, e2, e3, e4, e5, e6, e7, e8⟩ := hcc2.below R.out.b hb2
      obtain ⟨l, g1, g2, g3⟩ := EQ.out k c
      have NX : Hid (∀ n os, Gr w (Go.Sort.grow (wr.drewN n) os)) := Lib.hid (fun n os => R.out.trans (Gr.of_grow n os))
      have SC := Lib.hid (fun n os => (sameroute_calls (Go.Sort.grow (wr.drewN n) os) (rthAt l1 k).rt (rthAt l2 k).rt l (g1.below (NX.out n os).b) (g2.below (NX.out n os).b) g3).mono fun _ _ h => (⟨h.1, h.2.grow⟩ : _ ∧ ∃ q os', _ = Go.Sort.grow (World.drewN _ q) os'))
      clear hcc1 hcc2 g1 g2
      generalize (rthAt l1 k).rt = y1 at *
      generalize (rthAt l2 k).rt = y2 at *
      obtain ⟨⟨pa, pl⟩, proto, area, cost, second, cost2, tag, aa, an, ac⟩ := y1
      obtain ⟨⟨qa, ql⟩, proto', area', cost', second', cost2', tag', ba, bn, bc⟩ := y2
      simp only [RtH.pure, Rp.mk.injEq, Ls.Pfx.mk.injEq] at g3
      obtain ⟨⟨rfl, rfl⟩, rfl, rfl, rfl, rfl, rfl, rfl, -⟩ := g3
      simp only [rtE] at SC
      simp only at d0 d1 d2 d3 d4 d5 d6 d7 d8 e0 e1 e2 e3 e4 e5 e6 e7 e8
      have i0 : (0 : Int) ≤ (k : Int) := by omega
      have i1 : (k : Int) < (l1.length : Int) := by omega
      have s3 : ((k : Int)).toNat = k := by omega
      have x0 : ∀ n os, (Go.Sort.grow (wr.drewN n) os).cell? ⟨b1, o1 + k * 9, none⟩ = some (.int .u32 pa) := cell_grown (World.block_lt_of_cell? _ _ d0) d0
      have x1 : ∀ n os, (Go.Sort.grow (wr.drewN n) os).cell? ⟨b1, o1 + k * 9 + 1, none⟩ = some (.int .i64 pl) := cell_grown (World.block_lt_of_cell? _ _ d1) d1
      have x2 : ∀ n os, (Go.Sort.grow (wr.drewN n) os).cell? ⟨b1, o1 + k * 9 + 2, none⟩ = some (.int .i64 proto) := cell_grown (World.block_lt_of_cell? _ _ d2) d2
      have x3 : ∀ n os, (Go.Sort.grow (wr.drewN n) os).cell? ⟨b1, o1 + k * 9 + 3, none⟩ = some (.int .u32 area) := cell_grown (World.block_lt_of_cell? _ _ d3) d3
      have x4 : ∀ n os, (Go.Sort.grow (wr.drewN n) os).cell? ⟨b1, o1 + k * 9 + 4, none⟩ = some (.int .i64 cost) := cell_grown (World.block_lt_of_cell? _ _ d4) d4
      have x5 : ∀ n os, (Go.Sort.grow (wr.drewN n) os).cell? ⟨b1, o1 + k * 9 + 5, none⟩ = some (.bool second) := cell_grown (World.block_lt_of_cell? _ _ d5) d5
      have x6 : ∀ n os, (Go.Sort.grow (wr.drewN n) os).cell? ⟨b1, o1 + k * 9 + 6, none⟩ = some (.int .i64 cost2) := cell_grown (World.block_lt_of_cell? _ _ d6) d6
      have x7 : ∀ n os, (Go.Sort.grow (wr.drewN n) os).cell? ⟨b1, o1 + k * 9 + 7, none⟩ = some (.int .i64 tag) := cell_grown (World.block_lt_of_cell? _ _ d7) d7
      have x8 : ∀ n os, (Go.Sort.grow (wr.drewN n) os).cell? ⟨b1, o1 + k * 9 + 8, none⟩ = some (.slice aa an ac) := cell_grown (World.block_lt_of_cell? _ _ d8) d8
      have y0 : ∀ n os, (Go.Sort.grow (wr.drewN n) os).cell? ⟨b2, o2 + k * 9, none⟩ = some (.int .u32 pa) := cell_grown (World.block_lt_of_cell? _ _ e0) e0
      have y1 : ∀ n os, (Go.Sort.grow (wr.drewN n) os).cell? ⟨b2, o2 + k * 9 + 1, none⟩ = some (.int .i64 pl) := cell_grown (World.block_lt_of_cell? _ _ e1) e1
      have y2 : ∀ n os, (Go.Sort.grow (wr.drewN n) os).cell? ⟨b2, o2 + k * 9 + 2, none⟩ = some (.int .i64 proto) := cell_grown (World.block_lt_of_cell? _ _ e2) e2
      have y3 : ∀ n os, (Go.Sort.grow (wr.drewN n) os).cell? ⟨b2, o2 + k * 9 + 3, none⟩ = some (.int .u32 area) := cell_grown (World.block_lt_of_cell? _ _ e3) e3
      have y4 : ∀ n os, (Go.Sort.grow (wr.drewN n) os).cell? ⟨b2, o2 + k * 9 + 4, none⟩ = some (.int .i64 cost) := cell_grown (World.block_lt_of_cell? _ _ e4) e4
      have y5 : ∀ n os, (Go.Sort.grow (wr.drewN n) os).cell? ⟨b2, o2 + k * 9 + 5, none⟩ = some (.bool second) := cell_grown (World.block_lt_of_cell? _ _ e5) e5
      have y6 : ∀ n os, (Go.Sort.grow (wr.drewN n) os).cell? ⟨b2, o2 + k * 9 + 6, none⟩ = some (.int .i64 cost2) := cell_grown (World.block_lt_of_cell? _ _ e6) e6
      have y7 : ∀ n os, (Go.Sort.grow (wr.drewN n) os).cell? ⟨b2, o2 + k * 9 + 7, none⟩ = some (.int .i64 tag) := cell_grown (World.block_lt_of_cell? _ _ e7) e7
      have y8 : ∀ n os, (Go.Sort.grow (wr.drewN n) os).cell? ⟨b2, o2 + k * 9 + 8, none⟩ = some (.slice ba bn bc) := cell_grown (World.block_lt_of_cell? _ _ e8) e8
      clear d0 d1 d2 d3 d4 d5 d6 d7 d8 e0 e1 e2 e3 e4 e5 e6 e7 e8
      go_wp2_with fail
      refine wp_region_quiet_grown (by assumption) (by kernel_rfl) ?_
      repeat (go_big_quiet_step ((go_at_call 60; with_reducible exact Calls.grown_of (SC.out _ _))))
      refine wpQuiet_nil ?_
      intro _ hw'
      obtain ⟨⟨nq, osq⟩, hw''⟩ := hw'
      subst hw''
      have NXz := Lib.hid (NX.out nq osq)
      clear SC x0 x1 x2 x3 x4 x5 x6 x7 x8 y0 y1 y2 y3 y4 y5 y6 y7 y8
      go_wp2_with fail
      go_roundw
      case rel => exact ⟨k + 1, by go_num, by omega, NXz⟩
      case measure => simp [intOf]; omega
    · have FIN := Lib.hid R.out
      clear R
      go_wp2_with fail
      go_ret
      exact ⟨rfl, FIN.out.b⟩

end Go.Proofs.YtogdconliofblaaGreat

namespace Go.Proofs.YtogdconliofblaaGreat
open Go.RowKit

set_option maxHeartbeats 8000000 in
set_option maxRecDepth 100000 in
theorem samereach_calls (w : World) (v1 v2 : Value) (l1 l2 : List Rch) (h1 : ReachAt w v1 l1) (h2 : ReachAt w v2 l2) (he : l1.map Rch.pq = l2.map Rch.pq) :
    Calls Tryz.prog 27 #[v1, v2] w fun e w' => e = .returned (.bool true) ∧ Gr w w' := by
  have hlen : l1.length = l2.length := by have := congrArg List.length he; simpa using this
  have HH1 := Lib.hid h1.hops
  have HH2 := Lib.hid h2.hops
  have HE : Hid (∀ k (c1 : k < l1.length) (c2 : k < l2.length), l1[k].pq = l2[k].pq) := Lib.hid (fun k c1 c2 => by
    have h3 : (l1.map Rch.pq)[k]? = (l2.map Rch.pq)[k]? := by rw [he]
    rw [List.getElem?_map, List.getElem?_map, List.getElem?_eq_getElem c1, List.getElem?_eq_getElem c2] at h3
    simpa using h3)
  obtain ⟨A1, C1, rfl, hl1, hc1⟩ := h1.get
  obtain ⟨A2, C2, rfl, hl2, hc2⟩ := h2.get
  have HC1 := Lib.hid hc1
  have HC2 := Lib.hid hc2
  have HLN := Lib.hid hlen
  clear h1 h2 hc1 hc2 he
  rw [← hlen]
  clear hlen hl2
  go_enter Tryz.func27, Tryz.ntmps27
  go_wp2_with fail
  go_loopw [5] (fun i wr => ∃ k : Nat, i = .int .i64 k ∧ k ≤ l1.length ∧ Hid (Gr w wr)) (fun i _ => l1.length - (intOf i).toNat)
  case atStart => exact ⟨0, rfl, Nat.zero_le _, Lib.hid (Gr.refl _)⟩
  case round =>
    obtain ⟨k, rfl, hk, GG⟩ := hrel
    by_cases c : k < l1.length
    · have cc : k < l2.length := by have := HLN.out; omega
      obtain ⟨b1, o1, rfl, hb1, hcc1⟩ := HC1.out (by omega)
      obtain ⟨b2, o2, rfl, hb2, hcc2⟩ := HC2.out (by omega)
      have up1 : ∀ {o : Nat} {u : Value}, w.cell? ⟨b1, o, none⟩ = some u → wr.cell? ⟨b1, o, none⟩ = some u := fun {o u} hh => (World.cell?_of_block (w := w) (w' := wr) (a := ⟨b1, o, none⟩) (GG.out.b.block b1 hb1)).trans hh
      have up2 : ∀ {o : Nat} {u : Value}, w.cell? ⟨b2, o, none⟩ = some u → wr.cell? ⟨b2, o, none⟩ = some u := fun {o u} hh => (World.cell?_of_block (w := w) (w' := wr) (a := ⟨b2, o, none⟩) (GG.out.b.block b2 hb2)).trans hh
      obtain ⟨d0, d1, d2, d3, d4, d5, d6⟩ := hcc1 k c
      obtain ⟨e0, e1, e2, e3, e4, e5, e6⟩ := hcc2 k cc
      have d0 := up1 d0
      have d1 := up1 d1
      have d2 := up1 d2
      have d3 := up1 d3
      have d4 := up1 d4
      have d5 := up1 d5
      have d6 := up1 d6
      have e0 := up2 e0
      have e1 := up2 e1
      have e2 := up2 e2
      have e3 := up2 e3
      have e4 := up2 e4
      have e5 := up2 e5
      have e6 := up2 e6
      have hpq := HE.out k c cc
      have hx := (HH1.out _ (List.getElem_mem c)).below GG.out.b
      have hy := (HH2.out _ (List.getElem_mem cc)).below GG.out.b
      have KC := Lib.hid c
      have n0 : (0 : Int) ≤ (k : Int) := by omega
      have n1 : (k : Int) < (l1.length : Int) := by omega
      have n3 : ((k : Int)).toNat = k := by omega
      clear hcc1 hcc2 up1 up2
      generalize l1[k] = x at *
      generalize l2[k] = y at *
      clear c cc
      obtain ⟨xr, xa, xi, xb, xo, xc, xha, xhn, xhc, xh⟩ := x
      obtain ⟨yr, ya, yi, yb, yo, yc, yha, yhn, yhc, yh⟩ := y
      simp only [Rch.pq, Rq.mk.injEq] at hpq
      obtain ⟨rfl, rfl, rfl, rfl, rfl, rfl, rfl⟩ := hpq
      simp only at d0 d1 d2 d3 d4 d5 d6 e0 e1 e2 e3 e4 e5 e6 hx hy
      have HXX := Lib.hid hx
      have HYY := Lib.hid hy
      clear hx hy
      go_upto_region 6 with fail
      go_region_held3 (fun W' => W'.cell? ⟨b1, o1 + k * 7, none⟩ = some (.int .u32 xr) ∧ W'.cell? ⟨b1, o1 + k * 7 + 1, none⟩ = some (.int .u32 xa) ∧ W'.cell? ⟨b1, o1 + k * 7 + 2, none⟩ = some (.bool xi) ∧ W'.cell? ⟨b1, o1 + k * 7 + 3, none⟩ = some (.bool xb) ∧ W'.cell? ⟨b1, o1 + k * 7 + 4, none⟩ = some (.bool xo) ∧ W'.cell? ⟨b1, o1 + k * 7 + 5, none⟩ = some (.int .i64 xc) ∧ W'.cell? ⟨b1, o1 + k * 7 + 6, none⟩ = some (.slice xha xhn xhc) ∧ W'.cell? ⟨b2, o2 + k * 7, none⟩ = some (.int .u32 xr) ∧ W'.cell? ⟨b2, o2 + k * 7 + 1, none⟩ = some (.int .u32 xa) ∧ W'.cell? ⟨b2, o2 + k * 7 + 2, none⟩ = some (.bool xi) ∧ W'.cell? ⟨b2, o2 + k * 7 + 3, none⟩ = some (.bool xb) ∧ W'.cell? ⟨b2, o2 + k * 7 + 4, none⟩ = some (.bool xo) ∧ W'.cell? ⟨b2, o2 + k * 7 + 5, none⟩ = some (.int .i64 xc) ∧ W'.cell? ⟨b2, o2 + k * 7 + 6, none⟩ = some (.slice yha yhn yhc)) (first | with_reducible exact ⟨d0, d1, d2, d3, d4, d5, d6, e0, e1, e2, e3, e4, e5, e6⟩ | go_keep) (fail)
      · obtain ⟨W9, hW9⟩ : ∃ W9, ((wr.alloc (.cells #[.int .u32 xr, .int .u32 xa, .bool xi, .bool xb, .bool xo, .int .i64 xc, .slice xha xhn xhc] 50)).alloc (.cells #[.int .u32 xr, .int .u32 xa, .bool xi, .bool xb, .bool xo, .int .i64 xc, .slice yha yhn yhc] 50)).drew = W9 := ⟨_, rfl⟩
        have G9 := Lib.hid (show Gr w W9 from by rw [← hW9]; exact GG.out.trans ((((Gr.refl wr).alloc _).alloc _).drewN 1))
        have B9 : Below wr.heap.size wr W9 := by rw [← hW9]; exact (((Below.refl _ _).alloc (Nat.le_refl _) _).alloc (by simp) _).drew
        have ba : W9.heap[wr.heap.size]? = some (.cells #[.int .u32 xr, .int .u32 xa, .bool xi, .bool xb, .bool xo, .int .i64 xc, .slice xha xhn xhc] 50 (0, 0)) := by rw [← hW9]; exact (alloc_get _ _ _ (by simp)).trans (alloc_new wr _)
        have bb : W9.heap[wr.heap.size + 1]? = some (.cells #[.int .u32 xr, .int .u32 xa, .bool xi, .bool xb, .bool xo, .int .i64 xc, .slice yha yhn yhc] 50 (0, 0)) := by rw [← hW9]; exact blk_new2 wr _ _
        have SH := Lib.hid (samehops_calls W9 _ _ xh (HXX.out.below B9) (HYY.out.below B9))
        have HW9 := Lib.hid hW9
        clear hW9 B9 d0 d1 d2 d3 d4 d5 d6 e0 e1 e2 e3 e4 e5 e6
        have a0 := blk_cell (i := 0) ba rfl
        have c0 := blk_cell (i := 0) bb rfl
        have a1 := blk_cell (i := 1) ba rfl
        have c1 := blk_cell (i := 1) bb rfl
        have a2 := blk_cell (i := 2) ba rfl
        have c2 := blk_cell (i := 2) bb rfl
        have a3 := blk_cell (i := 3) ba rfl
        have c3 := blk_cell (i := 3) bb rfl
        have a4 := blk_cell (i := 4) ba rfl
        have c4 := blk_cell (i := 4) bb rfl
        have a5 := blk_cell (i := 5) ba rfl
        have c5 := blk_cell (i := 5) bb rfl
        have a6 := blk_cell (i := 6) ba rfl
        have c6 := blk_cell (i := 6) bb rfl
        clear ba bb
        rw [HW9.out]
        go_wp2_with fail
        refine SH.out.mono ?_
        rintro e w5 ⟨rfl, G5⟩
        have GZ := Lib.hid (G9.out.trans G5)
        clear G5 SH a0 a1 a2 a3 a4 a5 a6 c0 c1 c2 c3 c4 c5 c6
        go_wp2_with fail
        go_roundw
        case rel => exact ⟨k + 1, by go_num, KC.out, GZ⟩
        case measure => simp [intOf]; have := KC.out; omega
      · obtain ⟨W9, hW9⟩ : ∃ W9, ((wr.alloc (.cells #[.int .u32 xr, .int .u32 xa, .bool xi, .bool xb, .bool xo, .int .i64 xc, .slice yha yhn yhc] 50)).alloc (.cells #[.int .u32 xr, .int .u32 xa, .bool xi, .bool xb, .bool xo, .int .i64 xc, .slice xha xhn xhc] 50)).drew = W9 := ⟨_, rfl⟩
        have G9 := Lib.hid (show Gr w W9 from by rw [← hW9]; exact GG.out.trans ((((Gr.refl wr).alloc _).alloc _).drewN 1))
        have B9 : Below wr.heap.size wr W9 := by rw [← hW9]; exact (((Below.refl _ _).alloc (Nat.le_refl _) _).alloc (by simp) _).drew
        have ba : W9.heap[wr.heap.size]? = some (.cells #[.int .u32 xr, .int .u32 xa, .bool xi, .bool xb, .bool xo, .int .i64 xc, .slice yha yhn yhc] 50 (0, 0)) := by rw [← hW9]; exact (alloc_get _ _ _ (by simp)).trans (alloc_new wr _)
        have bb : W9.heap[wr.heap.size + 1]? = some (.cells #[.int .u32 xr, .int .u32 xa, .bool xi, .bool xb, .bool xo, .int .i64 xc, .slice xha xhn xhc] 50 (0, 0)) := by rw [← hW9]; exact blk_new2 wr _ _
        have SH := Lib.hid (samehops_calls W9 _ _ xh (HXX.out.below B9) (HYY.out.below B9))
        have HW9 := Lib.hid hW9
        clear hW9 B9 d0 d1 d2 d3 d4 d5 d6 e0 e1 e2 e3 e4 e5 e6
        have a0 := blk_cell (i := 0) bb rfl
        have c0 := blk_cell (i := 0) ba rfl
        have a1 := blk_cell (i := 1) bb rfl
        have c1 := blk_cell (i := 1) ba rfl
        have a2 := blk_cell (i := 2) bb rfl
        have c2 := blk_cell (i := 2) ba rfl
        have a3 := blk_cell (i := 3) bb rfl
        have c3 := blk_cell (i := 3) ba rfl
        have a4 := blk_cell (i := 4) bb rfl
        have c4 := blk_cell (i := 4) ba rfl
        have a5 := blk_cell (i := 5) bb rfl
        have c5 := blk_cell (i := 5) ba rfl
        have a6 := blk_cell (i := 6) bb rfl
        have c6 := blk_cell (i := 6) ba rfl
        clear ba bb
        rw [HW9.out]
        go_wp2_with fail
        refine SH.out.mono ?_
        rintro e w5 ⟨rfl, G5⟩
        have GZ := Lib.hid (G9.out.trans G5)
        clear G5 SH a0 a1 a2 a3 a4 a5 a6 c0 c1 c2 c3 c4 c5 c6
        go_wp2_with fail
        go_roundw
        case rel => exact ⟨k + 1, by go_num, KC.out, GZ⟩
        case measure => simp [intOf]; have := KC.out; omega
    · have E := Lib.hid GG.out
      go_wp2_with fail
      go_ret
      exact ⟨rfl, E.out⟩

end Go.Proofs.YtogdconliofblaaGreat

namespace Go.Proofs.YtogdconliofblaaGreat
open Go.RowKit

set_option maxHeartbeats 16000000 in
set_option maxRecDepth 100000 in
theorem iroutes_law (w : World) (area router : Int) (vd : Value) (db : List LsaD) (hd : DbAt w vd db) (vr : Value) (reach : List Rch) (hr : ReachAt w vr reach) (hb : hopSum reach ≤ 1048576) :
    Calls Tryz.prog 8 #[.agg #[.int .u32 area, vd], .int .u32 router, vr] w (LivPost w) := by
  have CD := Lib.hid (fun W (hb : Below w.heap.size w W) => dbcheck_calls W vd db (hd.below hb))
  have CR := Lib.hid (fun W (hb : Below w.heap.size w W) => finereach_calls W vr reach (hr.below hb))
  have OKX := Lib.hid (fun x (hx : x ∈ db.map LsaD.x) => (by obtain ⟨d, h, rfl⟩ := List.mem_map.1 hx; exact (hd.2 d h).ok : OkL x))
  have HN := Lib.hid (fun (n1 : db.length ≤ 200) => (by rw [List.length_map]; have h1 : (db.length + 2) * hopSum reach ≤ 202 * 1048576 := Nat.mul_le_mul (by omega) hb; omega : ((db.map LsaD.x).length + 2) * hopSum reach * 16 ≤ 140737488355328))
  have RT := Lib.hid (fun (n1 : db.length ≤ 200) (D : DbOk db) (rc : ∀ y ∈ reach, costFine y.cost) W (hb' : Below w.heap.size w W) => routes_calls W area router reach (db.map LsaD.x) vd vr (hd.below hb').1 (hr.below hb')
    OKX.out (fun x hx _ => by obtain ⟨d, h, rfl⟩ := List.mem_map.1 hx; exact ⟨(D.mem h).l0, (D.mem h).l1⟩) (fun x hx _ => by obtain ⟨d, h, rfl⟩ := List.mem_map.1 hx; exact ⟨(D.mem h).c0, by have := (D.mem h).c1; omega⟩) rc (HN.out n1) (by rw [List.length_map]; omega))
  have RR := Lib.hid (fun (n1 : db.length ≤ 200) (D : DbOk db) (rc : ∀ y ∈ reach, costFine y.cost) W (hb' : Below w.heap.size w W) => rroutes33_calls W area router vd (db.map LsaD.x) (hd.below hb').1 vr reach (hr.below hb')
    (fun x hx _ => by obtain ⟨d, h, rfl⟩ := List.mem_map.1 hx; exact ⟨(D.mem h).c0, by have := (D.mem h).c1; omega⟩) rc (by rw [List.length_map]; omega) hb)
  have BT := Lib.hid (fun (n1 : db.length ≤ 200) (D : DbOk db) (rc : ∀ y ∈ reach, costFine y.cost) W (hb' : Below w.heap.size w W) => bounds_calls W area router reach (db.map LsaD.x) vd vr (hd.below hb').1 (hr.below hb')
    OKX.out (fun x hx _ => by obtain ⟨d, h, rfl⟩ := List.mem_map.1 hx; exact ⟨(D.mem h).c0, by have := (D.mem h).c1; omega⟩) rc (HN.out n1) (by rw [List.length_map]; omega))
  have BR := Lib.hid (fun (n1 : db.length ≤ 200) (D : DbOk db) (rc : ∀ y ∈ reach, costFine y.cost) W (hb' : Below w.heap.size w W) => rbounds33_calls W area router vd (db.map LsaD.x) (hd.below hb').1 vr reach (hr.below hb')
    (fun x hx _ => by obtain ⟨d, h, rfl⟩ := List.mem_map.1 hx; exact ⟨(D.mem h).c0, by have := (D.mem h).c1; omega⟩) rc (by rw [List.length_map]; omega) hb)
  have EQ1 := Lib.hid (fun (D : DbOk db) (W1 W2 : World) (v1 v2 : Value) (l1 l2 : List RtH) (h1 : RoutesAt W1 v1 l1) (h2 : RoutesAt W2 v2 l2) (hb : Below W1.heap.size W1 W2) (asc : (l1.map RtH.pure).Pairwise fun a b => Ls.pfxLt a.pfx b.pfx = true)
    (mem : ∀ r, r ∈ l1.map RtH.pure ↔ pfxOk r.pfx ∧ ∃ o, ofK area router reach (db.map LsaD.x) (db.map LsaD.x).length r.pfx = some o ∧ r = orP area r.pfx o)
    (e2 : l2.map RtH.pure = (Ls.adds Ls.pfxLt [] ((rfL 3 area router reach (db.map LsaD.x) (db.map LsaD.x).length).map OfP.pfx)).filterMap (rsel area (rfL 3 area router reach (db.map LsaD.x) (db.map LsaD.x).length))) =>
    sameroutes_calls W2 v1 v2 l1 l2 (h1.below hb) h2 (by
      rw [e2]
      refine routes_eq33 (fun x hx ht => ?_) (fun x hx ht => ?_) asc mem
      · obtain ⟨d, h, rfl⟩ := List.mem_map.1 hx
        exact sum_pfx (D.mem h) ht
      · obtain ⟨d, h, rfl⟩ := List.mem_map.1 hx
        rw [← sum_pfx (D.mem h) ht]
        exact pfxOk_of (OKX.out _ hx) (D.mem h).l0 (D.mem h).l1))
  have EQ2 := Lib.hid (fun (D : DbOk db) (W1 W2 : World) (v1 v2 : Value) (l1 l2 : List Rch) (h1 : ReachAt W1 v1 l1) (h2 : ReachAt W2 v2 l2) (hb : Below W1.heap.size W1 W2) (i1 : BoIs area (ofKB area router reach (db.map LsaD.x) (db.map LsaD.x).length) (l1.map Rch.pq))
    (e2 : l2.map Rch.pq = (Ls.adds Ls.pfxLt [] ((rfL 4 area router reach (db.map LsaD.x) (db.map LsaD.x).length).map OfP.pfx)).filterMap (bsel area (rfL 4 area router reach (db.map LsaD.x) (db.map LsaD.x).length))) =>
    samereach_calls W2 v1 v2 l1 l2 (h1.below hb) h2 (by
      rw [e2]
      refine bounds_eq33 (fun x hx ht => ?_) i1
      obtain ⟨d, h, rfl⟩ := List.mem_map.1 hx
      have := (OKX.out _ hx).id0
      have := (OKX.out _ hx).id1
      exact ⟨(D.mem h).l14 (.inr ht), WalkArith.wf_u32 (by omega)⟩))
  have LV := Lib.hid (fun W => lives_calls W)
  obtain ⟨da, dc, e1, hl1, hcd⟩ := hd.1.get
  simp only [List.length_map] at e1 hl1 hcd
  obtain ⟨ra, rcap, e2, hl2, -⟩ := hr.get
  subst e1 e2
  have mixed : Tryz.prog.follows .mixedOrders = true := by kernel_rfl
  clear hd hr hcd hb
  obtain ⟨WA, hWA⟩ : ∃ WA, w.alloc (.cells #[.int .u32 area, .slice da db.length dc] 36) = WA := ⟨_, rfl⟩
  have BA : Below w.heap.size w WA := by rw [← hWA]; exact (Below.refl _ _).alloc (Nat.le_refl _) _
  have bA : WA.heap[w.heap.size]? = some (.cells #[.int .u32 area, .slice da db.length dc] 36 (0, 0)) := by rw [← hWA]; exact alloc_new w _
  have C1 := Lib.hid (CD.out WA BA)
  have y0 := blk_cell (i := 0) bA rfl
  have y1 := blk_cell (i := 1) bA rfl
  have HWA := Lib.hid hWA
  have HBA := Lib.hid BA
  have HXA := Lib.hid bA
  clear hWA BA bA CD
  by_cases n1 : 200 < (db.length : Int)
  · have g1 : decide (200 < (db.length : Int)) = true := decide_eq_true n1
    clear C1 CR RT RR BT BR EQ1 EQ2 n1
    go_enter Tryz.func8, Tryz.ntmps8
    go_upto_region 1 with fail
    rw [HWA.out]
    go_wp2_with fail
    refine (LV.out _).mono ?_
    rintro e w9 ⟨rfl, B9⟩
    have FIN := Lib.hid (HBA.out.trans (B9.mono HBA.out.size))
    clear B9
    go_wp2_with fail
    go_ret
    exact ⟨rfl, FIN.out⟩
  have g1 : decide (200 < (db.length : Int)) = false := decide_eq_false n1
  have N1 : Hid (db.length ≤ 200) := Lib.hid (by omega)
  clear n1
  go_enter Tryz.func8, Tryz.ntmps8
  go_upto_region 1 with fail
  rw [HWA.out]
  go_wp2_with fail
  refine C1.out.mono ?_
  rintro e w1 ⟨c, rfl, B1, K1⟩
  have HB1 := Lib.hid (HBA.out.trans (B1.mono HBA.out.size))
  have HX1 := Lib.hid ((B1.block _ (blk_lt HXA.out)).trans HXA.out)
  clear y0 y1 C1 HWA HXA
  by_cases c0 : c = 0
  rotate_left
  · have d2 : (c != 0) = true := by simpa using c0
    clear B1 K1 CR RT RR BT BR EQ1 EQ2 c0
    go_wp2_with fail
    refine (LV.out _).mono ?_
    rintro e w9 ⟨rfl, B9⟩
    have FIN := Lib.hid (HB1.out.trans (B9.mono HB1.out.size))
    clear B9
    go_wp2_with fail
    go_ret
    exact ⟨rfl, FIN.out⟩
  subst c0
  have DB := Lib.hid (K1 rfl).2
  have C2 := Lib.hid (CR.out w1 HB1.out)
  clear B1 K1 CR
  go_wp2_with fail
  refine C2.out.mono ?_
  rintro e w2 ⟨b2, rfl, B2, K2⟩
  have HB2 := Lib.hid (HB1.out.trans (B2.mono HB1.out.size))
  have HX2 := Lib.hid ((B2.block _ (blk_lt HX1.out)).trans HX1.out)
  clear C2 HX1
  cases b2 with
  | false =>
    clear B2 K2 RT RR BT BR EQ1 EQ2
    go_wp2_with fail
    refine (LV.out _).mono ?_
    rintro e w9 ⟨rfl, B9⟩
    have FIN := Lib.hid (HB2.out.trans (B9.mono HB2.out.size))
    clear B9
    go_wp2_with fail
    go_ret
    exact ⟨rfl, FIN.out⟩
  | true =>
    have RC := Lib.hid (K2 rfl)
    have C1 := Lib.hid (fun (W : World) (hb : Below w2.heap.size w2 W) => RT.out N1.out DB.out RC.out W (HB2.out.trans (hb.mono HB2.out.size)))
    have C2 := Lib.hid (fun (W : World) (hb : Below w2.heap.size w2 W) => RR.out N1.out DB.out RC.out W (HB2.out.trans (hb.mono HB2.out.size)))
    have C3 := Lib.hid (fun (W : World) (hb : Below w2.heap.size w2 W) => BT.out N1.out DB.out RC.out W (HB2.out.trans (hb.mono HB2.out.size)))
    have C4 := Lib.hid (fun (W : World) (hb : Below w2.heap.size w2 W) => BR.out N1.out DB.out RC.out W (HB2.out.trans (hb.mono HB2.out.size)))
    have Q1 := Lib.hid (EQ1.out DB.out)
    have Q2 := Lib.hid (EQ2.out DB.out)
    clear B2 K2 RT RR BT BR EQ1 EQ2
    have k0 := blk_cell (i := 0) HX2.out rfl
    have k1 := blk_cell (i := 1) HX2.out rfl
    go_wp2_with fail
    go_region_held3 (fun W' => W'.cell? ⟨w.heap.size, 0, none⟩ = some (.int .u32 area) ∧ W'.cell? ⟨w.heap.size, 1, none⟩ = some (.slice da db.length dc)) (first | with_reducible exact ⟨k0, k1⟩ | with_reducible exact ⟨m0, m1⟩ | with_reducible exact ⟨s0, s1⟩ | with_reducible exact ⟨t0, t1⟩ | with_reducible exact ⟨x0, x1⟩ | with_reducible exact ⟨y0, y1⟩ | with_reducible exact ⟨z0, z1⟩ | with_reducible exact ⟨q0, q1⟩ | go_keep)
      (first
      | (go_at_call 16; ((with_reducible refine (C1.out w2.drew (Below.refl _ _).drew).mono ?_)); rintro e w4 ⟨v4, l4, rfl, RA4, B4, ASC4, MEM4⟩; have D4 : Below w2.heap.size w2 w4 := (Below.refl _ _).drew.trans B4; have HD4 := Lib.hid D4; have HRA4 := Lib.hid RA4; have HAS4 := Lib.hid ASC4; have HME4 := Lib.hid MEM4; have m0 := bcell B4 k0; have m1 := bcell B4 k1; have C2' := Lib.hid (C2.out w4 D4); clear B4 D4 RA4 ASC4 MEM4)
      | (go_at_call 26; ((with_reducible refine C2'.out.mono ?_)); rintro e w5 ⟨v5, l5, rfl, RA5, E5, B5⟩; have HD5 := Lib.hid (HD4.out.trans (B5.mono HD4.out.size)); have s0 := bcell B5 m0; have s1 := bcell B5 m1; have E3 := Lib.hid (Q1.out w4 w5 v4 v5 l4 l5 HRA4.out RA5 B5 HAS4.out HME4.out E5); clear B5 RA5 E5)
      | (go_at_call 24; ((with_reducible refine E3.out.mono ?_)); rintro e w6 ⟨rfl, B6⟩; have D6 := HD5.out.trans (B6.mono HD5.out.size); have HD6 := Lib.hid D6; have t0 := bcell B6 s0; have t1 := bcell B6 s1; have C3' := Lib.hid (C3.out w6 D6); clear B6 D6)
      | (go_at_call 28; ((with_reducible refine C3'.out.mono ?_)); rintro e w7 ⟨v7, l7, rfl, RA7, B7, IS7⟩; have D7 := HD6.out.trans (B7.mono HD6.out.size); have HD7 := Lib.hid D7; have HRA7 := Lib.hid RA7; have HIS7 := Lib.hid IS7; have x0 := bcell B7 t0; have x1 := bcell B7 t1; have C4' := Lib.hid (C4.out w7 D7); clear B7 D7 RA7 IS7)
      | (go_at_call 29; ((with_reducible refine C4'.out.mono ?_)); rintro e w8 ⟨v8, l8, rfl, RA8, E8, B8⟩; have HD8 := Lib.hid (HD7.out.trans (B8.mono HD7.out.size)); have y0 := bcell B8 x0; have y1 := bcell B8 x1; have E4 := Lib.hid (Q2.out w7 w8 v7 v8 l7 l8 HRA7.out RA8 B8 HIS7.out E8); clear B8 RA8 E8)
      | (go_at_call 27; ((with_reducible refine E4.out.mono ?_)); rintro e w9 ⟨rfl, G9⟩; have HD9 := Lib.hid (HD8.out.trans (G9.b.mono HD8.out.size)); have z0 := bcell G9.b y0; have z1 := bcell G9.b y1; clear G9)
      | (go_at_call 10; ((with_reducible refine (LV.out w9).mono ?_)); rintro e w10 ⟨rfl, B10⟩; have FIN := Lib.hid (HB2.out.trans ((HD9.out.trans (B10.mono HD9.out.size)).mono HB2.out.size)); have q0 := bcell B10 z0; have q1 := bcell B10 z1; clear B10))
    go_wp2_with fail
    go_ret
    exact ⟨rfl, FIN.out⟩

end Go.Proofs.YtogdconliofblaaGreat
