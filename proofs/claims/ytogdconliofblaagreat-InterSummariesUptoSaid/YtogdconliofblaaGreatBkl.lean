/-
  routinglaw33.fine.
-/
import Derived.Test.YtogdconliofblaaGreatFir
import Derived.Test.YtogdconliofblaaGreatFin
import Derived.Test.YtogdconliofblaaGreatSzw
import Derived.Deep.DeepCutAuto
namespace Go.Proofs.YtogdconliofblaaGreat
open Go.RowKit

def LFine (lr : List Arg) (rs : List RtH) : Prop := lr.length ≤ 64 ∧ rs.length ≤ 100 ∧ ArgsFine lr ∧ ∀ y ∈ rs, validP y.rt.pfx = true

set_option maxHeartbeats 4000000 in
set_option maxRecDepth 100000 in
theorem lfine_calls (w : World) (C : Cfg) (lr : List Arg) (hlr : RngsAt w (.slice C.ra C.rn C.rc) lr) (okl : ∀ o ∈ lr, OkP o.pfx) (vr : Value) (rs : List RtH) (hr : RoutesAt w vr rs) (okr : ∀ y ∈ rs, OkP y.rt.pfx) :
    Calls Tryz.prog 9 #[.agg (cfgE C).toArray, vr] w (FinePost w (LFine lr rs)) := by
  have CR := Lib.hid (fun W (hb : Below w.heap.size w W) => fineranges_calls W _ lr (hlr.below hb) okl)
  have CI := Lib.hid (fun W (hb : Below w.heap.size w W) => fineroutes_calls W vr rs (hr.below hb) okr)
  obtain ⟨a1, c1, e1, hl1, -⟩ := hlr.get
  obtain ⟨a2, c2, rfl, hl2, -⟩ := hr.get
  have NO : Hid (∀ W, Below w.heap.size w W → FinePost w (LFine lr rs) (.returned (.bool false)) W) := Lib.hid fun W g => ⟨false, rfl, g, fun h => by cases h⟩
  clear hlr hr okl okr
  obtain ⟨router, ia, iN, ic, ra, rn, rc⟩ := C
  simp only [Value.slice.injEq] at e1
  obtain ⟨rfl, rfl, rfl⟩ := e1
  obtain ⟨WA, hWA⟩ : ∃ WA, w.alloc (.cells #[.int .u32 router, .slice ia iN ic, .slice ra lr.length rc] 26) = WA := ⟨_, rfl⟩
  have BA : Below w.heap.size w WA := by rw [← hWA]; exact (Below.refl _ _).alloc (Nat.le_refl _) _
  have bA : WA.heap[w.heap.size]? = some (.cells #[.int .u32 router, .slice ia iN ic, .slice ra lr.length rc] 26 (0, 0)) := by rw [← hWA]; exact alloc_new w _
  have R1 := Lib.hid (CR.out WA BA)
  simp only [cfgE] at R1 ⊢
  have y2 := blk_cell (i := 2) bA rfl
  have HWA := Lib.hid hWA
  have HBA := Lib.hid BA
  clear hWA BA bA CR
  by_cases n1 : 64 < (lr.length : Int)
  · have d1 : decide ((lr.length : Int) ≤ 64) = false := decide_eq_false (by omega)
    have E := Lib.hid (NO.out WA HBA.out)
    clear R1 CI n1
    go_enter Tryz.func9, Tryz.ntmps9
    go_upto_region 1 with fail
    rw [HWA.out]
    go_wp2_with fail
    go_ret
    exact E.out
  by_cases n2 : 100 < (rs.length : Int)
  · have d1 : decide ((lr.length : Int) ≤ 64) = true := decide_eq_true (by omega)
    have d2 : decide ((rs.length : Int) ≤ 100) = false := decide_eq_false (by omega)
    have E := Lib.hid (NO.out WA HBA.out)
    clear R1 CI n1 n2
    go_enter Tryz.func9, Tryz.ntmps9
    go_upto_region 1 with fail
    rw [HWA.out]
    go_wp2_with fail
    go_ret
    exact E.out
  have d1 : decide ((lr.length : Int) ≤ 64) = true := decide_eq_true (by omega)
  have d2 : decide ((rs.length : Int) ≤ 100) = true := decide_eq_true (by omega)
  have N1 : Hid (lr.length ≤ 64) := Lib.hid (by omega)
  have N2 : Hid (rs.length ≤ 100) := Lib.hid (by omega)
  clear n1 n2
  go_enter Tryz.func9, Tryz.ntmps9
  go_upto_region 1 with fail
  rw [HWA.out]
  go_wp2_with fail
  refine R1.out.mono ?_
  rintro e w1 ⟨b1, rfl, B1, K1⟩
  have HB1 := Lib.hid (HBA.out.trans (B1.mono HBA.out.size))
  cases b1 with
  | false =>
    have E := Lib.hid (NO.out w1 HB1.out)
    clear B1 K1 R1 CI y2
    go_wp2_with fail
    go_ret
    exact E.out
  | true =>
    have KK1 := Lib.hid (K1 rfl)
    have I1 := Lib.hid (CI.out w1 HB1.out)
    clear B1 CI R1 K1 y2
    go_wp2_with fail
    refine I1.out.mono ?_
    rintro e w2 ⟨b2, rfl, B2, K2⟩
    have E : Hid (FinePost w (LFine lr rs) (.returned (.bool b2)) w2) := Lib.hid ⟨b2, rfl, HB1.out.trans (B2.mono HB1.out.size), fun h => ⟨N1.out, N2.out, KK1.out, K2 h⟩⟩
    clear B2 K2 I1
    cases b2 with
    | false =>
      go_wp2_with fail
      go_ret
      exact E.out
    | true =>
      go_wp2_with fail
      go_ret
      exact E.out

end Go.Proofs.YtogdconliofblaaGreat
