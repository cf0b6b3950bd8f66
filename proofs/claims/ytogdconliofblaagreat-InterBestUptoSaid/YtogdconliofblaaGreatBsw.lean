/-
  InterBest: the law walked.
-/
import Derived.Test.YtogdconliofblaaGreatBsp
import Derived.Test.YtogdconliofblaaGreatRwk
import Derived.Test.YtogdconliofblaaGreatFin
import Derived.Test.YtogdconliofblaaGreatLvx
import Derived.IntWalk
namespace Go.Proofs.YtogdconliofblaaGreat
open Go.RowKit

theorem wayR_form (area router : Int) (l : List Rch) : ∃ y b, wayR area router l = .tuple #[.agg (rchE y).toArray, .bool b] ∧ (b = true → wayF area router l = some y) := by
  unfold wayR
  cases h : wayF area router l with
  | none => exact ⟨rchZ, false, rfl, fun h => by cases h⟩
  | some y => exact ⟨y, true, rfl, fun _ => rfl⟩

set_option maxHeartbeats 16000000 in
set_option maxRecDepth 100000 in
theorem ibest_law (w : World) (area router : Int) (vd : Value) (db : List LsaD) (hd : DbAt w vd db) (vr : Value) (reach : List Rch) (hr : ReachAt w vr reach) (hb : hopSum reach ≤ 1048576) :
    Calls Tryz.prog 4 #[.agg #[.int .u32 area, vd], .int .u32 router, vr] w (LivPost w) := by
  have CD := Lib.hid (fun W (hb : Below w.heap.size w W) => dbcheck_calls W vd db (hd.below hb))
  have CR := Lib.hid (fun W (hb : Below w.heap.size w W) => finereach_calls W vr reach (hr.below hb))
  have RT := Lib.hid (fun (n1 : db.length ≤ 200) (D : DbOk db) (rc : ∀ y ∈ reach, costFine y.cost) W (hb' : Below w.heap.size w W) => routes_calls W area router reach (db.map LsaD.x) vd vr (hd.below hb').1 (hr.below hb')
    (fun x hx => by obtain ⟨d, h, rfl⟩ := List.mem_map.1 hx; exact (hd.2 d h).ok) (fun x hx _ => by obtain ⟨d, h, rfl⟩ := List.mem_map.1 hx; exact ⟨(D.mem h).l0, (D.mem h).l1⟩) (fun x hx _ => by obtain ⟨d, h, rfl⟩ := List.mem_map.1 hx; exact ⟨(D.mem h).c0, by have := (D.mem h).c1; omega⟩) rc
    (by rw [List.length_map]; have h1 : (db.length + 2) * hopSum reach ≤ 202 * 1048576 := Nat.mul_le_mul (by omega) hb; omega) (by rw [List.length_map]; omega))
  have HR := Lib.hid hr
  have LV := Lib.hid (fun W => lives_calls W)
  have HDI := Lib.hid hd.2
  obtain ⟨da, dc, e1, hl1, hcd⟩ := hd.1.get
  simp only [List.length_map] at e1 hl1 hcd
  obtain ⟨ra, rcap, e2, hl2, -⟩ := hr.get
  subst e1 e2
  have HCD := Lib.hid hcd
  have mixed : Tryz.prog.follows .mixedOrders = true := by kernel_rfl
  clear hd hr hcd hb
  obtain ⟨WA, hWA⟩ : ∃ WA, w.alloc (.cells #[.int .u32 area, .slice da db.length dc] 36) = WA := ⟨_, rfl⟩
  have BA : Below w.heap.size w WA := by rw [← hWA]; exact (Below.refl _ _).alloc (Nat.le_refl _) _
  have bA : WA.heap[w.heap.size]? = some (.cells #[.int .u32 area, .slice da db.length dc] 36 (0, 0)) := by rw [← hWA]; exact alloc_new w _
  have C1 := Lib.hid (CD.out WA BA)
  have y0 := blk_cell (i := 0) bA rfl
  have y1 := blk_cell (i := 1) bA rfl
  have HWA := Lib.hid hWA
  have HBA := Lib.hid BA
  have HXA := Lib.hid bA
  clear hWA BA bA CD
  by_cases n1 : 200 < (db.length : Int)
  · have g1 : decide (200 < (db.length : Int)) = true := decide_eq_true n1
    clear C1 CR RT n1
    go_enter Tryz.func4, Tryz.ntmps4
    go_upto_region 1 with fail
    rw [HWA.out]
    go_wp2_with fail
    refine (LV.out _).mono ?_
    rintro e w9 ⟨rfl, B9⟩
    have FIN := Lib.hid (HBA.out.trans (B9.mono HBA.out.size))
    clear B9
    go_wp2_with fail
    go_ret
    exact ⟨rfl, FIN.out⟩
  have g1 : decide (200 < (db.length : Int)) = false := decide_eq_false n1
  have N1 : Hid (db.length ≤ 200) := Lib.hid (by omega)
  clear n1
  go_enter Tryz.func4, Tryz.ntmps4
  go_upto_region 1 with fail
  rw [HWA.out]
  go_wp2_with fail
  refine C1.out.mono ?_
  rintro e w1 ⟨c, rfl, B1, K1⟩
  have HB1 := Lib.hid (HBA.out.trans (B1.mono HBA.out.size))
  have HX1 := Lib.hid ((B1.block _ (blk_lt HXA.out)).trans HXA.out)
  clear y0 y1 C1 HWA HXA
  by_cases c0 : c = 0
  rotate_left
  · have d2 : (c != 0) = true := by simpa using c0
    clear B1 K1 CR RT c0
    go_wp2_with fail
    refine (LV.out _).mono ?_
    rintro e w9 ⟨rfl, B9⟩
    have FIN := Lib.hid (HB1.out.trans (B9.mono HB1.out.size))
    clear B9
    go_wp2_with fail
    go_ret
    exact ⟨rfl, FIN.out⟩
  subst c0
  have DB := Lib.hid (K1 rfl).2
  have C2 := Lib.hid (CR.out w1 HB1.out)
  clear B1 K1 CR
  go_wp2_with fail
  refine C2.out.mono ?_
  rintro e w2 ⟨b2, rfl, B2, K2⟩
  have HB2 := Lib.hid (HB1.out.trans (B2.mono HB1.out.size))
  have HX2 := Lib.hid ((B2.block _ (blk_lt HX1.out)).trans HX1.out)
  clear C2 HX1
  cases b2 with
  | false =>
    clear B2 K2 RT
    go_wp2_with fail
    refine (LV.out _).mono ?_
    rintro e w9 ⟨rfl, B9⟩
    have FIN := Lib.hid (HB2.out.trans (B9.mono HB2.out.size))
    clear B9
    go_wp2_with fail
    go_ret
    exact ⟨rfl, FIN.out⟩
  | true =>
    have RC := Lib.hid (K2 rfl)
    have R3 := Lib.hid (RT.out N1.out DB.out RC.out w2 HB2.out)
    clear B2 K2 RT
    have y0 := blk_cell (i := 0) HX2.out rfl
    have y1 := blk_cell (i := 1) HX2.out rfl
    go_wp2_with fail
    refine R3.out.mono ?_
    rintro e w4 ⟨v, l, rfl, RA, B4, -, MEM⟩
    have HB4 := Lib.hid (HB2.out.trans (B4.mono HB2.out.size))
    have HX4 := Lib.hid ((B4.block _ (blk_lt HX2.out)).trans HX2.out)
    have HRA := Lib.hid RA
    have HME := Lib.hid MEM
    obtain ⟨va, vc, rfl, hll, hcl⟩ := RA.get
    have HCL := Lib.hid hcl
    clear RA B4 MEM R3 HX2 y0 y1 hcl
    have y1 := blk_cell (i := 1) HX4.out rfl
    go_wp2_with fail
    clear y1
    go_loopw [38] (fun iv wr => ∃ k : Nat, iv = .int .i64 k ∧ k ≤ db.length ∧ Hid (Below w4.heap.size w4 wr)) (fun i _ => db.length - (intOf i).toNat)
    case atStart => exact ⟨0, rfl, Nat.zero_le _, Lib.hid (Below.refl _ _)⟩
    case round =>
      obtain ⟨k, rfl, hk, GG⟩ := hrel
      by_cases c : k < db.length
      · obtain ⟨b2, o2, rfl, hb0, hcc⟩ := HCD.out (by omega)
        have BW := Lib.hid (HB4.out.trans (GG.out.mono HB4.out.size))
        have D8 : LsaCells wr b2 (o2 + k * 15) (dAt db k).x := by
          have := hcc k c
          simp only [List.getElem_map] at this
          rw [dAt_eq c]; exact this.below BW.out hb0
        obtain ⟨⟨d0, d1, d2, d3, d4⟩, ⟨d5, d6, d7, d8, d9⟩, ⟨d10, d11, d12, d13, d14⟩⟩ := D8
        have hmem : dAt db k ∈ db := by rw [dAt_eq c]; exact List.getElem_mem c
        have OKX := Lib.hid (DB.out.mem hmem)
        have OLX := Lib.hid (HDI.out _ hmem).ok
        have br := (GG.out.block _ (blk_lt HX4.out)).trans HX4.out
        have KC := Lib.hid c
        have n0 : (0 : Int) ≤ (k : Int) := by omega
        have n1 : (k : Int) < (db.length : Int) := by omega
        have n3 : ((k : Int)).toNat = k := by omega
        have y0 := blk_cell (i := 0) br rfl
        have y1 := blk_cell (i := 1) br rfl
        have AOK : Hid (∀ y, inK 3 router (dAt db k).x = true → wayF area (dAt db k).x.router reach = some y → ¬ 16777216 < y.cost + (dAt db k).x.cost → ∃ z : Int, z ≤ y.cost + (dAt db k).x.cost ∧ (∃ y ∈ l, y.rt.pfx = ⟨(dAt db k).x.id, (dAt db k).x.len⟩) ∧ ∀ y ∈ l, y.rt.pfx = ⟨(dAt db k).x.id, (dAt db k).x.len⟩ → y.rt.cost = z) := Lib.hid (fun y h1 h2 h3 => by
          have t3 : (dAt db k).x.typ = 3 := by
            unfold inK at h1
            simp only [Bool.and_eq_true, decide_eq_true_eq] at h1
            exact h1.1.1
          have ck : k < (db.map LsaD.x).length := by simpa using c
          have ek : (db.map LsaD.x)[k] = (dAt db k).x := by rw [List.getElem_map, dAt_eq c]
          obtain ⟨z, hz, hzc⟩ := ofK_best area router reach (db.map LsaD.x) (y := y) _ (Nat.le_refl _) k ck ck (by rw [ek]; exact h1) (by rw [ek]; exact h2) (by rw [ek]; exact h3)
          rw [ek, sum_pfx OKX.out t3] at hz
          rw [ek] at hzc
          have po : pfxOk ⟨(dAt db k).x.id, (dAt db k).x.len⟩ := by rw [← sum_pfx OKX.out t3]; exact pfxOk_of OLX.out OKX.out.l0 OKX.out.l1
          exact ⟨z.cost, hzc, routes_at HME.out po hz⟩)
        have CX : Hid (0 ≤ (dAt db k).x.cost ∧ (dAt db k).x.cost ≤ 16777216) := Lib.hid ⟨OKX.out.c0, by have := OKX.out.c1; omega⟩
        clear hcc c hmem OKX OLX
        generalize dAt db k = x at *
        obtain ⟨⟨xtyp, xid, xlen, xrouter, xseq, xage, xsum, xborder, xboundary, xla, xln, xlc, xaa, xan, xac, xcost, xsecond, xfwd, xtag⟩, lk, att⟩ := x
        simp only at d0 d1 d2 d3 d4 d5 d6 d7 d8 d9 d10 d11 d12 d13 d14 AOK CX
        obtain ⟨W3, hW3⟩ : ∃ W3, wr.alloc (.cells #[.int .i64 xtyp, .int .u32 xid, .int .i64 xlen, .int .u32 xrouter, .int .i64 xseq, .int .i64 xage, .int .i64 xsum, .bool xborder, .bool xboundary, .slice xla xln xlc, .slice xaa xan xac, .int .i64 xcost, .bool xsecond, .int .u32 xfwd, .int .i64 xtag] 47) = W3 := ⟨_, rfl⟩
        have B3 : Below wr.heap.size wr W3 := by rw [← hW3]; exact (Below.refl _ _).alloc (Nat.le_refl _) _
        have bx : W3.heap[wr.heap.size]? = some (.cells #[.int .i64 xtyp, .int .u32 xid, .int .i64 xlen, .int .u32 xrouter, .int .i64 xseq, .int .i64 xage, .int .i64 xsum, .bool xborder, .bool xboundary, .slice xla xln xlc, .slice xaa xan xac, .int .i64 xcost, .bool xsecond, .int .u32 xfwd, .int .i64 xtag] 47 (0, 0)) := by rw [← hW3]; exact alloc_new _ _
        have B43 := Lib.hid (GG.out.trans (B3.mono GG.out.size))
        obtain ⟨y, bo, hway, hyes⟩ := wayR_form area xrouter reach
        have RWC := Lib.hid (rway_calls W3 _ reach (HR.out.below (HB4.out.trans (B43.out.mono HB4.out.size))) area xrouter)
        rw [hway] at RWC
        have HY : Hid (bo = true → wayF area xrouter reach = some y) := Lib.hid hyes
        have YC : Hid (bo = true → costFine y.cost) := Lib.hid (fun h => RC.out y (wayF_mem (hyes h)))
        clear hway hyes
        obtain ⟨yr, ya, yi, yb, yo, yc, yha, yhn, yhc, yh⟩ := y
        simp only [rchE] at RWC YC
        have y0 := bcell B3 y0
        have HW3 := Lib.hid hW3
        have HBX := Lib.hid bx
        have HY1 := Lib.hid ((B3.block _ (blk_lt br)).trans br)
        clear hW3 B3 bx br GG
        go_upto_region 8 with fail
        rw [HW3.out]
        clear d0 d1 d2 d3 d4 d5 d6 d7 d8 d9 d10 d11 d12 d13 d14 y1
        obtain ⟨⟨⟨e0, e1, e2, e3, e4⟩, ⟨e5, e6, e7, e8, e9⟩, ⟨e10, e11, e12, e13, e14⟩⟩, -⟩ := blk15 HBX.out
        go_wp2_with fail
        refine RWC.out.mono ?_
        rintro e w5 ⟨rfl, G5⟩
        obtain ⟨W6, hW6⟩ : ∃ W6, w5.alloc (.cells #[.int .u32 yr, .int .u32 ya, .bool yi, .bool yb, .bool yo, .int .i64 yc, .slice yha yhn yhc] 50) = W6 := ⟨_, rfl⟩
        have B56 : Below w5.heap.size w5 W6 := by rw [← hW6]; exact (Below.refl _ _).alloc (Nat.le_refl _) _
        have by6 : W6.heap[w5.heap.size]? = some (.cells #[.int .u32 yr, .int .u32 ya, .bool yi, .bool yb, .bool yo, .int .i64 yc, .slice yha yhn yhc] 50 (0, 0)) := by rw [← hW6]; exact alloc_new _ _
        have B36 := G5.b.trans (B56.mono G5.b.size)
        have B46 := Lib.hid (B43.out.trans (B36.mono B43.out.size))
        have HX6 := Lib.hid ((B36.block _ (blk_lt HBX.out)).trans HBX.out)
        have HY6 := Lib.hid by6
        have HW6 := Lib.hid hW6
        clear hW6 B56 by6 B36 G5 RWC y0 e0 e1 e2 e3 e4 e5 e6 e7 e8 e9 e10 e11 e12 e13 e14 HY1
        go_upto_region 9 with fail
        rw [HW6.out]
        obtain ⟨⟨⟨e0, e1, e2, e3, e4⟩, ⟨e5, e6, e7, e8, e9⟩, ⟨e10, e11, e12, e13, e14⟩⟩, -⟩ := blk15 HX6.out
        have t5 := blk_cell (i := 5) HY6.out rfl
        by_cases q1 : xtyp = 3
        · have c1 : (xtyp != 3) = false := by simpa using q1
          by_cases q2 : 3600 ≤ xage
          · have c2 : decide (3600 ≤ xage) = true := decide_eq_true q2
            clear AOK q1 q2
            go_wp2_with fail
            go_roundw
            case rel => exact ⟨k + 1, by go_num, KC.out, B46⟩
            case measure => simp [intOf]; have := KC.out; omega
          · have c2 : decide (3600 ≤ xage) = false := decide_eq_false q2
            by_cases q3 : xrouter = router
            · have c3 : (xrouter == router) = true := by simpa using q3
              clear AOK q1 q2 q3
              go_wp2_with fail
              go_roundw
              case rel => exact ⟨k + 1, by go_num, KC.out, B46⟩
              case measure => simp [intOf]; have := KC.out; omega
            · have c3 : (xrouter == router) = false := by simpa using q3
              cases bo with
              | false =>
                clear AOK q1 q2 q3
                go_wp2_with fail
                go_roundw
                case rel => exact ⟨k + 1, by go_num, KC.out, B46⟩
                case measure => simp [intOf]; have := KC.out; omega
              | true =>
                have wrp : IntKind.i64.wrap (yc + xcost) = yc + xcost := by
                  have h1 := (YC.out rfl).1
                  have h2 := (YC.out rfl).2
                  have h3 := CX.out.1
                  have h4 := CX.out.2
                  exact IntWalk.i64_in _ (by omega)
                by_cases q4 : 16777216 < yc + xcost
                · have c4 : decide (16777216 < yc + xcost) = true := decide_eq_true q4
                  clear AOK q1 q2 q3 q4
                  go_wp2_with fail
                  go_roundw
                  case rel => exact ⟨k + 1, by go_num, KC.out, B46⟩
                  case measure => simp [intOf]; have := KC.out; omega
                · have c4 : decide (16777216 < yc + xcost) = false := decide_eq_false q4
                  obtain ⟨z, hz, hex, hall⟩ := AOK.out _ (by simp only [inK, Bool.and_eq_true, decide_eq_true_eq, Bool.not_eq_true', decide_eq_false_iff_not]; exact ⟨⟨q1, by omega⟩, q3⟩) (HY.out rfl) (by show yc + xcost ≤ 16777216; omega)
                  have HZ := Lib.hid hz
                  have HEX := Lib.hid hex
                  have HAL := Lib.hid hall
                  have FC := Lib.hid (lfind_calls W6 _ l (HRA.out.below B46.out) xid xlen)
                  clear AOK q1 q2 q3 q4 hz hex hall
                  go_wp2_with fail
                  refine FC.out.mono ?_
                  rintro e w7 ⟨i, rfl, G7, FI⟩
                  rcases FI with ⟨rfl, hno⟩ | ⟨j, rfl, hj, hjp⟩
                  · exfalso
                    obtain ⟨y, hy, he⟩ := HEX.out
                    exact hno y hy he
                  · have hcj := HAL.out _ (List.getElem_mem hj) hjp
                    have B47 := Lib.hid (B46.out.trans (G7.b.mono B46.out.size))
                    obtain ⟨b4, o4, rfl, hb4, hcc4⟩ := HCL.out (by omega)
                    obtain ⟨-, -, -, -, u4, -⟩ := (hcc4 j hj).below B47.out hb4
                    have v11 := bcell G7.b e11
                    have v5 := bcell G7.b t5
                    rw [hcj] at u4
                    have j0 : (0 : Int) ≤ (j : Int) := by omega
                    have j1 : (j : Int) < (l.length : Int) := by omega
                    have j3 : ((j : Int)).toNat = j := by omega
                    have jn : decide ((j : Int) < 0) = false := decide_eq_false (by omega)
                    have c5 : decide (yc + xcost < z) = false := decide_eq_false (by have := HZ.out; omega)
                    have BZ := Lib.hid (fun n => B47.out.trans ((((Gr.refl w7).drewN n).b).mono B47.out.size))
                    clear hcc4 hcj hjp hj G7 FC e0 e1 e2 e3 e4 e5 e6 e7 e8 e9 e10 e11 e12 e13 e14 t5
                    go_wp2_with fail
                    go_quiet (fail)
                    have BZZ := Lib.hid (BZ.out nq)
                    clear u4 v11 v5
                    go_wp2_with fail
                    go_roundw
                    case rel => exact ⟨k + 1, by go_num, KC.out, BZZ⟩
                    case measure => simp [intOf]; have := KC.out; omega
        · have c1 : (xtyp != 3) = true := by simpa using q1
          clear AOK q1
          go_wp2_with fail
          go_roundw
          case rel => exact ⟨k + 1, by go_num, KC.out, B46⟩
          case measure => simp [intOf]; have := KC.out; omega
      · --LOOP2
        have HGG := Lib.hid GG.out
        clear GG hk
        obtain ⟨W5, hW5⟩ : ∃ W5, W5 = wr := ⟨_, rfl⟩
        subst hW5
        go_wp2_with fail
        go_loopw [112] (fun iv wr => ∃ k : Nat, iv = .int .i64 k ∧ k ≤ l.length ∧ Hid (Below w4.heap.size w4 wr)) (fun i _ => l.length - (intOf i).toNat)
        case atStart => exact ⟨0, rfl, Nat.zero_le _, HGG⟩
        case round =>
          clear HGG
          obtain ⟨k, rfl, hk, GG⟩ := hrel
          by_cases c : k < l.length
          · obtain ⟨b4, o4, rfl, hb4, hcc4⟩ := HCL.out (by omega)
            have CL : Hid (∀ W, Below w4.heap.size w4 W → W.cell? ⟨b4, o4 + k * 9 + 8, none⟩ = some (.slice l[k].rt.ha l[k].rt.hn l[k].rt.hc)) := Lib.hid (fun W hb => by
              obtain ⟨-, -, -, -, -, -, -, -, u8⟩ := (hcc4 k c).below hb hb4
              exact u8)
            have HH : Hid (HopsAt w4 (.slice l[k].rt.ha l[k].rt.hn l[k].rt.hc) l[k].hops) := Lib.hid (HRA.out.hops _ (List.getElem_mem c))
            have US : Hid (∀ h ∈ l[k].hops, ∃ y ∈ reach, usedP y h) := Lib.hid (routes_hops HME.out (P := fun h => ∃ y ∈ reach, usedP y h) (ofK_hops area router reach (db.map LsaD.x) _ (Nat.le_refl _)) _ (List.getElem_mem c))
            have KC := Lib.hid c
            have n0 : (0 : Int) ≤ (k : Int) := by omega
            have n1 : (k : Int) < (l.length : Int) := by omega
            have n3 : ((k : Int)).toNat = k := by omega
            clear hcc4
            generalize l[k] = y at *
            clear c
            obtain ⟨⟨⟨pa, pl⟩, proto, parea, cost, second, cost2, tag, ha, hn, hcp⟩, hops⟩ := y
            obtain ⟨a3, c3, e3, h31, h32, -, hc3⟩ := HH.out.get
            have hxl : hops.length ≤ 9223372036854775807 := by simp only at h31; unfold maxLen at h32; omega
            clear h31 h32
            simp only [Value.slice.injEq] at e3
            obtain ⟨rfl, rfl, rfl⟩ := e3
            have HC3 := Lib.hid hc3
            simp only at CL US
            clear HH hc3
            have u8 := CL.out wr GG.out
            obtain ⟨W6, hW6⟩ : ∃ W6, W6 = wr := ⟨_, rfl⟩
            subst hW6
            go_wp2_with fail
            clear u8
            go_loopw [121] (fun iv wx => ∃ m : Nat, iv = .int .i64 m ∧ m ≤ hops.length ∧ Hid (Below w4.heap.size w4 wx)) (fun i _ => hops.length - (intOf i).toNat)
            case atStart => exact ⟨0, rfl, Nat.zero_le _, GG⟩
            case round =>
              clear GG
              obtain ⟨m, rfl, hm, GX⟩ := hrel
              by_cases cm : m < hops.length
              · obtain ⟨b3, o3, rfl, hb3, hcc3⟩ := HC3.out (by omega)
                obtain ⟨t0, t1, t2⟩ := hcc3 m cm
                have t0 := bcell GX.out t0
                have t1 := bcell GX.out t1
                have t2 := bcell GX.out t2
                have u8 := CL.out wr GX.out
                have UC := Lib.hid (used_calls wr _ reach (HR.out.below (HB4.out.trans (GX.out.mono HB4.out.size))) hops[m] (US.out _ (List.getElem_mem cm)))
                have MC := Lib.hid cm
                have m0 : (0 : Int) ≤ (m : Int) := by omega
                have m1 : (m : Int) < (hops.length : Int) := by omega
                have m3 : ((m : Int)).toNat = m := by omega
                clear hcc3
                generalize hops[m] = z at *
                clear cm
                obtain ⟨zi, za, zr⟩ := z
                simp only at t0 t1 t2 UC
                go_wp2_with fail
                refine UC.out.mono ?_
                rintro e w7 ⟨rfl, G7⟩
                have BZ := Lib.hid (GX.out.trans (G7.b.mono GX.out.size))
                clear G7 UC t0 t1 t2 u8 GX
                go_wp2_with fail
                go_roundw
                case rel => exact ⟨m + 1, by go_num, MC.out, BZ⟩
                case measure => simp [intOf]; have := MC.out; omega
              · have BZ := Lib.hid GX.out
                clear GX CL US HC3
                go_wp2_with fail
                go_roundw
                case rel => exact ⟨k + 1, by go_num, KC.out, BZ⟩
                case measure => simp [intOf]; have := KC.out; omega
          · have HGF := Lib.hid (HB4.out.trans (GG.out.mono HB4.out.size))
            clear GG
            go_wp2_with fail
            refine (LV.out _).mono ?_
            rintro e w9 ⟨rfl, B9⟩
            have FIN := Lib.hid (HGF.out.trans (B9.mono HGF.out.size))
            clear B9
            go_wp2_with fail
            go_ret
            exact ⟨rfl, FIN.out⟩

end Go.Proofs.YtogdconliofblaaGreat
