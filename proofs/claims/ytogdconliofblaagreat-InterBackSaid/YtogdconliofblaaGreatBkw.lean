/-
  InterBack: the law walked.
-/
import Derived.Test.YtogdconliofblaaGreatBkl
import Derived.Test.YtogdconliofblaaGreatBkp
import Derived.Test.YtogdconliofblaaGreatSmx
import Derived.Test.YtogdconliofblaaGreatSme
import Derived.Test.YtogdconliofblaaGreatSrr
import Derived.Test.YtogdconliofblaaGreatLvx
import Derived.Deep.RegionHeld3
import Derived.IntWalk
namespace Go.Proofs.YtogdconliofblaaGreat
open Go.RowKit

/-- the routes that are kept so far -/
structure KpR (W1 : World) (into : Int) (rs : List RtH) (k : Nat) (v : Value) (wr : World) : Prop where
  hk : k ≤ rs.length
  own : RtsOwn W1.heap.size wr v (((rs.take k).filter fun y => keptB into y.rt).map RtH.rt)
  bel : Below W1.heap.size W1 wr
theorem KpR.start (W1 : World) (into : Int) (rs : List RtH) : KpR W1 into rs 0 (.slice (some ⟨W1.heap.size, 0, none⟩) 0 0) (W1.alloc (.cells #[] 57)) := by
  refine ⟨Nat.zero_le _, ?_, (Below.refl _ _).alloc (Nat.le_refl _) _⟩
  have := World.ownsRow_made (size := 9) (e := 57) (base := W1.heap.size) W1 #[] 0 (by simp) (by unfold maxLen; omega) rfl
  simpa [RtsOwn] using this
theorem KpR.below {W1 : World} {into : Int} {rs : List RtH} {k : Nat} {v : Value} {wr W' : World} (R : KpR W1 into rs k v wr) (hb : Below wr.heap.size wr W') : KpR W1 into rs k v W' :=
  ⟨R.hk, World.ownsRow.kept (row := none) R.own (grown_of_below hb none) (by cases v.ownBlock <;> simp), R.bel.trans (hb.mono R.bel.size)⟩
theorem KpR.skip {W1 : World} {into : Int} {rs : List RtH} {k : Nat} {v : Value} {wr : World} (R : KpR W1 into rs k v wr) (c : k < rs.length) (h : keptB into (rthAt rs k).rt = false) : KpR W1 into rs (k + 1) v wr := by
  refine ⟨c, ?_, R.bel⟩
  rw [rthAt_eq c] at h
  rw [List.take_succ_eq_append_getElem c, List.filter_append, List.filter_cons_of_neg (by simp [h]), List.filter_nil, List.append_nil]
  exact R.own
theorem KpR.push {W1 : World} {into : Int} {rs : List RtH} {k : Nat} {v v' : Value} {wr w4 : World} (R : KpR W1 into rs k v wr) (c : k < rs.length) (h : keptB into (rthAt rs k).rt = true)
    (own' : w4.ownsRow W1.heap.size 57 9 v' ((((rs.take k).filter fun y => keptB into y.rt).map RtH.rt).length + 1) (((((rs.take k).filter fun y => keptB into y.rt).map RtH.rt).map rtE).flatten ++ rtE (rthAt rs k).rt)) (hg4 : wr.grownBy w4 v.ownBlock) : KpR W1 into rs (k + 1) v' w4 := by
  refine ⟨c, ?_, R.bel.grown hg4 R.bel.size (fun j hj => (World.ownsRow.lt R.own j hj).1)⟩
  have e : ((rs.take (k + 1)).filter fun y => keptB into y.rt).map RtH.rt = ((rs.take k).filter fun y => keptB into y.rt).map RtH.rt ++ [(rthAt rs k).rt] := by
    rw [rthAt_eq c] at h ⊢
    rw [List.take_succ_eq_append_getElem c, List.filter_append, List.filter_cons_of_pos (by simpa using h), List.filter_nil, List.map_append]; rfl
  rw [e]
  unfold RtsOwn
  rw [List.length_append, List.map_append, List.flatten_append]
  simpa using own'
theorem KpR.len {W1 : World} {into : Int} {rs : List RtH} {k : Nat} {v : Value} {wr : World} (_R : KpR W1 into rs k v wr) : (((rs.take k).filter fun y => keptB into y.rt).map RtH.rt).length ≤ k := by
  rw [List.length_map]
  have h1 := List.length_filter_le (fun y : RtH => keptB into y.rt) (rs.take k)
  rw [List.length_take] at h1
  omega
theorem KpR.routes {w W1 : World} {into : Int} {rs : List RtH} {v vr : Value} {wr : World} (R : KpR W1 into rs rs.length v wr) (h1 : Below w.heap.size w W1) (hr : RoutesAt w vr rs) : RoutesAt wr v (rs.filter fun y => keptB into y.rt) := by
  have hb := h1.trans (R.bel.mono h1.size)
  refine ⟨?_, fun x hx => (hr.hops x (List.mem_filter.1 hx).1).below hb⟩
  have o := R.own
  rw [List.take_length] at o
  have e : (rs.filter fun y => keptB into y.rt).map (fun x => rtE x.rt) = ((rs.filter fun y => keptB into y.rt).map RtH.rt).map rtE := by rw [List.map_map]; rfl
  rw [e]
  exact SlV.of_own (rtE_len _) (by simpa [RtsOwn] using o)

set_option maxHeartbeats 4000000 in
set_option maxRecDepth 100000 in
theorem back_law (w : World) (C : Cfg) (lr : List Arg) (hlr : RngsAt w (.slice C.ra C.rn C.rc) lr) (okl : ∀ o ∈ lr, OkP o.pfx) (into : Int) (vr : Value) (rs : List RtH) (hr : RoutesAt w vr rs) (okr : ∀ y ∈ rs, OkP y.rt.pfx) :
    Calls Tryz.prog 5 #[.agg (cfgE C).toArray, .int .u32 into, vr] w (LivPost w) := by
  obtain ⟨i0, hi0, hz0, hz1, hz2⟩ := info_parts Tryz.infoRt
  have HI0 := Lib.hid hi0
  have HZ0 := Lib.hid hz0
  have HZ1 := Lib.hid hz1
  have HZ2 := Lib.hid hz2
  have CF := Lib.hid (fun W (hb : Below w.heap.size w W) => lfine_calls W C lr (hlr.below hb) okl vr rs (hr.below hb) okr)
  have SU1 := Lib.hid (fun (F : LFine lr rs) W (hb : Below w.heap.size w W) => summaries_calls W C lr (hlr.below hb) (fun o ho => ⟨okl o ho, pfxOk_rng (okl o ho) (by have := validP_len (F.2.2.1.1 o ho); omega)⟩) into vr rs (hr.below hb) (fun y hy => ⟨okr y hy, pfxOk_rng (okr y hy) (by have := validP_len (F.2.2.2 y hy); omega)⟩) F.2.1 F.1 (.slice none 0 0) [] (reachNil W) (fun x hx => by cases hx) (by simp))
  have SU2 := Lib.hid (fun (F : LFine lr rs) v W0 W (hb : Below w.heap.size w W) (hb0 : Below W0.heap.size W0 W) (hk : RoutesAt W0 v (rs.filter fun y => keptB into y.rt)) => summaries_calls W C lr (hlr.below hb) (fun o ho => ⟨okl o ho, pfxOk_rng (okl o ho) (by have := validP_len (F.2.2.1.1 o ho); omega)⟩) into v (rs.filter fun y => keptB into y.rt) (hk.below hb0) (fun y hy => ⟨okr y (List.mem_filter.1 hy).1, pfxOk_rng (okr y (List.mem_filter.1 hy).1) (by have := validP_len (F.2.2.2 y (List.mem_filter.1 hy).1); omega)⟩)
    (Nat.le_trans (List.length_filter_le _ _) F.2.1) F.1 (.slice none 0 0) [] (reachNil W) (fun x hx => by cases hx) (by simp))
  have LV := Lib.hid (fun W => lives_calls W)
  have HR := Lib.hid hr
  obtain ⟨a2, c2, rfl, hl2, hc⟩ := hr.get
  have HC := Lib.hid hc
  have mixed : Tryz.prog.follows .mixedOrders = true := by kernel_rfl
  clear hlr hr okl okr hi0 hz0 hz1 hz2 hc
  obtain ⟨router, ia, iN, ic, ra, rn, rc⟩ := C
  obtain ⟨WA, hWA⟩ : ∃ WA, w.alloc (.cells #[.int .u32 router, .slice ia iN ic, .slice ra rn rc] 26) = WA := ⟨_, rfl⟩
  have BA : Below w.heap.size w WA := by rw [← hWA]; exact (Below.refl _ _).alloc (Nat.le_refl _) _
  have bA : WA.heap[w.heap.size]? = some (.cells #[.int .u32 router, .slice ia iN ic, .slice ra rn rc] 26 (0, 0)) := by rw [← hWA]; exact alloc_new w _
  have F1 := Lib.hid (CF.out WA BA)
  simp only [cfgE] at F1 SU1 SU2 ⊢
  have y0 := blk_cell (i := 0) bA rfl
  have y1 := blk_cell (i := 1) bA rfl
  have y2 := blk_cell (i := 2) bA rfl
  have HWA := Lib.hid hWA
  have HBA := Lib.hid BA
  have HXA := Lib.hid bA
  clear hWA BA bA CF
  go_enter Tryz.func5, Tryz.ntmps5
  go_upto_region 1 with fail
  rw [HWA.out]
  go_wp2_with fail
  refine F1.out.mono ?_
  rintro e w1 ⟨b1, rfl, B1, K1⟩
  have HB1 := Lib.hid (HBA.out.trans (B1.mono HBA.out.size))
  have HX1 := Lib.hid ((B1.block _ (blk_lt HXA.out)).trans HXA.out)
  clear y0 y1 y2 F1 HWA HXA
  cases b1 with
  | false =>
    clear B1 K1 SU1 SU2
    go_wp2_with fail
    refine (LV.out _).mono ?_
    rintro e w9 ⟨rfl, B9⟩
    have FIN := Lib.hid (HB1.out.trans (B9.mono HB1.out.size))
    clear B9
    go_wp2_with fail
    go_ret
    exact ⟨rfl, FIN.out⟩
  | true =>
    have FA := Lib.hid (K1 rfl)
    have SA1 := Lib.hid (SU1.out FA.out)
    have SA2 := Lib.hid (SU2.out FA.out)
    clear B1 K1 SU1 SU2
    obtain ⟨W2, hW2⟩ : ∃ W2, w1.alloc (.cells #[] 57) = W2 := ⟨_, rfl⟩
    have R0 : Hid (KpR w1 into rs 0 (.slice (some ⟨w1.heap.size, 0, none⟩) 0 0) W2) := Lib.hid (by rw [← hW2]; exact KpR.start w1 into rs)
    have HW2 := Lib.hid hW2
    clear hW2
    go_upto_region 4 with fail
    rw [HW2.out]
    go_wp2_with fail
    clear HW2
    go_loopw [7, 17] (fun v iv wr => ∃ k : Nat, iv = .int .i64 k ∧ Hid (KpR w1 into rs k v wr)) (fun _ i _ => rs.length - (intOf i).toNat)
    case atStart => exact ⟨0, rfl, R0⟩
    case round =>
      clear R0
      obtain ⟨k, rfl, R⟩ := hrel
      obtain ⟨vA, hvA⟩ : ∃ z, z = u7 := ⟨_, rfl⟩
      subst hvA
      by_cases c : k < rs.length
      · obtain ⟨b, off, rfl, hb0, hcc⟩ := HC.out (by omega)
        have BW := HB1.out.trans (R.out.bel.mono HB1.out.size)
        obtain ⟨d0, d1, d2, d3, d4, d5, d6, d7, d8⟩ := (hcc k c).below BW hb0
        rw [← rthAt_eq c] at d0 d1 d2 d3 d4 d5 d6 d7 d8
        have SK := Lib.hid (R.out.skip c)
        have n0 : (0 : Int) ≤ (k : Int) := by omega
        have n1 : (k : Int) < (rs.length : Int) := by omega
        have n3 : ((k : Int)).toNat = k := by omega
        have KC := Lib.hid c
        obtain ⟨W3, hW3⟩ : ∃ W3, wr.alloc (.cells (rtE (rthAt rs k).rt).toArray 57) = W3 := ⟨_, rfl⟩
        have B3 : Below wr.heap.size wr W3 := by rw [← hW3]; exact (Below.refl _ _).alloc (Nat.le_refl _) _
        have PU := Lib.hid (fun v' w4 h own' hg4 => (R.out.below B3).push (v' := v') (w4 := w4) c h own' hg4)
        have OWN : Hid (W3.ownsRow w1.heap.size 57 9 vA (((rs.take k).filter fun y => keptB into y.rt).map RtH.rt).length ((((rs.take k).filter fun y => keptB into y.rt).map RtH.rt).map rtE).flatten) := Lib.hid (R.out.below B3).own
        have BK : Hid (W3.heap[wr.heap.size]? = some (.cells (rtE (rthAt rs k).rt).toArray 57 (0, 0))) := Lib.hid (by rw [← hW3]; exact alloc_new _ _)
        have ONE : Hid (∀ u ∈ rtE (rthAt rs k).rt, u.oneCell' = true) := Lib.hid (fun u hu => rtE_one _ u hu)
        have K1 : Hid ((((rs.take k).filter fun y => keptB into y.rt).map RtH.rt).length + 1 ≤ maxLen) := Lib.hid (by have h1 := R.out.len; have h2 := FA.out.2.1; unfold maxLen; omega)
        have K2 : Hid (((((rs.take k).filter fun y => keptB into y.rt).map RtH.rt).length + 1) * 88 ≤ 140737488355328) := Lib.hid (by have h1 := R.out.len; have h2 := FA.out.2.1; omega)
        have BS : Hid (w1.heap.size ≤ W3.heap.size) := Lib.hid (Nat.le_trans R.out.bel.size B3.size)
        have HW3 := Lib.hid hW3
        clear hcc hW3 B3 R BW c
        generalize ((rs.take k).filter fun y => keptB into y.rt).map RtH.rt = OUT at OWN K1 K2 PU
        generalize rthAt rs k = y at *
        obtain ⟨⟨⟨pa, pl⟩, proto, area, cost, second, cost2, tag, ha, hn, hcp⟩, hops⟩ := y
        simp only [rtE] at d0 d1 d2 d3 d4 d5 d6 d7 d8 PU BK ONE HW3
        by_cases q1 : area = into
        · have e1 : (area != into) = false := by simpa using q1
          have NX := Lib.hid (SK.out (by simp [keptB, q1]))
          clear SK PU OWN BK ONE K1 K2 BS HW3 q1
          go_wp2_with fail
          go_roundw
          case rel => exact ⟨k + 1, by go_num, NX⟩
          case measure => simp [intOf]; have := KC.out; omega
        · have e1 : (area != into) = true := by simpa using q1
          by_cases q2 : into = 0
          · have e2 : (into != 0) = false := by simpa using q2
            by_cases q3 : proto = 3
            · have e3 : (proto == 3) = true := by simpa using q3
              have PK := Lib.hid (fun v' w4 => PU.out v' w4 (by simp [keptB, q1, q3]))
              clear SK PU q1 q2 q3
              go_wp2_with (at_builtin; rw [HW3.out]; refine wpList_append_one rfl (.tmp 39) (.tmp 44) 27 rfl w1.heap.size 57 i0 (.agg #[.int .u32 0, .int .i64 0, .int .i64 0, .int .u32 0, .int .i64 0, .bool false, .int .i64 0, .int .i64 0, .slice none 0 0]) 9 88 Tryz.underlying27 ?g1 ?g2 ?g3 ?g4 ?g5 ?g6 vA OUT.length _ ?g7 OWN.out wr.heap.size [.int .u32 pa, .int .i64 pl, .int .i64 proto, .int .u32 area, .int .i64 cost, .bool second, .int .i64 cost2, .int .i64 tag, .slice ha hn hcp] 57 ?g8 BK.out ?g9 ONE.out K1.out K2.out BS.out ?_; (case g1 => exact HI0.out); (case g2 => exact HZ0.out); (case g3 => exact HZ1.out); (case g4 => exact HZ2.out); (case g5 => exact rfl); (case g6 => decide); (case g7 => exact rfl); (case g8 => exact rfl); (case g9 => exact rfl); intro v' w4 own' hg4 d; have NX := Lib.hid (PK.out v' w4 own' hg4); clear own' hg4 d)
              go_roundw
              case rel => exact ⟨k + 1, by go_num, NX⟩
              case measure => simp [intOf]; have := KC.out; omega
            · have e3 : (proto == 3) = false := by simpa using q3
              have NX := Lib.hid (SK.out (by simp [keptB, q2, q3]))
              clear SK PU OWN BK ONE K1 K2 BS HW3 q1 q2 q3
              go_wp2_with fail
              go_roundw
              case rel => exact ⟨k + 1, by go_num, NX⟩
              case measure => simp [intOf]; have := KC.out; omega
          · have e2 : (into != 0) = true := by simpa using q2
            have PK := Lib.hid (fun v' w4 => PU.out v' w4 (by simp [keptB, q1, q2]))
            clear SK PU q1 q2
            go_wp2_with (at_builtin; rw [HW3.out]; refine wpList_append_one rfl (.tmp 39) (.tmp 44) 27 rfl w1.heap.size 57 i0 (.agg #[.int .u32 0, .int .i64 0, .int .i64 0, .int .u32 0, .int .i64 0, .bool false, .int .i64 0, .int .i64 0, .slice none 0 0]) 9 88 Tryz.underlying27 ?g1 ?g2 ?g3 ?g4 ?g5 ?g6 vA OUT.length _ ?g7 OWN.out wr.heap.size [.int .u32 pa, .int .i64 pl, .int .i64 proto, .int .u32 area, .int .i64 cost, .bool second, .int .i64 cost2, .int .i64 tag, .slice ha hn hcp] 57 ?g8 BK.out ?g9 ONE.out K1.out K2.out BS.out ?_; (case g1 => exact HI0.out); (case g2 => exact HZ0.out); (case g3 => exact HZ1.out); (case g4 => exact HZ2.out); (case g5 => exact rfl); (case g6 => decide); (case g7 => exact rfl); (case g8 => exact rfl); (case g9 => exact rfl); intro v' w4 own' hg4 d; have NX := Lib.hid (PK.out v' w4 own' hg4); clear own' hg4 d)
            go_roundw
            case rel => exact ⟨k + 1, by go_num, NX⟩
            case measure => simp [intOf]; have := KC.out; omega
      · --END
        have ek : k = rs.length := by have := R.out.hk; omega
        subst ek
        have RK := Lib.hid (R.out.routes HB1.out HR.out)
        have BW := Lib.hid (HB1.out.trans (R.out.bel.mono HB1.out.size))
        have bx := (R.out.bel.block _ (blk_lt HX1.out)).trans HX1.out
        have k0 := blk_cell (i := 0) bx rfl
        have k1 := blk_cell (i := 1) bx rfl
        have k2 := blk_cell (i := 2) bx rfl
        have C1 := Lib.hid (fun (W : World) (hb : Below wr.heap.size wr W) => SA1.out W (BW.out.trans (hb.mono BW.out.size)))
        have C2 := Lib.hid (fun (W : World) (hb : Below wr.heap.size wr W) => SA2.out vA wr W (BW.out.trans (hb.mono BW.out.size)) hb RK.out)
        have EQ := Lib.hid (fun (W1 W2 : World) (v1 v2 : Value) (L1 L2 : List Lsa) (h1 : LsasAt W1 v1 L1) (h2 : LsasAt W2 v2 L2) (hb : Below W1.heap.size W1 W2) (i1 : SuIs ⟨router, ia, iN, ic, ra, rn, rc⟩ lr into rs [] L1) (i2 : SuIs ⟨router, ia, iN, ic, ra, rn, rc⟩ lr into (rs.filter fun y => keptB into y.rt) [] L2) => (by
          obtain rfl := i1.kept i2
          exact equal_calls W2 v1 v2 L1 (h1.below hb) h2 i1.bare : Calls Tryz.prog 11 #[v1, v2] W2 fun e w' => e = .returned (.bool true) ∧ Gr W2 w'))
        clear R c bx SA1 SA2
        go_wp2_with fail
        go_region_held3 (fun W' => W'.cell? ⟨w.heap.size, 0, none⟩ = some (.int .u32 router) ∧ W'.cell? ⟨w.heap.size, 1, none⟩ = some (.slice ia iN ic) ∧ W'.cell? ⟨w.heap.size, 2, none⟩ = some (.slice ra rn rc)) (first | with_reducible exact ⟨k0, k1, k2⟩ | with_reducible exact ⟨m0, m1, m2⟩ | with_reducible exact ⟨s0, s1, s2⟩ | with_reducible exact ⟨t0, t1, t2⟩ | with_reducible exact ⟨x0, x1, x2⟩ | go_keep)
          (first
          | (go_at_call 12; ((with_reducible refine (C1.out wr.drew (Below.refl _ _).drew).mono ?_)); rintro e w2 ⟨v2, L2, rfl, O2, I2, B2⟩; have D2 : Below wr.heap.size wr w2 := (Below.refl _ _).drew.trans B2; have HD2 := Lib.hid D2; have HO2 := Lib.hid O2; have HI2 := Lib.hid I2; have m0 := bcell B2 k0; have m1 := bcell B2 k1; have m2 := bcell B2 k2; have C3 := Lib.hid (C2.out w2 D2); clear B2 D2 O2 I2)
          | (go_at_call 12; ((with_reducible refine C3.out.mono ?_)); rintro e w3 ⟨v3, L3, rfl, O3, I3, B3⟩; have HD3 := Lib.hid (HD2.out.trans (B3.mono HD2.out.size)); have s0 := bcell B3 m0; have s1 := bcell B3 m1; have s2 := bcell B3 m2; have E3 := Lib.hid (EQ.out w2 w3 v2 v3 L2 L3 HO2.out O3 B3 HI2.out I3); clear B3 O3 I3)
          | (go_at_call 11; ((with_reducible refine E3.out.mono ?_)); rintro e w4 ⟨rfl, G4⟩; have HD4 := Lib.hid (HD3.out.trans (G4.b.mono HD3.out.size)); have t0 := bcell G4.b s0; have t1 := bcell G4.b s1; have t2 := bcell G4.b s2; clear G4)
          | (go_at_call 10; ((with_reducible refine (LV.out w4).mono ?_)); rintro e w5 ⟨rfl, B5⟩; have FIN := Lib.hid (BW.out.trans ((HD4.out.trans (B5.mono HD4.out.size)).mono BW.out.size)); have x0 := bcell B5 t0; have x1 := bcell B5 t1; have x2 := bcell B5 t2; clear B5))
        go_wp2_with fail
        go_ret
        exact ⟨rfl, FIN.out⟩

end Go.Proofs.YtogdconliofblaaGreat
