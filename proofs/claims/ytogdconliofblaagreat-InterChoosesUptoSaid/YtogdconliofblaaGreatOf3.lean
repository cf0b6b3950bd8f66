/-
  routingref33.offers.
-/
import Derived.Test.YtogdconliofblaaGreatOfs
import Derived.Test.YtogdconliofblaaGreatRwk
import Derived.Test.YtogdconliofblaaGreatLvx
import Derived.IntWalk
namespace Go.Proofs.YtogdconliofblaaGreat
open Go.RowKit

theorem Tryz.infoOffer : (Tryz.prog.info? 113).map (fun i => (i.zero, i.size, i.bytes)) = some (some (.agg #[.int .u32 0, .int .i64 0, .int .i64 0, .slice none 0 0]), 4, 48) := by kernel_rfl

/-- an offer as it lies in memory -/
structure OfP where
  pfx : Ls.Pfx
  cost : Int
  ha : Option Addr
  hn : Nat
  hc : Nat
  hops : List Ls.Hop
deriving Inhabited
def ofrE (o : OfP) : List Value := [.int .u32 o.pfx.addr, .int .i64 o.pfx.len, .int .i64 o.cost, .slice o.ha o.hn o.hc]
structure OfrAt (w : World) (v : Value) (l : List OfP) : Prop where
  sl : SlV 4 w v (l.map ofrE)
  hops : ∀ x ∈ l, HopsAt w (.slice x.ha x.hn x.hc) x.hops
theorem OfrAt.below {w w' : World} {v : Value} {l : List OfP} (h : OfrAt w v l) (hb : Below w.heap.size w w') : OfrAt w' v l :=
  ⟨h.sl.below hb, fun x hx => (h.hops x hx).below hb⟩

def rfSel (kind area router : Int) (reach : List Rch) (x : Lsa) : Option OfP :=
  if inK kind router x = true then (match wayF area x.router reach with
    | none => none
    | some y => if kind = 3 ∨ x.id ≠ router then some ⟨⟨x.id, x.len⟩, y.cost + x.cost, y.ha, y.hn, y.hc, y.hops⟩ else none) else none
def rfL (kind area router : Int) (reach : List Rch) (db : List Lsa) (k : Nat) : List OfP := (db.take k).filterMap (rfSel kind area router reach)
theorem rfL_succ (kind area router : Int) (reach : List Rch) (db : List Lsa) {k : Nat} (c : k < db.length) : rfL kind area router reach db (k + 1) = rfL kind area router reach db k ++ (match rfSel kind area router reach db[k] with | none => [] | some o => [o]) := by
  unfold rfL
  rw [List.take_succ_eq_append_getElem c, List.filterMap_append]
  congr 1
  cases h : rfSel kind area router reach db[k] with
  | none => simp [h]
  | some o => simp [h]
theorem rfL_len (kind area router : Int) (reach : List Rch) (db : List Lsa) (k : Nat) : (rfL kind area router reach db k).length ≤ k := by
  unfold rfL
  have h1 := List.length_filterMap_le (rfSel kind area router reach) (db.take k)
  rw [List.length_take] at h1
  omega
theorem rfL_hops {kind area router : Int} {reach : List Rch} {db : List Lsa} {k : Nat} {o : OfP} (h : o ∈ rfL kind area router reach db k) : ∃ x ∈ db, ∃ y, inK kind router x = true ∧ wayF area x.router reach = some y ∧ (kind = 3 ∨ x.id ≠ router) ∧ o = ⟨⟨x.id, x.len⟩, y.cost + x.cost, y.ha, y.hn, y.hc, y.hops⟩ := by
  unfold rfL at h
  obtain ⟨x, hx, hs⟩ := List.mem_filterMap.1 h
  refine ⟨x, List.mem_of_mem_take hx, ?_⟩
  unfold rfSel at hs
  split at hs
  · rename_i hk
    cases e : wayF area x.router reach with
    | none => rw [e] at hs; cases hs
    | some y =>
      rw [e] at hs
      simp only at hs
      split at hs
      · rename_i h2
        cases hs
        exact ⟨y, hk, rfl, h2, rfl⟩
      · cases hs
  · cases hs

/-- the offers of k advertisements are put out -/
structure OfW (W1 : World) (kind area router : Int) (reach : List Rch) (db : List Lsa) (k : Nat) (v : Value) (wr : World) : Prop where
  hk : k ≤ db.length
  own : wr.ownsRow W1.heap.size 113 4 v (rfL kind area router reach db k).length ((rfL kind area router reach db k).map ofrE).flatten
  bel : Below W1.heap.size W1 wr
theorem OfW.start (W1 : World) (kind area router : Int) (reach : List Rch) (db : List Lsa) : OfW W1 kind area router reach db 0 (.slice (some ⟨W1.heap.size, 0, none⟩) 0 0) (W1.alloc (.cells #[] 113)) := by
  refine ⟨Nat.zero_le _, ?_, (Below.refl _ _).alloc (Nat.le_refl _) _⟩
  have := World.ownsRow_made (size := 4) (e := 113) (base := W1.heap.size) W1 #[] 0 (by simp) (by unfold maxLen; omega) rfl
  simpa [rfL] using this
theorem OfW.below {W1 : World} {kind area router : Int} {reach : List Rch} {db : List Lsa} {k : Nat} {v : Value} {wr W' : World} (R : OfW W1 kind area router reach db k v wr) (hb : Below wr.heap.size wr W') : OfW W1 kind area router reach db k v W' :=
  ⟨R.hk, World.ownsRow.kept (row := none) R.own (grown_of_below hb none) (by cases v.ownBlock <;> simp), R.bel.trans (hb.mono R.bel.size)⟩
theorem OfW.skip {W1 : World} {kind area router : Int} {reach : List Rch} {db : List Lsa} {k : Nat} {v : Value} {wr W' : World} (R : OfW W1 kind area router reach db k v wr) (c : k < db.length) (h : rfSel kind area router reach db[k] = none) (hb : Below wr.heap.size wr W') : OfW W1 kind area router reach db (k + 1) v W' := by
  have R' := R.below hb
  refine ⟨c, ?_, R'.bel⟩
  rw [rfL_succ _ _ _ _ _ c, h, List.append_nil]
  exact R'.own
theorem OfW.push {W1 : World} {kind area router : Int} {reach : List Rch} {db : List Lsa} {k : Nat} {v v' : Value} {wr w4 : World} (R : OfW W1 kind area router reach db k v wr) (c : k < db.length) {o : OfP} (h : rfSel kind area router reach db[k] = some o)
    (own' : w4.ownsRow W1.heap.size 113 4 v' ((rfL kind area router reach db k).length + 1) (((rfL kind area router reach db k).map ofrE).flatten ++ ofrE o)) (hg4 : wr.grownBy w4 v.ownBlock) : OfW W1 kind area router reach db (k + 1) v' w4 := by
  refine ⟨c, ?_, R.bel.grown hg4 R.bel.size (fun j hj => (World.ownsRow.lt R.own j hj).1)⟩
  rw [rfL_succ _ _ _ _ _ c, h]
  simpa using own'

theorem wayR_form2 (area router : Int) (l : List Rch) : ∃ y b, wayR area router l = .tuple #[.agg (rchE y).toArray, .bool b] ∧ (b = true → wayF area router l = some y) ∧ (b = false → wayF area router l = none) := by
  unfold wayR
  cases h : wayF area router l with
  | none => exact ⟨rchZ, false, rfl, (fun h => by cases h), fun _ => rfl⟩
  | some y => exact ⟨y, true, rfl, (fun _ => rfl), fun h => by cases h⟩

def OfPost (w : World) (L : List OfP) (e : Ending) (w' : World) : Prop := ∃ v, e = .returned v ∧ OfrAt w' v L ∧ Below w.heap.size w w'

set_option maxHeartbeats 8000000 in
set_option maxRecDepth 100000 in
theorem roffers_calls (w : World) (kind area router : Int) (vd : Value) (db : List Lsa) (hd : LsasAt w vd db) (vr : Value) (reach : List Rch) (hr : ReachAt w vr reach) (cost : ∀ x ∈ db, x.typ = kind → 0 ≤ x.cost ∧ x.cost ≤ 16777216) (rc : ∀ y ∈ reach, costFine y.cost) (n1 : db.length ≤ 200) :
    Calls Tryz.prog 63 #[.agg #[.int .u32 area, vd], .int .u32 router, vr, .int .i64 kind] w (OfPost w (rfL kind area router reach db db.length)) := by
  obtain ⟨i0, hi0, hz0, hz1, hz2⟩ := info_parts Tryz.infoOffer
  have HI0 := Lib.hid hi0
  have HZ0 := Lib.hid hz0
  have HZ1 := Lib.hid hz1
  have HZ2 := Lib.hid hz2
  have HR := Lib.hid hr
  have HCO := Lib.hid cost
  have HRC := Lib.hid rc
  have N1 := Lib.hid n1
  obtain ⟨da, dc, e1, hl1, hcd⟩ := hd.get
  obtain ⟨ra, rcap, e2, hl2, -⟩ := hr.get
  subst e1 e2
  have HCD := Lib.hid hcd
  have RW0 := Lib.hid (fun W (hb : Below w.heap.size w W) r => rway_calls W _ reach (hr.below hb) area r)
  clear hd hr hcd cost rc n1 hi0 hz0 hz1 hz2
  obtain ⟨WA, hWA⟩ : ∃ WA, w.alloc (.cells #[.int .u32 area, .slice da db.length dc] 36) = WA := ⟨_, rfl⟩
  have BA : Below w.heap.size w WA := by rw [← hWA]; exact (Below.refl _ _).alloc (Nat.le_refl _) _
  have bA : WA.heap[w.heap.size]? = some (.cells #[.int .u32 area, .slice da db.length dc] 36 (0, 0)) := by rw [← hWA]; exact alloc_new w _
  obtain ⟨W2, hW2⟩ : ∃ W2, WA.alloc (.cells #[] 113) = W2 := ⟨_, rfl⟩
  have S0 : Hid (OfW WA kind area router reach db 0 (.slice (some ⟨WA.heap.size, 0, none⟩) 0 0) W2) := Lib.hid (by rw [← hW2]; exact OfW.start WA kind area router reach db)
  have B2 : Below WA.heap.size WA W2 := by rw [← hW2]; exact (Below.refl _ _).alloc (Nat.le_refl _) _
  have y1 := blk_cell (i := 1) ((B2.block _ (blk_lt bA)).trans bA) rfl
  have HWA := Lib.hid hWA
  have HW2 := Lib.hid hW2
  have HBA := Lib.hid BA
  have HXA := Lib.hid bA
  clear hWA BA bA hW2 B2
  go_enter Tryz.func63, Tryz.ntmps63
  go_upto_region 1 with fail
  rw [HWA.out]
  go_upto_region 2 with fail
  rw [HW2.out]
  clear HW2 HWA
  go_wp2_with fail
  clear y1
  go_loopw [9, 10] (fun vo iv wr => ∃ k : Nat, iv = .int .i64 k ∧ Hid (OfW WA kind area router reach db k vo wr)) (fun _ i _ => db.length - (intOf i).toNat)
  case atStart => exact ⟨0, rfl, S0⟩
  case round =>
    clear S0
    obtain ⟨k, rfl, S⟩ := hrel
    obtain ⟨vO, hvO⟩ : ∃ z, z = u9 := ⟨_, rfl⟩
    subst hvO
    have br := (S.out.bel.block _ (blk_lt HXA.out)).trans HXA.out
    have y1 := blk_cell (i := 1) br rfl
    by_cases c : k < db.length
    · obtain ⟨b2, o2, rfl, hb0, hcc⟩ := HCD.out (by omega)
      have BW := HBA.out.trans (S.out.bel.mono HBA.out.size)
      obtain ⟨⟨d0, d1, d2, d3, d4⟩, ⟨d5, d6, d7, d8, d9⟩, ⟨d10, d11, d12, d13, d14⟩⟩ := (hcc k c).below BW hb0
      have CX := Lib.hid (HCO.out _ (List.getElem_mem c))
      have SK := Lib.hid (fun h W' hb => S.out.skip c h (W' := W') hb)
      have PU := Lib.hid (fun W' (hb : Below wr.heap.size wr W') v' w4 o h own' hg4 => (S.out.below hb).push (v' := v') (w4 := w4) c (o := o) h own' hg4)
      have OWN := Lib.hid (fun W' (hb : Below wr.heap.size wr W') => (S.out.below hb).own)
      have hlen := rfL_len kind area router reach db k
      have KC := Lib.hid c
      have n0 : (0 : Int) ≤ (k : Int) := by omega
      have n1 : (k : Int) < (db.length : Int) := by omega
      have n3 : ((k : Int)).toNat = k := by omega
      have y0 := blk_cell (i := 0) br rfl
      have K1 : Hid ((rfL kind area router reach db k).length + 1 ≤ maxLen) := Lib.hid (by have h2 := N1.out; unfold maxLen; omega)
      have K2 : Hid (((rfL kind area router reach db k).length + 1) * 48 ≤ 140737488355328) := Lib.hid (by have h2 := N1.out; omega)
      have BSZ := Lib.hid S.out.bel.size
      clear hcc S hlen
      generalize db[k] = x at *
      clear c
      obtain ⟨xtyp, xid, xlen, xrouter, xseq, xage, xsum, xborder, xboundary, xla, xln, xlc, xaa, xan, xac, xcost, xsecond, xfwd, xtag⟩ := x
      simp only at d0 d1 d2 d3 d4 d5 d6 d7 d8 d9 d10 d11 d12 d13 d14 CX
      obtain ⟨W3, hW3⟩ : ∃ W3, wr.alloc (.cells #[.int .i64 xtyp, .int .u32 xid, .int .i64 xlen, .int .u32 xrouter, .int .i64 xseq, .int .i64 xage, .int .i64 xsum, .bool xborder, .bool xboundary, .slice xla xln xlc, .slice xaa xan xac, .int .i64 xcost, .bool xsecond, .int .u32 xfwd, .int .i64 xtag] 47) = W3 := ⟨_, rfl⟩
      have B3 : Below wr.heap.size wr W3 := by rw [← hW3]; exact (Below.refl _ _).alloc (Nat.le_refl _) _
      have bx : W3.heap[wr.heap.size]? = some (.cells #[.int .i64 xtyp, .int .u32 xid, .int .i64 xlen, .int .u32 xrouter, .int .i64 xseq, .int .i64 xage, .int .i64 xsum, .bool xborder, .bool xboundary, .slice xla xln xlc, .slice xaa xan xac, .int .i64 xcost, .bool xsecond, .int .u32 xfwd, .int .i64 xtag] 47 (0, 0)) := by rw [← hW3]; exact alloc_new _ _
      have RWC := Lib.hid (RW0.out W3 (BW.trans (B3.mono BW.size)) xrouter)
      obtain ⟨y, bo, hway, hyes⟩ := wayR_form2 area xrouter reach
      rw [hway] at RWC
      have HY : Hid (bo = true → wayF area xrouter reach = some y) := Lib.hid hyes.1
      have HYN : Hid (bo = false → wayF area xrouter reach = none) := Lib.hid hyes.2
      have YC : Hid (bo = true → costFine y.cost) := Lib.hid (fun h => HRC.out y (wayF_mem (hyes.1 h)))
      clear hway hyes
      obtain ⟨yr, ya, yi, yb, yo, yc, yha, yhn, yhc, yh⟩ := y
      simp only [rchE] at RWC YC
      have y0 := bcell B3 y0
      have HB3 := Lib.hid B3
      have HW3 := Lib.hid hW3
      have HBX := Lib.hid bx
      clear hW3 B3 bx br BW
      go_upto_region 6 with fail
      rw [HW3.out]
      clear d0 d1 d2 d3 d4 d5 d6 d7 d8 d9 d10 d11 d12 d13 d14 y1 HW3
      obtain ⟨⟨⟨e0, e1, e2, e3, e4⟩, ⟨e5, e6, e7, e8, e9⟩, ⟨e10, e11, e12, e13, e14⟩⟩, -⟩ := blk15 HBX.out
      by_cases q1 : xtyp = kind
      · have c1 : (xtyp != kind) = false := by simpa using q1
        by_cases q2 : 3600 ≤ xage
        · have c2 : decide (3600 ≤ xage) = true := decide_eq_true q2
          have NX := Lib.hid (SK.out (by simp [rfSel, inK, q1]; omega) _ HB3.out)
          clear SK HY HYN YC CX RWC q1 q2 PU OWN K1 K2 BSZ
          go_wp2_with fail
          go_roundw
          case rel => exact ⟨k + 1, by go_num, NX⟩
          case measure => simp [intOf]; have := KC.out; omega
        · have c2 : decide (3600 ≤ xage) = false := decide_eq_false q2
          by_cases q3 : xrouter = router
          · have c3 : (xrouter == router) = true := by simpa using q3
            have NX := Lib.hid (SK.out (by simp [rfSel, inK, q3]) _ HB3.out)
            clear SK HY HYN YC CX RWC q1 q2 q3 PU OWN K1 K2 BSZ
            go_wp2_with fail
            go_roundw
            case rel => exact ⟨k + 1, by go_num, NX⟩
            case measure => simp [intOf]; have := KC.out; omega
          · have c3 : (xrouter == router) = false := by simpa using q3
            have IK : Hid (inK kind router (⟨xtyp, xid, xlen, xrouter, xseq, xage, xsum, xborder, xboundary, xla, xln, xlc, xaa, xan, xac, xcost, xsecond, xfwd, xtag⟩ : Lsa) = true) := Lib.hid (by simp only [inK, Bool.and_eq_true, decide_eq_true_eq, Bool.not_eq_true', decide_eq_false_iff_not]; exact ⟨⟨q1, by omega⟩, q3⟩)
            have CXX := Lib.hid (CX.out q1)
            clear q1 q2 q3 CX
            go_wp2_with fail
            refine RWC.out.mono ?_
            rintro e w5 ⟨rfl, G5⟩
            obtain ⟨W6, hW6⟩ : ∃ W6, w5.alloc (.cells #[.int .u32 yr, .int .u32 ya, .bool yi, .bool yb, .bool yo, .int .i64 yc, .slice yha yhn yhc] 50) = W6 := ⟨_, rfl⟩
            have B56 : Below w5.heap.size w5 W6 := by rw [← hW6]; exact (Below.refl _ _).alloc (Nat.le_refl _) _
            have by6 : W6.heap[w5.heap.size]? = some (.cells #[.int .u32 yr, .int .u32 ya, .bool yi, .bool yb, .bool yo, .int .i64 yc, .slice yha yhn yhc] 50 (0, 0)) := by rw [← hW6]; exact alloc_new _ _
            have B36 := G5.b.trans (B56.mono G5.b.size)
            have HB6 := Lib.hid (HB3.out.trans (B36.mono HB3.out.size))
            have HX6 := Lib.hid ((B36.block _ (blk_lt HBX.out)).trans HBX.out)
            have HY6 := Lib.hid by6
            have HW6 := Lib.hid hW6
            clear hW6 B56 by6 B36 G5 RWC y0 e0 e1 e2 e3 e4 e5 e6 e7 e8 e9 e10 e11 e12 e13 e14
            go_upto_region 8 with fail
            rw [HW6.out]
            clear HW6
            obtain ⟨⟨⟨e0, e1, e2, e3, e4⟩, ⟨e5, e6, e7, e8, e9⟩, ⟨e10, e11, e12, e13, e14⟩⟩, -⟩ := blk15 HX6.out
            cases bo with
            | false =>
              have NX := Lib.hid (SK.out (by unfold rfSel; rw [if_pos IK.out, HYN.out rfl]) _ HB6.out)
              clear SK HY HYN YC IK CXX PU OWN K1 K2 BSZ
              go_wp2_with fail
              go_roundw
              case rel => exact ⟨k + 1, by go_num, NX⟩
              case measure => simp [intOf]; have := KC.out; omega
            | true =>
              have wrp : IntKind.i64.wrap (yc + xcost) = yc + xcost := by
                have h1 := (YC.out rfl).1
                have h2 := (YC.out rfl).2
                have h3 := CXX.out.1
                have h4 := CXX.out.2
                exact IntWalk.i64_in _ (by omega)
              have t5 := blk_cell (i := 5) HY6.out rfl
              have t6 := blk_cell (i := 6) HY6.out rfl
              obtain ⟨W7, hW7⟩ : ∃ W7, W6.alloc (.cells #[.int .u32 xid, .int .i64 xlen] 55) = W7 := ⟨_, rfl⟩
              have B7 : Below W6.heap.size W6 W7 := by rw [← hW7]; exact (Below.refl _ _).alloc (Nat.le_refl _) _
              have b7 : W7.heap[W6.heap.size]? = some (.cells #[.int .u32 xid, .int .i64 xlen] 55 (0, 0)) := by rw [← hW7]; exact alloc_new _ _
              obtain ⟨W8, hW8⟩ : ∃ W8, W7.alloc (.cells #[.int .u32 xid, .int .i64 xlen, .int .i64 (yc + xcost), .slice yha yhn yhc] 113) = W8 := ⟨_, rfl⟩
              have B8 : Below W7.heap.size W7 W8 := by rw [← hW8]; exact (Below.refl _ _).alloc (Nat.le_refl _) _
              have BK : Hid (W8.heap[W7.heap.size]? = some (.cells (List.toArray [.int .u32 xid, .int .i64 xlen, .int .i64 (yc + xcost), .slice yha yhn yhc]) 113 (0, 0))) := Lib.hid (by rw [← hW8]; exact alloc_new _ _)
              have B68 := B7.trans (B8.mono B7.size)
              have HB8 := HB6.out.trans (B68.mono HB6.out.size)
              have OW8 := Lib.hid (OWN.out W8 HB8)
              have PU8 := Lib.hid (PU.out W8 HB8)
              have ONE : Hid (∀ u ∈ ([.int .u32 xid, .int .i64 xlen, .int .i64 (yc + xcost), .slice yha yhn yhc] : List Value), u.oneCell' = true) := Lib.hid (by intro u hu; simp at hu; rcases hu with rfl | rfl | rfl | rfl <;> rfl)
              have BS : Hid (WA.heap.size ≤ W8.heap.size) := Lib.hid (Nat.le_trans BSZ.out HB8.size)
              have p0 := blk_cell (i := 0) b7 rfl
              have p1 := blk_cell (i := 1) b7 rfl
              have t5' := bcell B7 t5
              have t6' := bcell B7 t6
              have u11 := bcell B7 e11
              have HW7 := Lib.hid hW7
              have HW8 := Lib.hid hW8
              clear hW7 hW8 B7 b7 B8 B68 HB8
              generalize rfL kind area router reach db k = OUT at OW8 PU8 K1 K2
              by_cases q4 : kind = 3
              · have c4 : (kind == 3) = true := by simpa using q4
                have SE : Hid (rfSel kind area router reach (⟨xtyp, xid, xlen, xrouter, xseq, xage, xsum, xborder, xboundary, xla, xln, xlc, xaa, xan, xac, xcost, xsecond, xfwd, xtag⟩ : Lsa) = some ⟨⟨xid, xlen⟩, yc + xcost, yha, yhn, yhc, yh⟩) := Lib.hid (by unfold rfSel; rw [if_pos IK.out, HY.out rfl]; exact if_pos (.inl q4))
                clear q4
                clear SK HY HYN YC IK CXX
                go_upto_region 10 with fail
                rw [HW7.out]
                clear t5 t6 e0 e1 e2 e3 e4 e5 e6 e7 e8 e9 e10 e11 e12 e13 e14
                go_wp2_with (at_builtin; rw [HW8.out]; refine wpList_append_one rfl (.tmp 75) (.tmp 85) 111 rfl WA.heap.size 113 i0 (.agg #[.int .u32 0, .int .i64 0, .int .i64 0, .slice none 0 0]) 4 48 Tryz.underlying111 ?g1 ?g2 ?g3 ?g4 ?g5 ?g6 vO OUT.length _ ?g7 OW8.out W7.heap.size [.int .u32 xid, .int .i64 xlen, .int .i64 (yc + xcost), .slice yha yhn yhc] 113 ?g8 BK.out ?g9 ONE.out K1.out K2.out BS.out ?_; (case g1 => exact HI0.out); (case g2 => exact HZ0.out); (case g3 => exact HZ1.out); (case g4 => exact HZ2.out); (case g5 => exact rfl); (case g6 => decide); (case g7 => exact rfl); (case g8 => exact rfl); (case g9 => exact rfl); intro v' w9 own' hg4 d; have NX := Lib.hid (PU8.out v' w9 _ SE.out own' hg4); clear own' hg4 d)
                go_roundw
                case rel => exact ⟨k + 1, by go_num, NX⟩
                case measure => simp [intOf]; have := KC.out; omega
              · have c4 : (kind == 3) = false := by simpa using q4
                by_cases q5 : xid = router
                · have c5 : (xid != router) = false := by simpa using q5
                  have NX := Lib.hid (SK.out (by unfold rfSel; rw [if_pos IK.out, HY.out rfl]; exact if_neg (by simp [q4, q5])) _ HB6.out)
                  clear SK HY HYN YC IK CXX q4 q5 PU OWN BSZ PU8 OW8
                  go_wp2_with fail
                  go_roundw
                  case rel => exact ⟨k + 1, by go_num, NX⟩
                  case measure => simp [intOf]; have := KC.out; omega
                · have c5 : (xid != router) = true := by simpa using q5
                  have SE : Hid (rfSel kind area router reach (⟨xtyp, xid, xlen, xrouter, xseq, xage, xsum, xborder, xboundary, xla, xln, xlc, xaa, xan, xac, xcost, xsecond, xfwd, xtag⟩ : Lsa) = some ⟨⟨xid, xlen⟩, yc + xcost, yha, yhn, yhc, yh⟩) := Lib.hid (by unfold rfSel; rw [if_pos IK.out, HY.out rfl]; exact if_pos (.inr q5))
                  clear q4 q5
                  clear SK HY HYN YC IK CXX
                  go_upto_region 10 with fail
                  rw [HW7.out]
                  clear t5 t6 e0 e1 e2 e3 e4 e5 e6 e7 e8 e9 e10 e11 e12 e13 e14
                  go_wp2_with (at_builtin; rw [HW8.out]; refine wpList_append_one rfl (.tmp 75) (.tmp 85) 111 rfl WA.heap.size 113 i0 (.agg #[.int .u32 0, .int .i64 0, .int .i64 0, .slice none 0 0]) 4 48 Tryz.underlying111 ?g1 ?g2 ?g3 ?g4 ?g5 ?g6 vO OUT.length _ ?g7 OW8.out W7.heap.size [.int .u32 xid, .int .i64 xlen, .int .i64 (yc + xcost), .slice yha yhn yhc] 113 ?g8 BK.out ?g9 ONE.out K1.out K2.out BS.out ?_; (case g1 => exact HI0.out); (case g2 => exact HZ0.out); (case g3 => exact HZ1.out); (case g4 => exact HZ2.out); (case g5 => exact rfl); (case g6 => decide); (case g7 => exact rfl); (case g8 => exact rfl); (case g9 => exact rfl); intro v' w9 own' hg4 d; have NX := Lib.hid (PU8.out v' w9 _ SE.out own' hg4); clear own' hg4 d)
                  go_roundw
                  case rel => exact ⟨k + 1, by go_num, NX⟩
                  case measure => simp [intOf]; have := KC.out; omega
      · have c1 : (xtyp != kind) = true := by simpa using q1
        have NX := Lib.hid (SK.out (by simp [rfSel, inK, q1]) _ HB3.out)
        clear SK HY HYN YC CX RWC q1 PU OWN K1 K2 BSZ
        go_wp2_with fail
        go_roundw
        case rel => exact ⟨k + 1, by go_num, NX⟩
        case measure => simp [intOf]; have := KC.out; omega
    · have ek : k = db.length := by have := S.out.hk; omega
      subst ek
      have FI : Hid (OfPost w (rfL kind area router reach db db.length) (.returned vO) wr) := Lib.hid ⟨vO, rfl, ⟨SlV.of_own (base := WA.heap.size) (e := 113) (fun cs hcs => by obtain ⟨o, _, rfl⟩ := List.mem_map.1 hcs; rfl) (by rw [List.length_map]; exact S.out.own), fun o ho => by
        obtain ⟨x, hx, y, h1, h2, h3, rfl⟩ := rfL_hops ho
        exact (HR.out.hops y (wayF_mem h2)).below (HBA.out.trans (S.out.bel.mono HBA.out.size))⟩, HBA.out.trans (S.out.bel.mono HBA.out.size)⟩
      clear S
      go_wp2_with fail
      go_ret
      exact FI.out

end Go.Proofs.YtogdconliofblaaGreat
