/-
  routingref34.Routes walked.
-/
import Derived.Test.YtiemmejpaahbpaaGreatRrx
import Derived.Test.YtiemmejpaahbpaaGreatRef
import Derived.Deep.DeepCutAuto
namespace Go.Proofs.YtiemmejpaahbpaaGreat
open Go.RowKit

theorem room5 {a b x y z M : Nat} (h1 : a ≤ y) (h2 : b ≤ M) (h3 : (z + 2) * 16 ≤ 140737488355328) (h4 : x ≤ z) (h5 : x = y + M) : (a + b + 2) * 16 ≤ 140737488355328 := by
  have h6 : a + b ≤ z := by omega
  have h7 : (a + b + 2) * 16 ≤ (z + 2) * 16 := Nat.mul_le_mul_right 16 (by omega)
  exact Nat.le_trans h7 h3
theorem mul_up (k M : Nat) : (k + 2) * M = (k + 1) * M + M := by
  have h := Nat.add_mul (k + 1) 1 M
  rw [Nat.one_mul] at h
  exact h
theorem room4 {a b k n M : Nat} (h1 : a ≤ (k + 1) * M) (h2 : b ≤ M) (h3 : ((n + 2) * M + 2) * 16 ≤ 140737488355328) (hk : k < n) : (a + b + 2) * 16 ≤ 140737488355328 :=
  room5 h1 h2 h3 (Nat.mul_le_mul_right M (show k + 2 ≤ n + 2 by omega)) (mul_up k M)

set_option maxHeartbeats 16000000 in
set_option maxRecDepth 100000 in
theorem rroutes_calls (w : World) (vd : Value) (db : List Lsa) (router : Int) (vr : Value) (reach : List Rch) (vi : Value) (inner : List RtH) (M : Nat) (hd : LsasAt w vd db)
    (hO : ∀ x ∈ db, ∀ W, Below w.heap.size w W → Calls Tryz.prog 11 #[.agg (lsaE x).toArray, .int .u32 router, vr, vi] W (RofPost W router x reach inner))
    (hM : ∀ o ∈ rfOffs router reach inner db, o.hops.length ≤ M) (hT : ((db.length + 2) * M + 2) * 16 ≤ 140737488355328) (hn : (db.length + 2) * 88 ≤ 140737488355328) :
    Calls Tryz.prog 10 #[vd, .int .u32 router, vr, vi] w (RrPost w (rfOffs router reach inner db)) := by
  obtain ⟨i0, hi0, hz0, hz1, hz2⟩ := info_parts Tryz.infoRt
  obtain ⟨i1, hi1, hy0, hy1, hy2⟩ := info_parts Tryz.infoOffer
  have HI0 := Lib.hid hi0
  have HZ0 := Lib.hid hz0
  have HZ1 := Lib.hid hz1
  have HZ2 := Lib.hid hz2
  have HI1 := Lib.hid hi1
  have HY0 := Lib.hid hy0
  have HY1 := Lib.hid hy1
  have HY2 := Lib.hid hy2
  obtain ⟨a1, c1, rfl, hl1, hcd⟩ := hd.get
  have HCD := Lib.hid hcd
  have HO := Lib.hid hO
  have HM := Lib.hid hM
  have HT := Lib.hid hT
  have HN := Lib.hid hn
  have mixed : Tryz.prog.follows .mixedOrders = true := by kernel_rfl
  obtain ⟨WA, hWA⟩ : ∃ WA, (w.alloc (.cells #[] 36)).alloc (.cells #[] 70) = WA := ⟨_, rfl⟩
  have ST : Hid (Rg w router reach inner db 0 [] (.slice (some ⟨w.heap.size, 0, none⟩) 0 0) (.slice (some ⟨w.heap.size + 1, 0, none⟩) 0 0) WA) := Lib.hid ⟨by rw [← hWA]; exact R1.start w, by simp [rfOffs], Nat.zero_le _⟩
  have HWA := Lib.hid hWA
  clear hi0 hz0 hz1 hz2 hi1 hy0 hy1 hy2 hd hcd hO hM hT hn hWA
  go_enter Tryz.func10, Tryz.ntmps10
  go_wp2_with fail
  rw [HWA.out]
  clear HWA
  go_loopw [9, 10, 11] (fun va vb ix wr => ∃ (k : Nat) (all : List RtH), ix = .int .i64 k ∧ Rg w router reach inner db k all va vb wr) (fun _ _ ix _ => db.length - (intOf ix).toNat)
  case atStart => exact ⟨0, [], rfl, ST.out⟩
  case round =>
    clear ST
    obtain ⟨k, all, rfl, R⟩ := hrel
    have hk := R.hk
    obtain ⟨vA, hvA⟩ : ∃ x, x = u9 := ⟨_, rfl⟩
    subst hvA
    obtain ⟨vB, hvB⟩ : ∃ x, x = u10 := ⟨_, rfl⟩
    subst hvB
    by_cases c : k < db.length
    · obtain ⟨dbb, doff, rfl, hdb, hdc⟩ := HCD.out (by omega)
      obtain ⟨⟨h0, h1, h2, h3, h4⟩, ⟨h5, h6, h7, h8, h9⟩, ⟨h10, h11, h12, h13, h14⟩⟩ := (hdc k c).below R.r1.bel hdb
      have OC := Lib.hid (HO.out db[k] (List.getElem_mem c) wr R.r1.bel)
      have LEN : Hid (all.length ≤ k) := Lib.hid R.len
      have RR := Lib.hid R
      have SK := Lib.hid (fun h W' g => RR.out.skip c h (W' := W') g)
      have PU := Lib.hid (fun h x hx vA' vB' W' r => RR.out.push c h (x := x) hx (vA' := vA') (vB' := vB') (W' := W') r)
      have i0' : (0 : Int) ≤ (k : Int) := by omega
      have i1' : (k : Int) < (db.length : Int) := by omega
      have s3 : ((k : Int)).toNat = k := by omega
      have KD : Hid (k < db.length) := Lib.hid c
      clear hdc R
      generalize db[k] = x at *
      unfold RofPost at OC
      generalize rfAll router x reach inner = RAL at *
      generalize rfR x reach inner = o at *
      obtain ⟨typ, id, len, dr, seq, age, sum, border, boundary, la, ln, lc, aa, an, ac, dcost, dsecond, fwd, dtag⟩ := x
      simp only [lsaE] at *
      go_wp2_with fail
      refine OC.out.mono ?_
      clear h0 h1 h2 h3 h4 h5 h6 h7 h8 h9 h10 h11 h12 h13 h14 OC
      rintro e w3 (⟨hall, OP, ON⟩ | ⟨hall, rr, rfl, B3⟩)
      · obtain ⟨ox, on, oy, rfl, HA, B3, NW⟩ := OP.new ON
        clear OP ON
        have PU2 := Lib.hid (PU.out hall ⟨o.rt ox on oy, o.hops⟩ rfl)
        have HB3 := Lib.hid B3
        have HHA := Lib.hid HA
        have FR := Lib.hid (RR.out.r1.fresh NW)
        have RR3 : Hid (R1 w all (all.map fun x => x.rt.pfx) vA vB w3) := Lib.hid (RR.out.r1.below B3)
        have SZ : Hid (∀ b, w3.heap.size ≤ b → vA.ownBlock ≠ some b ∧ vB.ownBlock ≠ some b) := Lib.hid (fun b hb => ⟨fun z => by have := (RR3.out.ownA.lt b z).2; omega, fun z => by have := (RR3.out.ownB.lt b z).2; omega⟩)
        clear B3 HA NW SK PU hall RR
        obtain ⟨⟨oa, ol⟩, op, or, oc, os, od, ot, oh⟩ := o
        simp only [Rp.rt, rtE] at *
        go_upto_region 7 with fail
        generalize hW4 : w3.alloc _ = W4
        have B4 : Below w3.heap.size w3 W4 := by rw [← hW4]; exact (Below.refl _ _).alloc (Nat.le_refl _) _
        have bx : W4.heap[w3.heap.size]? = some (.cells #[.int .u32 oa, .int .i64 ol, .int .i64 op, .int .u32 or, .int .i64 oc, .bool os, .int .i64 od, .int .i64 ot, .slice ox on oy] 36 (0, 0)) := by rw [← hW4]; exact alloc_new _ _
        have BXX := Lib.hid bx
        have B5 : Below W4.heap.size W4 (W4.alloc (.cells #[.int .u32 oa, .int .i64 ol, .int .i64 op, .int .u32 or, .int .i64 oc, .bool os, .int .i64 od, .int .i64 ot, .slice ox on oy] 36)) := (Below.refl _ _).alloc (Nat.le_refl _) _
        have R5 : Hid (R1 w all (all.map fun x => x.rt.pfx) vA vB (W4.alloc (.cells #[.int .u32 oa, .int .i64 ol, .int .i64 op, .int .u32 or, .int .i64 oc, .bool os, .int .i64 od, .int .i64 ot, .slice ox on oy] 36))) := Lib.hid ((RR3.out.below B4).below B5)
        have HX5 : Hid (HopsAt (W4.alloc (.cells #[.int .u32 oa, .int .i64 ol, .int .i64 op, .int .u32 or, .int .i64 oc, .bool os, .int .i64 od, .int .i64 ot, .slice ox on oy] 36)) (.slice ox on oy) oh) := Lib.hid ((HHA.out.below B4).below B5)
        have BK5 : Hid ((W4.alloc (.cells #[.int .u32 oa, .int .i64 ol, .int .i64 op, .int .u32 or, .int .i64 oc, .bool os, .int .i64 od, .int .i64 ot, .slice ox on oy] 36)).heap[W4.heap.size]? = some (.cells (List.toArray [.int .u32 oa, .int .i64 ol, .int .i64 op, .int .u32 or, .int .i64 oc, .bool os, .int .i64 od, .int .i64 ot, .slice ox on oy]) 36 (0, 0))) := Lib.hid (alloc_new W4 _)
        have BX5 := Lib.hid ((B5.block _ (blk_lt bx)).trans bx)
        have K1 : Hid ((all.map RtH.rt).length + 1 ≤ maxLen) := Lib.hid (by have := LEN.out; have := HN.out; have := KD.out; rw [List.length_map]; unfold maxLen; omega)
        have K2 : Hid (((all.map RtH.rt).length + 1) * 88 ≤ 140737488355328) := Lib.hid (by have := LEN.out; have := HN.out; have := KD.out; rw [List.length_map]; omega)
        have K3 : Hid (((all.map fun x => x.rt.pfx).length + 1) ≤ maxLen) := Lib.hid (by have := LEN.out; have := HN.out; have := KD.out; rw [List.length_map]; unfold maxLen; omega)
        have K4 : Hid (((all.map fun x => x.rt.pfx).length + 1) * 48 ≤ 140737488355328) := Lib.hid (by have := LEN.out; have := HN.out; have := KD.out; rw [List.length_map]; omega)
        have ONE : Hid (∀ u ∈ ([.int .u32 oa, .int .i64 ol, .int .i64 op, .int .u32 or, .int .i64 oc, .bool os, .int .i64 od, .int .i64 ot, .slice ox on oy] : List Value), u.oneCell' = true) := Lib.hid (rtE_one ⟨⟨oa, ol⟩, op, or, oc, os, od, ot, ox, on, oy⟩)
        have BS5 : Hid (w.heap.size ≤ (W4.alloc (.cells #[.int .u32 oa, .int .i64 ol, .int .i64 op, .int .u32 or, .int .i64 oc, .bool os, .int .i64 od, .int .i64 ot, .slice ox on oy] 36)).heap.size) := Lib.hid R5.out.bel.size
        have bz : w3.heap.size < (W4.alloc (.cells #[.int .u32 oa, .int .i64 ol, .int .i64 op, .int .u32 or, .int .i64 oc, .bool os, .int .i64 od, .int .i64 ot, .slice ox on oy] 36)).heap.size := blk_lt BX5.out
        have SZ2 : Hid (w3.heap.size < W4.heap.size) := Lib.hid (blk_lt bx)
        have STA := Lib.hid (fun v' W' own' hg d => (R5.out.stepA (x := ⟨⟨⟨oa, ol⟩, op, or, oc, os, od, ot, ox, on, oy⟩, oh⟩) (v' := v') (W' := W') HX5.out (fun _ => FR.out) own' hg d))
        have BX6 := Lib.hid (fun (W' : World) (hg : (W4.alloc (.cells #[.int .u32 oa, .int .i64 ol, .int .i64 op, .int .u32 or, .int .i64 oc, .bool os, .int .i64 od, .int .i64 ot, .slice ox on oy] 36)).grownBy W' vA.ownBlock) => (hg.block _ bz (fun z => (SZ.out _ (Nat.le_refl _)).1 z.symm)).trans BX5.out)
        obtain ⟨⟨x0, x1, x2, x3, x4, x5, x6, x7, x8⟩, -⟩ := blk9 bx
        clear hW4 B4 B5 bx bz HHA
        go_upto_region 9 with (at_builtin; refine wpList_append_one rfl (.tmp 41) (.tmp 43) 25 rfl w.heap.size 36 i0 (.agg #[.int .u32 0, .int .i64 0, .int .i64 0, .int .u32 0, .int .i64 0, .bool false, .int .i64 0, .int .i64 0, .slice none 0 0]) 9 88 Tryz.underlying25 HI0.out HZ0.out HZ1.out HZ2.out rfl (by decide) vA (all.map RtH.rt).length _ rfl R5.out.ownA W4.heap.size [.int .u32 oa, .int .i64 ol, .int .i64 op, .int .u32 or, .int .i64 oc, .bool os, .int .i64 od, .int .i64 ot, .slice ox on oy] 36 rfl BK5.out rfl ONE.out K1.out K2.out BS5.out ?_; intro vA' W6 own' hg6 d6; have R6 := Lib.hid (STA.out vA' W6 own' hg6 d6); have bx6 := BX6.out W6 hg6; clear own' hg6 d6 STA BX6 R5 HX5 BK5 BX5 K1 K2 ONE BS5 x0 x1 x2 x3 x4 x5 x6 x7 x8)
        have BXW := Lib.hid bx6
        obtain ⟨⟨x0, x1, x2, x3, x4, x5, x6, x7, x8⟩, -⟩ := blk9 bx6
        have B7 : Below W6.heap.size W6 (W6.alloc (.cells #[.int .u32 oa, .int .i64 ol, .int .i64 0, .slice none 0 0] 70)) := (Below.refl _ _).alloc (Nat.le_refl _) _
        have R7 := Lib.hid (R6.out.below B7)
        have BK7 : Hid ((W6.alloc (.cells #[.int .u32 oa, .int .i64 ol, .int .i64 0, .slice none 0 0] 70)).heap[W6.heap.size]? = some (.cells (List.toArray [.int .u32 oa, .int .i64 ol, .int .i64 0, .slice none 0 0]) 70 (0, 0))) := Lib.hid (alloc_new W6 _)
        have ONE : Hid (∀ u ∈ ([.int .u32 oa, .int .i64 ol, .int .i64 0, .slice none 0 0] : List Value), u.oneCell' = true) := Lib.hid (by intro u hu; simp at hu; rcases hu with rfl | rfl | rfl | rfl <;> rfl)
        have BS7 : Hid (w.heap.size ≤ (W6.alloc (.cells #[.int .u32 oa, .int .i64 ol, .int .i64 0, .slice none 0 0] 70)).heap.size) := Lib.hid R7.out.bel.size
        have STB := Lib.hid (fun v' W' own' hg d => R7.out.stepB (p := ⟨oa, ol⟩) (v' := v') (W' := W') own' hg d)
        clear B7 bx6
        go_wp2_with (at_builtin; refine wpList_append_one rfl (.tmp 45) (.tmp 49) 68 rfl w.heap.size 70 i1 (.agg #[.int .u32 0, .int .i64 0, .int .i64 0, .slice none 0 0]) 4 48 Tryz.underlying68 HI1.out HY0.out HY1.out HY2.out ?g1 ?g2 vB (all.map fun x => x.rt.pfx).length _ ?g3 R7.out.ownB W6.heap.size [.int .u32 oa, .int .i64 ol, .int .i64 0, .slice none 0 0] 70 ?g4 ?g5 ?g6 ?g7 ?g8 ?g9 ?g10 ?_; (case g1 => exact rfl); (case g2 => decide); (case g3 => exact rfl); (case g4 => exact rfl); (case g5 => exact BK7.out); (case g6 => exact rfl); (case g7 => exact ONE.out); (case g8 => exact K3.out); (case g9 => exact K4.out); (case g10 => exact BS7.out); intro vB' W8 own' hg8 d8; have R8 := Lib.hid (STB.out vB' W8 own' hg8 d8); clear own' hg8 d8 STB R7 BK7 K3 K4 ONE BS7 x0 x1 x2 x3 x4 x5 x6 x7 x8)
        have NX := Lib.hid (PU2.out vA' vB' W8 R8.out)
        clear PU2 R8 R6
        go_roundw
        case rel => exact ⟨k + 1, _, by go_num, NX.out⟩
        case measure => simp [intOf]; omega
      · have NB := Lib.hid (fun o => SK.out hall (w3.alloc o) (B3.trans (((Below.refl _ _).alloc (Nat.le_refl _) o).mono B3.size)))
        clear SK PU B3 hall RR
        obtain ⟨⟨oa, ol⟩, op, or, oc, os, od, ot, ox, on, oy⟩ := rr
        simp only [rtE] at *
        go_wp2_with fail
        go_roundw
        case rel => exact ⟨k + 1, all, by go_num, NB.out _⟩
        case measure => simp [intOf]; omega
    ·
      have RE := Lib.hid R.r1
      have EQ : all.map RtH.pure = rfOffs router reach inner db := by have := R.eq; rwa [List.take_of_length_le (by omega)] at this
      have hlen : all.length ≤ db.length := by have := R.len; omega
      have HNA : Hid ((all.length + 2) * 88 ≤ 140737488355328) := Lib.hid (by have := HN.out; omega)
      have HML : Hid (∀ x ∈ all, x.hops.length ≤ M) := Lib.hid (fun x hx => HM.out x.pure (by rw [← EQ]; exact List.mem_map.2 ⟨x, hx, rfl⟩))
      have HTA : Hid (((all.length + 2) * M + 2) * 16 ≤ 140737488355328) := Lib.hid (by
        have h1 := HT.out
        have h2 : (all.length + 2) * M ≤ (db.length + 2) * M := Nat.mul_le_mul_right _ (by omega)
        omega)
      have BW : Hid (Below w.heap.size w wr) := Lib.hid R.r1.bel
      have FINP : Hid (∀ (v : Value) (W' : World), RrPost w (all.map RtH.pure) (.returned v) W' → RrPost w (rfOffs router reach inner db) (.returned v) W') := Lib.hid (fun v W' h => by rw [← EQ]; exact h)
      clear R EQ hlen HM HN HT HO hk
      generalize rfOffs router reach inner db = RFO at *
      obtain ⟨wE, ewE⟩ : ∃ x, x = wr := ⟨_, rfl⟩
      subst ewE
      have BA : Below wE.heap.size wE (wE.alloc (.cells #[] 36)) := (Below.refl _ _).alloc (Nat.le_refl _) _
      have PC := Lib.hid (prefixes_calls (wE.alloc (.cells #[] 36)) vB (all.map fun x => x.rt.pfx) (RE.out.below BA).offs (by have := HNA.out; rw [List.length_map]; omega))
      obtain ⟨a9, c9, e9, hl9, hc9⟩ := RE.out.at.get
      subst e9
      have HC9 := Lib.hid hc9
      clear BA hc9
      go_wp2_with fail
      refine PC.out.mono ?_
      rintro e w2 ⟨vP, rfl, PA, B2⟩
      have RO0 := Lib.hid (Ro.start (all.map RtH.pure) B2 PA)
      have POST := Lib.hid (fun (out : List RtH) (vO : Value) (wr : World) (i : Nat) (hi : i = (Ls.adds Ls.pfxLt [] (all.map fun x => x.rt.pfx)).length) (R : Ro wE vP (Ls.adds Ls.pfxLt [] (all.map fun x => x.rt.pfx)) (all.map RtH.pure) i out vO wr) => FINP.out vO wr (Ro.post BW.out R hi))
      have MEMP : Hid (∀ i (hi : i < (Ls.adds Ls.pfxLt [] (all.map fun x => x.rt.pfx)).length), ∃ j, bst (all.map RtH.pure) (Ls.adds Ls.pfxLt [] (all.map fun x => x.rt.pfx))[i] all.length = some j ∧ j < all.length) := Lib.hid (fun i hi => by
        have hm := (Ls.mem_adds (lt := Ls.pfxLt) [] (all.map fun x => x.rt.pfx) _).1 (List.getElem_mem hi)
        rcases hm with hm | hm
        · cases hm
        · have := bst_some (all.map RtH.pure) (p := (Ls.adds Ls.pfxLt [] (all.map fun x => x.rt.pfx))[i]) (by rw [List.map_map]; exact hm)
          simpa using this)
      have LENP : Hid ((Ls.adds Ls.pfxLt [] (all.map fun x => x.rt.pfx)).length ≤ all.length) := Lib.hid (by
        have := Ls.adds_len (lt := Ls.pfxLt) (all.map fun x => x.rt.pfx) []
        simpa using this)
      obtain ⟨aP, cP, eP, hlP, -⟩ := PA.get
      subst eP
      clear PC PA B2 FINP
      generalize Ls.adds Ls.pfxLt [] (all.map fun x => x.rt.pfx) = PS at *
      go_wp2_with fail
      go_loopw [14, 16] (fun o ix wi => ∃ (i : Nat) (out : List RtH), ix = .int .i64 i ∧ Ro wE (.slice aP PS.length cP) PS (all.map RtH.pure) i out o wi) (fun _ ix _ => PS.length - (intOf ix).toNat)
      case atStart => exact ⟨0, [], rfl, RO0.out⟩
      case round =>
        clear RO0
        obtain ⟨i, out, rfl, R⟩ := hrel
        have hi := R.hi
        obtain ⟨vO, hvO⟩ : ∃ x, x = u14 := ⟨_, rfl⟩
        subst hvO
        by_cases ci : i < PS.length
        · obtain ⟨j, hj, hjl⟩ := MEMP.out i ci
          obtain ⟨a', c', e', -, hcp⟩ := R.ps.get
          cases e'
          obtain ⟨pb, po, rfl, hpb, hpc⟩ := hcp (by omega)
          obtain ⟨p0, p1⟩ := hpc i ci
          have PU := Lib.hid (fun x hp W (g : Below wr.heap.size wr W) v' W' hx nx own' hg d => (R.below g).push ci (x := x) hp (v' := v') (W := W) (W' := W') hx nx own' hg d)
          have RI := Lib.hid R
          have HJ := Lib.hid hj
          have pi0 : (0 : Int) ≤ (i : Int) := by omega
          have pi1 : (i : Int) < (PS.length : Int) := by omega
          have pi3 : ((i : Int)).toNat = i := by omega
          have CI : Hid (i < PS.length) := Lib.hid ci
          clear hcp hpc hj R
          generalize PS[i] = p at *
          clear ci
          obtain ⟨pa, pl⟩ := p
          simp only at p0 p1
          obtain ⟨WI, eWI⟩ : ∃ x, x = wr := ⟨_, rfl⟩
          subst eWI
          have P0 := Lib.hid p0
          have P1 := Lib.hid p1
          clear p0 p1
          go_wp2_with fail
          go_loopw [17, 18] (fun b ix wi => ∃ k : Nat, ix = .int .i64 k ∧ k ≤ all.length ∧ b = .int .i64 (lookV (bst (all.map RtH.pure) ⟨pa, pl⟩ k)) ∧ Hid (Below WI.heap.size WI wi)) (fun _ ix _ => all.length - (intOf ix).toNat)
          case atStart => exact ⟨0, rfl, Nat.zero_le _, rfl, Lib.hid (Below.refl _ _)⟩
          case round =>
            obtain ⟨k, rfl, hk, rfl, BI⟩ := hrel
            by_cases c : k < all.length
            · obtain ⟨rb, ro, rfl, hrb, hcc⟩ := HC9.out (by omega)
              have BE : Hid (Below wE.heap.size wE wr) := Lib.hid (RI.out.r1.bel.trans (BI.out.mono RI.out.r1.bel.size))
              have p0 := bcell BI.out P0.out
              have p1 := bcell BI.out P1.out
              have dc := (hcc k c).below BE.out hrb
              rw [← rthAt_eq c] at dc
              obtain ⟨d0, d1, d2, d3, d4, d5, d6, d7, d8⟩ := dc
              have BN := Lib.hid (bst_no (p := ⟨pa, pl⟩) c)
              have BF := Lib.hid (bst_first (p := ⟨pa, pl⟩) c)
              have BC := Lib.hid (fun j => bst_cmp (p := ⟨pa, pl⟩) (j := j) c)
              have JV : Hid (∀ j, bst (all.map RtH.pure) ⟨pa, pl⟩ k = some j → RtCells wr rb (ro + j * 9) (rthAt all j).rt ∧ j < all.length) := Lib.hid (fun j hj => by
                have := bst_lt hj
                have c' : j < all.length := by omega
                rw [rthAt_eq c']; exact ⟨(hcc j c').below BE.out hrb, c'⟩)
              have i0' : (0 : Int) ≤ (k : Int) := by omega
              have i1' : (k : Int) < (all.length : Int) := by omega
              have s3 : ((k : Int)).toNat = k := by omega
              have KC : Hid (k < all.length) := Lib.hid c
              clear hcc c
              generalize rthAt all k = y at *
              obtain ⟨⟨⟨ya, yl⟩, yp, yr, yc, ys, yd, yt, yx, yn, yy⟩, yh⟩ := y
              simp only at d0 d1 d2 d3 d4 d5 d6 d7 d8 BN BF BC
              have EQ1 := fun W => eqPfx ⟨ya, yl⟩ ⟨pa, pl⟩ W
              simp only at EQ1
              by_cases hp : (⟨ya, yl⟩ : Ls.Pfx) = ⟨pa, pl⟩
              · rw [decide_eq_true hp] at EQ1
                cases hb : bst (all.map RtH.pure) ⟨pa, pl⟩ k with
                | none =>
                  have NX := Lib.hid (BF.out hp hb)
                  clear BN BF BC JV hp hb
                  rw [show lookV none = -1 from rfl]
                  go_wp2_with fail
                  go_quiet (fail)
                  clear p0 p1 d0 d1 d2 d3 d4 d5 d6 d7 d8
                  have BI2 := Lib.hid (fun n => BI.out.trans (((Gr.refl wr).drewN n).b.mono BI.out.size))
                  go_wp2_with fail
                  go_roundw
                  case rel => exact ⟨k + 1, by go_num, KC.out, by rw [NX.out]; rfl, Lib.hid (BI2.out _)⟩
                  case measure => simp [intOf]; omega
                | some j =>
                  have NX := Lib.hid (BC.out j hp hb)
                  obtain ⟨jc, jlt⟩ := JV.out j hb
                  obtain ⟨e0, e1, e2, e3, e4, e5, e6, e7, e8⟩ := jc
                  have j0 : (0 : Int) ≤ (j : Int) := by omega
                  have j1 : (j : Int) < (all.length : Int) := by omega
                  have j2 : ((j : Int)).toNat = j := by omega
                  have j3 : decide ((j : Int) < 0) = false := by simp
                  clear BN BF BC JV hp hb
                  generalize rthAt all j = z at *
                  obtain ⟨⟨⟨za, zl⟩, zp, zr, zc, zs, zd, zt, zx, zn, zy⟩, zh⟩ := z
                  simp only at e0 e1 e2 e3 e4 e5 e6 e7 e8 NX
                  have LC := Lib.hid (fun W => (fcompare_calls (⟨⟨ya, yl⟩, yp, yr, yc, ys, yd, yt, yx, yn, yy⟩ : Rt) (⟨⟨za, zl⟩, zp, zr, zc, zs, zd, zt, zx, zn, zy⟩ : Rt) W).mono fun _ _ h => (⟨h.1, h.2.grow⟩ : _ ∧ ∃ q os, _ = Go.Sort.grow (World.drewN W q) os))
                  generalize rtCmp (⟨⟨ya, yl⟩, yp, yr, yc, ys, yd, yt, yx, yn, yy⟩ : Rt) (⟨⟨za, zl⟩, zp, zr, zc, zs, zd, zt, zx, zn, zy⟩ : Rt) = cv at *
                  simp only [rtE] at LC
                  rw [show lookV (some j) = (j : Int) from rfl]
                  have y0 : ∀ n os, (Go.Sort.grow (wr.drewN n) os).cell? ⟨rb, ro + k * 9, none⟩ = some (.int .u32 ya) := cell_grown (World.block_lt_of_cell? _ _ d0) d0
                  have y1 : ∀ n os, (Go.Sort.grow (wr.drewN n) os).cell? ⟨rb, ro + k * 9 + 1, none⟩ = some (.int .i64 yl) := cell_grown (World.block_lt_of_cell? _ _ d1) d1
                  have y2 : ∀ n os, (Go.Sort.grow (wr.drewN n) os).cell? ⟨rb, ro + k * 9 + 2, none⟩ = some (.int .i64 yp) := cell_grown (World.block_lt_of_cell? _ _ d2) d2
                  have y3 : ∀ n os, (Go.Sort.grow (wr.drewN n) os).cell? ⟨rb, ro + k * 9 + 3, none⟩ = some (.int .u32 yr) := cell_grown (World.block_lt_of_cell? _ _ d3) d3
                  have y4 : ∀ n os, (Go.Sort.grow (wr.drewN n) os).cell? ⟨rb, ro + k * 9 + 4, none⟩ = some (.int .i64 yc) := cell_grown (World.block_lt_of_cell? _ _ d4) d4
                  have y5 : ∀ n os, (Go.Sort.grow (wr.drewN n) os).cell? ⟨rb, ro + k * 9 + 5, none⟩ = some (.bool ys) := cell_grown (World.block_lt_of_cell? _ _ d5) d5
                  have y6 : ∀ n os, (Go.Sort.grow (wr.drewN n) os).cell? ⟨rb, ro + k * 9 + 6, none⟩ = some (.int .i64 yd) := cell_grown (World.block_lt_of_cell? _ _ d6) d6
                  have y7 : ∀ n os, (Go.Sort.grow (wr.drewN n) os).cell? ⟨rb, ro + k * 9 + 7, none⟩ = some (.int .i64 yt) := cell_grown (World.block_lt_of_cell? _ _ d7) d7
                  have y8 : ∀ n os, (Go.Sort.grow (wr.drewN n) os).cell? ⟨rb, ro + k * 9 + 8, none⟩ = some (.slice yx yn yy) := cell_grown (World.block_lt_of_cell? _ _ d8) d8
                  have z0 : ∀ n os, (Go.Sort.grow (wr.drewN n) os).cell? ⟨rb, ro + j * 9, none⟩ = some (.int .u32 za) := cell_grown (World.block_lt_of_cell? _ _ e0) e0
                  have z1 : ∀ n os, (Go.Sort.grow (wr.drewN n) os).cell? ⟨rb, ro + j * 9 + 1, none⟩ = some (.int .i64 zl) := cell_grown (World.block_lt_of_cell? _ _ e1) e1
                  have z2 : ∀ n os, (Go.Sort.grow (wr.drewN n) os).cell? ⟨rb, ro + j * 9 + 2, none⟩ = some (.int .i64 zp) := cell_grown (World.block_lt_of_cell? _ _ e2) e2
                  have z3 : ∀ n os, (Go.Sort.grow (wr.drewN n) os).cell? ⟨rb, ro + j * 9 + 3, none⟩ = some (.int .u32 zr) := cell_grown (World.block_lt_of_cell? _ _ e3) e3
                  have z4 : ∀ n os, (Go.Sort.grow (wr.drewN n) os).cell? ⟨rb, ro + j * 9 + 4, none⟩ = some (.int .i64 zc) := cell_grown (World.block_lt_of_cell? _ _ e4) e4
                  have z5 : ∀ n os, (Go.Sort.grow (wr.drewN n) os).cell? ⟨rb, ro + j * 9 + 5, none⟩ = some (.bool zs) := cell_grown (World.block_lt_of_cell? _ _ e5) e5
                  have z6 : ∀ n os, (Go.Sort.grow (wr.drewN n) os).cell? ⟨rb, ro + j * 9 + 6, none⟩ = some (.int .i64 zd) := cell_grown (World.block_lt_of_cell? _ _ e6) e6
                  have z7 : ∀ n os, (Go.Sort.grow (wr.drewN n) os).cell? ⟨rb, ro + j * 9 + 7, none⟩ = some (.int .i64 zt) := cell_grown (World.block_lt_of_cell? _ _ e7) e7
                  have z8 : ∀ n os, (Go.Sort.grow (wr.drewN n) os).cell? ⟨rb, ro + j * 9 + 8, none⟩ = some (.slice zx zn zy) := cell_grown (World.block_lt_of_cell? _ _ e8) e8
                  have q0 : ∀ n os, (Go.Sort.grow (wr.drewN n) os).cell? ⟨pb, po + i * 2, none⟩ = some (.int .u32 pa) := cell_grown (World.block_lt_of_cell? _ _ p0) p0
                  have q1 : ∀ n os, (Go.Sort.grow (wr.drewN n) os).cell? ⟨pb, po + i * 2 + 1, none⟩ = some (.int .i64 pl) := cell_grown (World.block_lt_of_cell? _ _ p1) p1
                  clear d0 d1 d2 d3 d4 d5 d6 d7 d8 e0 e1 e2 e3 e4 e5 e6 e7 e8 p0 p1
                  by_cases g : cv < 0
                  · have g1 : decide (cv < 0) = true := by simpa using g
                    rw [if_pos g] at NX
                    clear g
                    go_wp2_with fail
                    refine wp_region_quiet_grown (by assumption) (by kernel_rfl) ?_
                    repeat (go_big_quiet_step ((go_at_call 29; with_reducible exact Calls.grown_of (LC.out _))))
                    refine wpQuiet_nil ?_
                    intro _ hw'
                    obtain ⟨⟨nq, osq⟩, hw''⟩ := hw'
                    subst hw''
                    have BI2 := Lib.hid (BI.out.trans ((Gr.of_grow (W := wr) nq osq).b.mono BI.out.size))
                    clear y0 y1 y2 y3 y4 y5 y6 y7 y8 z0 z1 z2 z3 z4 z5 z6 z7 z8 q0 q1 LC BI
                    go_wp2_with fail
                    go_roundw
                    case rel => exact ⟨k + 1, by go_num, KC.out, by rw [NX.out]; rfl, BI2⟩
                    case measure => simp [intOf]; omega
                  · have g1 : decide (cv < 0) = false := by simpa using g
                    rw [if_neg g] at NX
                    clear g
                    go_wp2_with fail
                    refine wp_region_quiet_grown (by assumption) (by kernel_rfl) ?_
                    repeat (go_big_quiet_step ((go_at_call 29; with_reducible exact Calls.grown_of (LC.out _))))
                    refine wpQuiet_nil ?_
                    intro _ hw'
                    obtain ⟨⟨nq, osq⟩, hw''⟩ := hw'
                    subst hw''
                    have BI2 := Lib.hid (BI.out.trans ((Gr.of_grow (W := wr) nq osq).b.mono BI.out.size))
                    clear y0 y1 y2 y3 y4 y5 y6 y7 y8 z0 z1 z2 z3 z4 z5 z6 z7 z8 q0 q1 LC BI
                    go_wp2_with fail
                    go_roundw
                    case rel => exact ⟨k + 1, by go_num, KC.out, by rw [NX.out]; rfl, BI2⟩
                    case measure => simp [intOf]; omega
              · rw [decide_eq_false hp] at EQ1
                have NX := Lib.hid (BN.out hp)
                clear BN BF BC JV hp
                generalize bst (all.map RtH.pure) ⟨pa, pl⟩ k = bo at *
                go_wp2_with fail
                go_quiet (fail)
                clear p0 p1 d0 d1 d2 d3 d4 d5 d6 d7 d8
                have BI2 := Lib.hid (fun n => BI.out.trans (((Gr.refl wr).drewN n).b.mono BI.out.size))
                go_wp2_with fail
                go_roundw
                case rel => exact ⟨k + 1, by go_num, KC.out, by rw [NX.out], Lib.hid (BI2.out _)⟩
                case measure => simp [intOf]; omega
            ·
              have ek : k = all.length := by omega
              subst ek
              rw [HJ.out]
              obtain ⟨rb, ro, rfl, hrb, hcc⟩ := HC9.out (by omega)
              have BE : Hid (Below wE.heap.size wE wr) := Lib.hid (RI.out.r1.bel.trans (BI.out.mono RI.out.r1.bel.size))
              have dc := (hcc j hjl).below BE.out hrb
              rw [← rthAt_eq hjl] at dc
              obtain ⟨d0, d1, d2, d3, d4, d5, d6, d7, d8⟩ := dc
              have RW : Hid (Ro wE (.slice (some ⟨pb, po, none⟩) PS.length cP) PS (all.map RtH.pure) i out vO wr) := Lib.hid (RI.out.below BI.out)
              have RB0 := Lib.hid (Rb.start (p := ⟨pa, pl⟩) RW.out.r1 RE.out hjl)
              have HO2 : Hid (∀ b, vO.ownBlock = some b → b < wr.heap.size) := Lib.hid (fun b z => (RW.out.r1.ownA.lt b z).2)
              have PUS := Lib.hid (fun x hp W (g : Below wr.heap.size wr W) v' W' hx nx own' hg d => PU.out x hp W (BI.out.trans (g.mono BI.out.size)) v' W' hx nx own' hg d)
              have PB := Lib.hid (fun a n c => Rb.rt (p := ⟨pa, pl⟩) hjl HJ.out a n c)
              have P0W := Lib.hid (bcell BI.out P0.out)
              have P1W := Lib.hid (bcell BI.out P1.out)
              have j0 : (0 : Int) ≤ (j : Int) := by omega
              have j1 : (j : Int) < (all.length : Int) := by omega
              have j2 : ((j : Int)).toNat = j := by omega
              have HJL := Lib.hid hjl
              have MC := Lib.hid (fun k (c : k < all.length) => mh_cmp (p := ⟨pa, pl⟩) (j := j) c hjl)
              have ML := Lib.hid (fun k (c : k ≤ all.length) => mh_len (p := ⟨pa, pl⟩) HML.out hjl k c)
              obtain ⟨W3, eW3⟩ : ∃ x, x = wr := ⟨_, rfl⟩
              subst eW3
              have OUTL : Hid (out.length = i) := Lib.hid (by
                have h1 := congrArg List.length RW.out.eq
                have h2 := CI.out
                rw [List.length_map, List.length_map, List.length_take] at h1
                omega)
              have RWO := Lib.hid (fun (W' : World) (g : Below W3.heap.size W3 W') => RW.out.r1.below g)
              clear hcc BI P0 P1 PU RI hjl RW
              generalize hzz : rthAt all j = z at *
              obtain ⟨⟨⟨za, zl⟩, zp, zr, zc, zs, zd, zt, zx, zn, zy⟩, zh⟩ := z
              simp only [rtE, Rp.rt, RtH.pure] at d0 d1 d2 d3 d4 d5 d6 d7 d8 RB0 MC PB
              rw [show lookV (some j) = (j : Int) from rfl]
              go_upto_region 22 with fail
              generalize hW4 : W3.alloc _ = W4
              rw [hW4] at RB0
              clear hW4 d0 d1 d2 d3 d4 d5 d6 d7 d8
              go_wp2_with fail
              go_loopw [20] (fun ix wi => ∃ (k : Nat) (a : Option Addr) (n c : Nat), ix = .int .i64 k ∧ Rb all ⟨pa, pl⟩ j W3 vO k a n c wi) (fun ix _ => all.length - (intOf ix).toNat)
              case atStart => exact ⟨0, _, _, _, rfl, RB0.out⟩
              case round =>
                clear RB0
                obtain ⟨k, zx', zn', zy', rfl, R⟩ := hrel
                have hk := R.hk
                have bk := R.blk
                rw [hzz] at bk
                simp only [rtE, Rp.rt, RtH.pure] at bk
                obtain ⟨⟨e0, e1, e2, e3, e4, e5, e6, e7, e8⟩, -⟩ := blk9 bk
                clear bk
                by_cases c : k < all.length
                · have BE4 : Hid (Below wE.heap.size wE wr) := Lib.hid (BE.out.trans (R.bel.mono BE.out.size))
                  have dc := (by obtain ⟨rb', ro', e', hrb', hcc'⟩ := HC9.out (by omega); cases e'; exact (hcc' k c).below BE4.out hrb' : RtCells wr rb (ro + k * 9) all[k].rt)
                  rw [← rthAt_eq c] at dc
                  obtain ⟨d0, d1, d2, d3, d4, d5, d6, d7, d8⟩ := dc
                  have HK : Hid (HopsAt wr (rthAt all k).rt.hv (rthAt all k).hops) := Lib.hid (by rw [rthAt_eq c]; exact (RE.out.hps _ (List.getElem_mem c)).below BE4.out)
                  have up : ∀ {o u}, W3.cell? ⟨pb, o, none⟩ = some u → wr.cell? ⟨pb, o, none⟩ = some u := fun {o u} h => (World.cell?_of_block (w := W3) (w' := wr) (a := ⟨pb, o, none⟩) (R.bel.block pb (World.block_lt_of_cell? _ _ h))).trans h
                  have p0 := up P0W.out
                  have p1 := up P1W.out
                  have LK : Hid ((rthAt all k).hops.length ≤ M) := Lib.hid (by rw [rthAt_eq c]; exact HML.out _ (List.getElem_mem c))
                  have ROOM : Hid (((mh (all.map RtH.pure) ⟨pa, pl⟩ j k).length + (rthAt all k).hops.length + 2) * 16 ≤ 140737488355328) := Lib.hid (room4 (ML.out k hk) LK.out HTA.out c)
                  have MCK := Lib.hid (MC.out k c)
                  have MN := Lib.hid (mh_no (p := ⟨pa, pl⟩) (j := j) c)
                  have RR := Lib.hid R
                  have KC : Hid (k < all.length) := Lib.hid c
                  have i0' : (0 : Int) ≤ (k : Int) := by omega
                  have i1' : (k : Int) < (all.length : Int) := by omega
                  have s3 : ((k : Int)).toNat = k := by omega
                  clear up R c
                  have PUT := Lib.hid (fun (h : mh (all.map RtH.pure) ⟨pa, pl⟩ j (k + 1) = Ls.merge Ls.hopLt (mh (all.map RtH.pure) ⟨pa, pl⟩ j k) (rthAt all k).hops) a' n' c' w1 w2 g O B => RR.out.put (a' := a') (n' := n') (c' := c') (w1 := w1) (w2 := w2) KC.out HO2.out h g O B)
                  generalize rthAt all k = y at *
                  obtain ⟨⟨⟨ya, yl⟩, yp, yr, yc, ys, yd, yt, yx, yn, yy⟩, yh⟩ := y
                  simp only [Rt.hv] at d0 d1 d2 d3 d4 d5 d6 d7 d8 MCK MN HK ROOM PUT
                  have EQ1 := fun W => eqPfx ⟨ya, yl⟩ ⟨pa, pl⟩ W
                  simp only at EQ1
                  by_cases hp : (⟨ya, yl⟩ : Ls.Pfx) = ⟨pa, pl⟩
                  ·
                    rw [decide_eq_true hp] at EQ1
                    have NX := Lib.hid (MCK.out hp)
                    clear MCK MN hp
                    have LC := Lib.hid (fun W => (fcompare_calls (⟨⟨ya, yl⟩, yp, yr, yc, ys, yd, yt, yx, yn, yy⟩ : Rt) (⟨⟨za, zl⟩, zp, zr, zc, zs, zd, zt, zx', zn', zy'⟩ : Rt) W).mono fun _ _ h => (⟨h.1, h.2.grow⟩ : _ ∧ ∃ q os, _ = Go.Sort.grow (World.drewN W q) os))
                    rw [show rtCmp (⟨⟨ya, yl⟩, yp, yr, yc, ys, yd, yt, yx, yn, yy⟩ : Rt) (⟨⟨za, zl⟩, zp, zr, zc, zs, zd, zt, zx', zn', zy'⟩ : Rt) = rtCmp (⟨⟨ya, yl⟩, yp, yr, yc, ys, yd, yt, yx, yn, yy⟩ : Rt) (⟨⟨za, zl⟩, zp, zr, zc, zs, zd, zt, zx, zn, zy⟩ : Rt) from rfl] at LC
                    generalize rtCmp (⟨⟨ya, yl⟩, yp, yr, yc, ys, yd, yt, yx, yn, yy⟩ : Rt) (⟨⟨za, zl⟩, zp, zr, zc, zs, zd, zt, zx, zn, zy⟩ : Rt) = cv at *
                    simp only [rtE] at LC
                    have y0 : ∀ n os, (Go.Sort.grow (wr.drewN n) os).cell? ⟨rb, ro + k * 9, none⟩ = some (.int .u32 ya) := cell_grown (World.block_lt_of_cell? _ _ d0) d0
                    have y1 : ∀ n os, (Go.Sort.grow (wr.drewN n) os).cell? ⟨rb, ro + k * 9 + 1, none⟩ = some (.int .i64 yl) := cell_grown (World.block_lt_of_cell? _ _ d1) d1
                    have y2 : ∀ n os, (Go.Sort.grow (wr.drewN n) os).cell? ⟨rb, ro + k * 9 + 2, none⟩ = some (.int .i64 yp) := cell_grown (World.block_lt_of_cell? _ _ d2) d2
                    have y3 : ∀ n os, (Go.Sort.grow (wr.drewN n) os).cell? ⟨rb, ro + k * 9 + 3, none⟩ = some (.int .u32 yr) := cell_grown (World.block_lt_of_cell? _ _ d3) d3
                    have y4 : ∀ n os, (Go.Sort.grow (wr.drewN n) os).cell? ⟨rb, ro + k * 9 + 4, none⟩ = some (.int .i64 yc) := cell_grown (World.block_lt_of_cell? _ _ d4) d4
                    have y5 : ∀ n os, (Go.Sort.grow (wr.drewN n) os).cell? ⟨rb, ro + k * 9 + 5, none⟩ = some (.bool ys) := cell_grown (World.block_lt_of_cell? _ _ d5) d5
                    have y6 : ∀ n os, (Go.Sort.grow (wr.drewN n) os).cell? ⟨rb, ro + k * 9 + 6, none⟩ = some (.int .i64 yd) := cell_grown (World.block_lt_of_cell? _ _ d6) d6
                    have y7 : ∀ n os, (Go.Sort.grow (wr.drewN n) os).cell? ⟨rb, ro + k * 9 + 7, none⟩ = some (.int .i64 yt) := cell_grown (World.block_lt_of_cell? _ _ d7) d7
                    have y8 : ∀ n os, (Go.Sort.grow (wr.drewN n) os).cell? ⟨rb, ro + k * 9 + 8, none⟩ = some (.slice yx yn yy) := cell_grown (World.block_lt_of_cell? _ _ d8) d8
                    have z0 : ∀ n os, (Go.Sort.grow (wr.drewN n) os).cell? ⟨W3.heap.size, 0, none⟩ = some (.int .u32 za) := cell_grown (World.block_lt_of_cell? _ _ e0) e0
                    have z1 : ∀ n os, (Go.Sort.grow (wr.drewN n) os).cell? ⟨W3.heap.size, 1, none⟩ = some (.int .i64 zl) := cell_grown (World.block_lt_of_cell? _ _ e1) e1
                    have z2 : ∀ n os, (Go.Sort.grow (wr.drewN n) os).cell? ⟨W3.heap.size, 2, none⟩ = some (.int .i64 zp) := cell_grown (World.block_lt_of_cell? _ _ e2) e2
                    have z3 : ∀ n os, (Go.Sort.grow (wr.drewN n) os).cell? ⟨W3.heap.size, 3, none⟩ = some (.int .u32 zr) := cell_grown (World.block_lt_of_cell? _ _ e3) e3
                    have z4 : ∀ n os, (Go.Sort.grow (wr.drewN n) os).cell? ⟨W3.heap.size, 4, none⟩ = some (.int .i64 zc) := cell_grown (World.block_lt_of_cell? _ _ e4) e4
                    have z5 : ∀ n os, (Go.Sort.grow (wr.drewN n) os).cell? ⟨W3.heap.size, 5, none⟩ = some (.bool zs) := cell_grown (World.block_lt_of_cell? _ _ e5) e5
                    have z6 : ∀ n os, (Go.Sort.grow (wr.drewN n) os).cell? ⟨W3.heap.size, 6, none⟩ = some (.int .i64 zd) := cell_grown (World.block_lt_of_cell? _ _ e6) e6
                    have z7 : ∀ n os, (Go.Sort.grow (wr.drewN n) os).cell? ⟨W3.heap.size, 7, none⟩ = some (.int .i64 zt) := cell_grown (World.block_lt_of_cell? _ _ e7) e7
                    have z8 : ∀ n os, (Go.Sort.grow (wr.drewN n) os).cell? ⟨W3.heap.size, 8, none⟩ = some (.slice zx' zn' zy') := cell_grown (World.block_lt_of_cell? _ _ e8) e8
                    have q0 : ∀ n os, (Go.Sort.grow (wr.drewN n) os).cell? ⟨pb, po + i * 2, none⟩ = some (.int .u32 pa) := cell_grown (World.block_lt_of_cell? _ _ p0) p0
                    have q1 : ∀ n os, (Go.Sort.grow (wr.drewN n) os).cell? ⟨pb, po + i * 2 + 1, none⟩ = some (.int .i64 pl) := cell_grown (World.block_lt_of_cell? _ _ p1) p1
                    have D8 := Lib.hid d8
                    have E8 := Lib.hid e8
                    clear d0 d1 d2 d3 d4 d5 d6 d7 d8 e0 e1 e2 e3 e4 e5 e6 e7 e8 p0 p1
                    by_cases g : cv = 0
                    ·
                      have g1 : (cv == 0) = true := by simpa using g
                      rw [if_pos g] at NX
                      clear g
                      go_wp2_with fail
                      refine wp_region_quiet_grown (by assumption) (by kernel_rfl) ?_
                      repeat (go_big_quiet_step ((go_at_call 29; with_reducible exact Calls.grown_of (LC.out _))))
                      refine wpQuiet_nil ?_
                      intro _ hw'
                      obtain ⟨⟨nq, osq⟩, hw''⟩ := hw'
                      subst hw''
                      clear y0 y1 y2 y3 y4 y5 y6 y7 y8 z0 z1 z2 z3 z4 z5 z6 z7 z8 q0 q1 LC
                      generalize hW5 : Go.Sort.grow (wr.drewN nq) osq = W5
                      have G5 : Gr wr W5 := by rw [← hW5]; exact Gr.of_grow nq osq
                      have d8 := bcell G5.b D8.out
                      have e8 := bcell G5.b E8.out
                      have RM := Lib.hid (fun W (g : Below W5.heap.size W5 W) => rmerge_calls W (.slice zx' zn' zy') (.slice yx yn yy) _ _ ((RR.out.hops.below G5.b).below g) ((HK.out.below G5.b).below g) ROOM.out)
                      have PUT5 := Lib.hid (fun a' n' c' w1 w2 (g : Below W5.heap.size W5 w1) O B => PUT.out NX.out a' n' c' w1 w2 (G5.b.trans (g.mono G5.b.size)) O B)
                      clear hW5 G5 D8 E8 PUT NX ROOM HK RR
                      generalize mh (all.map RtH.pure) ⟨pa, pl⟩ j k = mk at *
                      go_upto_region 26 with fail
                      have n1 : ¬ rb = W3.heap.size := by have := BE.out.size; omega
                      have n2 : ¬ W3.heap.size = rb := fun h => n1 h.symm
                      go_region_with ((go_at_call 30; ((with_reducible refine (RM.out W5.drew (Below.refl _ _).drew).mono ?_)); rintro e w6 ⟨v6, rfl, O6, B6⟩; obtain ⟨va, vn, vc, rfl⟩ := O6.slice; obtain ⟨PR, ⟨u6, hu6⟩, hf6⟩ := PUT5.out va vn vc W5.drew w6 (Below.refl _ _).drew O6 B6; have e8 := bcell B6 e8; have d8 := bcell B6 d8; have NX := Lib.hid PR; clear PR O6 B6))
                      · go_wp2_with fail
                        go_roundw
                        case rel => exact ⟨k + 1, _, _, _, by go_num, NX.out⟩
                        case measure => simp [intOf]; omega
                      · go_wp2_with fail
                        go_roundw
                        case rel => exact ⟨k + 1, _, _, _, by go_num, NX.out⟩
                        case measure => simp [intOf]; omega
                    ·
                      have g1 : (cv == 0) = false := by simpa using g
                      rw [if_neg g] at NX
                      clear g
                      go_wp2_with fail
                      refine wp_region_quiet_grown (by assumption) (by kernel_rfl) ?_
                      repeat (go_big_quiet_step ((go_at_call 29; with_reducible exact Calls.grown_of (LC.out _))))
                      refine wpQuiet_nil ?_
                      intro _ hw'
                      obtain ⟨⟨nq, osq⟩, hw''⟩ := hw'
                      subst hw''
                      have NX2 := Lib.hid (RR.out.skip KC.out NX.out (Gr.of_grow (W := wr) nq osq).b)
                      clear y0 y1 y2 y3 y4 y5 y6 y7 y8 z0 z1 z2 z3 z4 z5 z6 z7 z8 q0 q1 LC PUT NX RR
                      go_wp2_with fail
                      go_roundw
                      case rel => exact ⟨k + 1, _, _, _, by go_num, NX2.out⟩
                      case measure => simp [intOf]; omega
                  ·
                    rw [decide_eq_false hp] at EQ1
                    have NX := Lib.hid (fun n => RR.out.skip KC.out (MN.out hp) ((Gr.refl wr).drewN n).b)
                    clear MCK MN hp PUT
                    go_wp2_with fail
                    go_quiet (fail)
                    clear p0 p1 d0 d1 d2 d3 d4 d5 d6 d7 d8 e0 e1 e2 e3 e4 e5 e6 e7 e8
                    go_wp2_with fail
                    go_roundw
                    case rel => exact ⟨k + 1, _, _, _, by go_num, NX.out _⟩
                    case measure => simp [intOf]; omega
                ·
                  have ek : k = all.length := by omega
                  subst ek
                  have BA : Below wr.heap.size wr (wr.alloc (.cells #[.int .u32 za, .int .i64 zl, .int .i64 zp, .int .u32 zr, .int .i64 zc, .bool zs, .int .i64 zd, .int .i64 zt, .slice zx' zn' zy'] 36)) := (Below.refl _ _).alloc (Nat.le_refl _) _
                  have BB := R.bel.trans (BA.mono R.bel.size)
                  have RO5 := Lib.hid (RWO.out _ BB)
                  have BK5 : Hid ((wr.alloc (.cells #[.int .u32 za, .int .i64 zl, .int .i64 zp, .int .u32 zr, .int .i64 zc, .bool zs, .int .i64 zd, .int .i64 zt, .slice zx' zn' zy'] 36)).heap[wr.heap.size]? = some (.cells (List.toArray [.int .u32 za, .int .i64 zl, .int .i64 zp, .int .u32 zr, .int .i64 zc, .bool zs, .int .i64 zd, .int .i64 zt, .slice zx' zn' zy']) 36 (0, 0))) := Lib.hid (alloc_new wr _)
                  have ONE : Hid (∀ u ∈ ([.int .u32 za, .int .i64 zl, .int .i64 zp, .int .u32 zr, .int .i64 zc, .bool zs, .int .i64 zd, .int .i64 zt, .slice zx' zn' zy'] : List Value), u.oneCell' = true) := Lib.hid (rtE_one ⟨⟨za, zl⟩, zp, zr, zc, zs, zd, zt, zx', zn', zy'⟩)
                  have K1 : Hid ((out.map RtH.rt).length + 1 ≤ maxLen) := Lib.hid (by have := OUTL.out; have := HNA.out; have := CI.out; have := LENP.out; rw [List.length_map]; unfold maxLen; omega)
                  have K2 : Hid (((out.map RtH.rt).length + 1) * 88 ≤ 140737488355328) := Lib.hid (by have := OUTL.out; have := HNA.out; have := CI.out; have := LENP.out; rw [List.length_map]; omega)
                  have BS5 : Hid (wE.heap.size ≤ (wr.alloc (.cells #[.int .u32 za, .int .i64 zl, .int .i64 zp, .int .u32 zr, .int .i64 zc, .bool zs, .int .i64 zd, .int .i64 zt, .slice zx' zn' zy'] 36)).heap.size) := Lib.hid RO5.out.bel.size
                  have STO := Lib.hid (fun v' W' own' hg d => PUS.out ⟨⟨⟨za, zl⟩, zp, zr, zc, zs, zd, zt, zx', zn', zy'⟩, mh (all.map RtH.pure) ⟨pa, pl⟩ j all.length⟩ (PB.out zx' zn' zy') _ BB v' W' (R.hops.below BA)
                    (fun h b off n c e => by
                      simp only [Rt.hv] at e
                      exact (R.nb h b off (Value.slice.inj e).1).2) own' hg d)
                  clear BA BB R PUS
                  go_wp2_with (at_builtin; refine wpList_append_one rfl (.tmp 131) (.tmp 133) 25 rfl wE.heap.size 36 i0 (.agg #[.int .u32 0, .int .i64 0, .int .i64 0, .int .u32 0, .int .i64 0, .bool false, .int .i64 0, .int .i64 0, .slice none 0 0]) 9 88 Tryz.underlying25 HI0.out HZ0.out HZ1.out HZ2.out rfl (by decide) vO (out.map RtH.rt).length _ rfl RO5.out.ownA wr.heap.size [.int .u32 za, .int .i64 zl, .int .i64 zp, .int .u32 zr, .int .i64 zc, .bool zs, .int .i64 zd, .int .i64 zt, .slice zx' zn' zy'] 36 rfl BK5.out rfl ONE.out K1.out K2.out BS5.out ?_; intro vO' W6 own' hg6 d6; have R6 := Lib.hid (STO.out vO' W6 own' hg6 d6); clear own' hg6 d6 STO RO5 BK5 K1 K2 ONE BS5 e0 e1 e2 e3 e4 e5 e6 e7 e8)
                  go_roundw
                  case rel => exact ⟨i + 1, _, by go_num, R6.out⟩
                  case measure => simp [intOf]; omega
        · have FIN := Lib.hid (POST.out out vO wr i (by omega) R)
          clear R
          go_wp2_with fail
          go_ret
          exact FIN.out

end Go.Proofs.YtiemmejpaahbpaaGreat
