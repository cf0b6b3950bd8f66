/-
  routingref25.Insert: the row that it puts out is new.
-/
/-
  routingref33.good, body and keep.
-/
import Derived.Test.YtogdconliofblaaGreatIns
import Derived.Test.YtogdconliofblaaGreatGet
import Derived.Test.YtogdconliofblaaGreatTks
namespace Go.Proofs.YtogdconliofblaaGreat
open Go.RowKit

def LsPos2 (w : World) (l : List Lsa) (e : Ending) (w' : World) : Prop := ∃ v, e = .returned v ∧ LsasAt w' v l ∧ Below w.heap.size w w' ∧ ∀ b, v.ownBlock = some b → w.heap.size ≤ b ∧ b < w'.heap.size

set_option maxHeartbeats 16000000 in
set_option maxRecDepth 100000 in
theorem insert2_calls (w : World) (v : Value) (db : List Lsa) (x : Lsa) (hd : LsasAt w v db) (hn : (db.length + 3) * 136 ≤ 140737488355328) : Calls Tryz.prog 80 #[v, .agg (lsaE x).toArray] w (LsPos2 w (insL x db)) := by
  obtain ⟨i0, hi0, hz0, hz1, hz2⟩ := info_parts Tryz.infoLsa
  have HI0 := Lib.hid hi0
  have HZ0 := Lib.hid hz0
  have HZ1 := Lib.hid hz1
  have HZ2 := Lib.hid hz2
  obtain ⟨a1, c1, rfl, hl1, hcd⟩ := hd.get
  have HCD := Lib.hid hcd
  have HN := Lib.hid hn
  have mixed : Tryz.prog.follows .mixedOrders = true := by kernel_rfl
  have ST : Hid (IR w x db 0 false [] (.slice (some ⟨w.heap.size + 1, 0, none⟩) 0 0) ((w.alloc (.cells (lsaE x).toArray 47)).alloc (.cells #[] 47))) := Lib.hid ⟨Nat.zero_le _, rfl, by
    have h := Lg.start (w.alloc (.cells (lsaE x).toArray 47))
    have e : (w.alloc (.cells (lsaE x).toArray 47)).heap.size = w.heap.size + 1 := by simp
    rw [e] at h; exact h⟩
  have ONE := Lib.hid (lsaE_one x)
  have FINL := Lib.hid (fun (k : Nat) (out : List Lsa) (va : Value) (wr : World) (hk : ¬ k < db.length) (R : IR w x db k true out va wr) => (⟨va, rfl, by
    have ek : k = db.length := by have := R.hk; omega
    have h := R.r.at
    have e := R.eq
    rw [ek] at e
    unfold insL
    rw [e]; exact h, R.r.toW, fun b hb => ⟨Nat.le_of_succ_le (R.r.own.lt b hb).1, (R.r.own.lt b hb).2⟩⟩ : LsPos2 w (insL x db) (.returned va) wr))
  have FINP := Lib.hid (fun (k : Nat) (out : List Lsa) (va va' : Value) (wr wr' : World) (hk : ¬ k < db.length) (R : IR w x db k false out va wr) (r : Lg (w.heap.size + 1) (w.alloc (.cells (lsaE x).toArray 47)) (out ++ [x]) va' wr') => (⟨va', rfl, by
    have ek : k = db.length := by have := R.hk; omega
    have h := r.at
    have e := R.eq
    rw [ek] at e
    unfold insL
    rw [e]; exact h, r.toW, fun b hb => ⟨Nat.le_of_succ_le (r.own.lt b hb).1, (r.own.lt b hb).2⟩⟩ : LsPos2 w (insL x db) (.returned va') wr'))
  clear hi0 hz0 hz1 hz2 hd hcd hn
  obtain ⟨xtyp, xid, xlen, xrouter, xseq, xage, xsum, xborder, xboundary, xla, xln, xlc, xaa, xan, xac, xcost, xsecond, xfwd, xtag⟩ := x
  simp only [lsaE] at ST ONE FINP FINL ⊢
  obtain ⟨WA, hWA⟩ : ∃ WA, (w.alloc (.cells #[.int .i64 xtyp, .int .u32 xid, .int .i64 xlen, .int .u32 xrouter, .int .i64 xseq, .int .i64 xage, .int .i64 xsum, .bool xborder, .bool xboundary, .slice xla xln xlc, .slice xaa xan xac, .int .i64 xcost, .bool xsecond, .int .u32 xfwd, .int .i64 xtag] 47)).alloc (.cells #[] 47) = WA := ⟨_, rfl⟩
  rw [hWA] at ST
  have HWA := Lib.hid hWA
  clear hWA
  go_enter Tryz.func80, Tryz.ntmps80
  go_wp2_with fail
  rw [HWA.out]
  clear HWA
  go_loopw [5, 6, 7] (fun va dn ix wr => ∃ (k : Nat) (done : Bool) (out : List Lsa), ix = .int .i64 k ∧ dn = .bool done ∧ Hid (IR w ⟨xtyp, xid, xlen, xrouter, xseq, xage, xsum, xborder, xboundary, xla, xln, xlc, xaa, xan, xac, xcost, xsecond, xfwd, xtag⟩ db k done out va wr)) (fun _ _ ix _ => db.length - (intOf ix).toNat)
  case atStart => exact ⟨0, false, [], rfl, rfl, ST⟩
  case round =>
    clear ST
    obtain ⟨k, done, out, rfl, rfl, R⟩ := hrel
    obtain ⟨vA, hvA⟩ : ∃ z, z = u5 := ⟨_, rfl⟩
    subst hvA
    have hk := R.out.hk
    have bx := R.out.r.box
    simp only [lsaE] at bx
    obtain ⟨⟨⟨e0, e1, e2, e3, e4⟩, ⟨e5, e6, e7, e8, e9⟩, ⟨e10, e11, e12, e13, e14⟩⟩, -⟩ := blk15 bx
    clear bx
    by_cases c : k < db.length
    · obtain ⟨dbb, doff, rfl, hdb, hdc⟩ := HCD.out (by omega)
      have dc := (hdc k c).below R.out.r.toW hdb
      obtain ⟨⟨d0, d1, d2, d3, d4⟩, ⟨d5, d6, d7, d8, d9⟩, ⟨d10, d11, d12, d13, d14⟩⟩ := dc
      have EQ : Hid (insK ⟨xtyp, xid, xlen, xrouter, xseq, xage, xsum, xborder, xboundary, xla, xln, xlc, xaa, xan, xac, xcost, xsecond, xfwd, xtag⟩ db (k + 1) = insStep ⟨xtyp, xid, xlen, xrouter, xseq, xage, xsum, xborder, xboundary, xla, xln, xlc, xaa, xan, xac, xcost, xsecond, xfwd, xtag⟩ (done, out) db[k]) := Lib.hid (by rw [insK_succ _ _ c, R.out.eq])
      have LEN := Lib.hid R.out.len
      have YC := Lib.hid (fun (out' : List Lsa) (v' : Value) (W' : World) (R' : Lg (w.heap.size + 1) (w.alloc (.cells (lsaE ⟨xtyp, xid, xlen, xrouter, xseq, xage, xsum, xborder, xboundary, xla, xln, xlc, xaa, xan, xac, xcost, xsecond, xfwd, xtag⟩).toArray 47)) out' v' W') => (hdc k c).below R'.toW hdb)
      have RG := Lib.hid (fun (W' : World) (g : Below wr.heap.size wr W') => R.out.r.below g)
      have NXT : Hid (∀ (done' : Bool) (out' : List Lsa) (v' : Value) (W' : World), insStep ⟨xtyp, xid, xlen, xrouter, xseq, xage, xsum, xborder, xboundary, xla, xln, xlc, xaa, xan, xac, xcost, xsecond, xfwd, xtag⟩ (done, out) db[k] = (done', out') → Lg (w.heap.size + 1) (w.alloc (.cells (lsaE ⟨xtyp, xid, xlen, xrouter, xseq, xage, xsum, xborder, xboundary, xla, xln, xlc, xaa, xan, xac, xcost, xsecond, xfwd, xtag⟩).toArray 47)) out' v' W' → IR w ⟨xtyp, xid, xlen, xrouter, xseq, xage, xsum, xborder, xboundary, xla, xln, xlc, xaa, xan, xac, xcost, xsecond, xfwd, xtag⟩ db (k + 1) done' out' v' W') := Lib.hid (fun done' out' v' W' h r => ⟨c, EQ.out.trans h, r⟩)
      have KC : Hid (k < db.length) := Lib.hid c
      have i0' : (0 : Int) ≤ (k : Int) := by omega
      have i1' : (k : Int) < (db.length : Int) := by omega
      have s3 : ((k : Int)).toNat = k := by omega
      clear hdc R EQ
      have STEP : Hid (insStep ⟨xtyp, xid, xlen, xrouter, xseq, xage, xsum, xborder, xboundary, xla, xln, xlc, xaa, xan, xac, xcost, xsecond, xfwd, xtag⟩ (done, out) db[k] = if kkCmp (lkOf ⟨xtyp, xid, xlen, xrouter, xseq, xage, xsum, xborder, xboundary, xla, xln, xlc, xaa, xan, xac, xcost, xsecond, xfwd, xtag⟩) (lkOf db[k]) = 0 then (if done = false ∧ kkCmp (lkOf ⟨xtyp, xid, xlen, xrouter, xseq, xage, xsum, xborder, xboundary, xla, xln, xlc, xaa, xan, xac, xcost, xsecond, xfwd, xtag⟩) (lkOf db[k]) ≤ 0 then (true, out ++ [⟨xtyp, xid, xlen, xrouter, xseq, xage, xsum, xborder, xboundary, xla, xln, xlc, xaa, xan, xac, xcost, xsecond, xfwd, xtag⟩]) else (done, out)) else ((if done = false ∧ kkCmp (lkOf ⟨xtyp, xid, xlen, xrouter, xseq, xage, xsum, xborder, xboundary, xla, xln, xlc, xaa, xan, xac, xcost, xsecond, xfwd, xtag⟩) (lkOf db[k]) ≤ 0 then (true, out ++ [⟨xtyp, xid, xlen, xrouter, xseq, xage, xsum, xborder, xboundary, xla, xln, xlc, xaa, xan, xac, xcost, xsecond, xfwd, xtag⟩]) else (done, out)).1, (if done = false ∧ kkCmp (lkOf ⟨xtyp, xid, xlen, xrouter, xseq, xage, xsum, xborder, xboundary, xla, xln, xlc, xaa, xan, xac, xcost, xsecond, xfwd, xtag⟩) (lkOf db[k]) ≤ 0 then (true, out ++ [⟨xtyp, xid, xlen, xrouter, xseq, xage, xsum, xborder, xboundary, xla, xln, xlc, xaa, xan, xac, xcost, xsecond, xfwd, xtag⟩]) else (done, out)).2 ++ [db[k]])) := Lib.hid rfl
      generalize db[k] = y at *
      clear c
      have ONEY := Lib.hid (lsaE_one y)
      obtain ⟨ytyp, yid, ylen, yrouter, yseq, yage, ysum, yborder, yboundary, yla, yln, ylc, yaa, yan, yac, ycost, ysecond, yfwd, ytag⟩ := y
      simp only [lsaE] at d0 d1 d2 d3 d4 d5 d6 d7 d8 d9 d10 d11 d12 d13 d14 ONEY YC RG NXT
      have CK := Lib.hid (fun W => (ckeys_calls (lkOf ⟨xtyp, xid, xlen, xrouter, xseq, xage, xsum, xborder, xboundary, xla, xln, xlc, xaa, xan, xac, xcost, xsecond, xfwd, xtag⟩) (lkOf ⟨ytyp, yid, ylen, yrouter, yseq, yage, ysum, yborder, yboundary, yla, yln, ylc, yaa, yan, yac, ycost, ysecond, yfwd, ytag⟩) W).mono fun _ _ h => (⟨h.1, h.2.grow⟩ : _ ∧ ∃ q os, _ = Go.Sort.grow (World.drewN W q) os))
      have K1 := Lib.hid (fun W => (key_calls xtyp xid xlen xrouter xseq xage xsum W).mono fun _ _ h => (⟨h.1, h.2.grow⟩ : _ ∧ ∃ q os, _ = Go.Sort.grow (World.drewN W q) os))
      have K2 := Lib.hid (fun W => (key_calls ytyp yid ylen yrouter yseq yage ysum W).mono fun _ _ h => (⟨h.1, h.2.grow⟩ : _ ∧ ∃ q os, _ = Go.Sort.grow (World.drewN W q) os))
      generalize kkCmp (lkOf ⟨xtyp, xid, xlen, xrouter, xseq, xage, xsum, xborder, xboundary, xla, xln, xlc, xaa, xan, xac, xcost, xsecond, xfwd, xtag⟩) (lkOf ⟨ytyp, yid, ylen, yrouter, yseq, yage, ysum, yborder, yboundary, yla, yln, ylc, yaa, yan, yac, ycost, ysecond, yfwd, ytag⟩) = cv at *
      simp only [keyE, lkOf] at CK K1 K2
      have p0 : ∀ n os, (Go.Sort.grow (wr.drewN n) os).cell? ⟨w.heap.size, 0, none⟩ = some (.int .i64 xtyp) := cell_grown (World.block_lt_of_cell? _ _ e0) e0
      have p1 : ∀ n os, (Go.Sort.grow (wr.drewN n) os).cell? ⟨w.heap.size, 1, none⟩ = some (.int .u32 xid) := cell_grown (World.block_lt_of_cell? _ _ e1) e1
      have p2 : ∀ n os, (Go.Sort.grow (wr.drewN n) os).cell? ⟨w.heap.size, 2, none⟩ = some (.int .i64 xlen) := cell_grown (World.block_lt_of_cell? _ _ e2) e2
      have p3 : ∀ n os, (Go.Sort.grow (wr.drewN n) os).cell? ⟨w.heap.size, 3, none⟩ = some (.int .u32 xrouter) := cell_grown (World.block_lt_of_cell? _ _ e3) e3
      have p4 : ∀ n os, (Go.Sort.grow (wr.drewN n) os).cell? ⟨w.heap.size, 4, none⟩ = some (.int .i64 xseq) := cell_grown (World.block_lt_of_cell? _ _ e4) e4
      have p5 : ∀ n os, (Go.Sort.grow (wr.drewN n) os).cell? ⟨w.heap.size, 5, none⟩ = some (.int .i64 xage) := cell_grown (World.block_lt_of_cell? _ _ e5) e5
      have p6 : ∀ n os, (Go.Sort.grow (wr.drewN n) os).cell? ⟨w.heap.size, 6, none⟩ = some (.int .i64 xsum) := cell_grown (World.block_lt_of_cell? _ _ e6) e6
      have q0 : ∀ n os, (Go.Sort.grow (wr.drewN n) os).cell? ⟨dbb, doff + k * 15, none⟩ = some (.int .i64 ytyp) := cell_grown (World.block_lt_of_cell? _ _ d0) d0
      have q1 : ∀ n os, (Go.Sort.grow (wr.drewN n) os).cell? ⟨dbb, doff + k * 15 + 1, none⟩ = some (.int .u32 yid) := cell_grown (World.block_lt_of_cell? _ _ d1) d1
      have q2 : ∀ n os, (Go.Sort.grow (wr.drewN n) os).cell? ⟨dbb, doff + k * 15 + 2, none⟩ = some (.int .i64 ylen) := cell_grown (World.block_lt_of_cell? _ _ d2) d2
      have q3 : ∀ n os, (Go.Sort.grow (wr.drewN n) os).cell? ⟨dbb, doff + k * 15 + 3, none⟩ = some (.int .u32 yrouter) := cell_grown (World.block_lt_of_cell? _ _ d3) d3
      have q4 : ∀ n os, (Go.Sort.grow (wr.drewN n) os).cell? ⟨dbb, doff + k * 15 + 4, none⟩ = some (.int .i64 yseq) := cell_grown (World.block_lt_of_cell? _ _ d4) d4
      have q5 : ∀ n os, (Go.Sort.grow (wr.drewN n) os).cell? ⟨dbb, doff + k * 15 + 5, none⟩ = some (.int .i64 yage) := cell_grown (World.block_lt_of_cell? _ _ d5) d5
      have q6 : ∀ n os, (Go.Sort.grow (wr.drewN n) os).cell? ⟨dbb, doff + k * 15 + 6, none⟩ = some (.int .i64 ysum) := cell_grown (World.block_lt_of_cell? _ _ d6) d6
      clear d0 d1 d2 d3 d4 d5 d6 d7 d8 d9 d10 d11 d12 d13 d14 e0 e1 e2 e3 e4 e5 e6 e7 e8 e9 e10 e11 e12 e13 e14
      --REG6
      go_upto_region 6 with fail
      refine wp_region_quiet_grown (by assumption) (by kernel_rfl) ?_
      repeat (go_big_quiet_step (first | (go_at_call 79; first | with_reducible exact Calls.grown_of (K1.out _) | with_reducible exact Calls.grown_of (K2.out _)) | (go_at_call 83; with_reducible exact Calls.grown_of (CK.out _))))
      refine wpQuiet_nil ?_
      intro _ hw'
      obtain ⟨⟨nq, osq⟩, hw''⟩ := hw'
      subst hw''
      clear p0 p1 p2 p3 p4 p5 p6 q0 q1 q2 q3 q4 q5 q6 CK K1 K2
      generalize hW5 : Go.Sort.grow (wr.drewN nq) osq = W5
      have R5 := Lib.hid (RG.out W5 (by rw [← hW5]; exact (Gr.of_grow nq osq).b))
      clear hW5 RG
      have LX := Lib.hid (show out.length + 2 ≤ db.length + 3 by have := LEN.out.1; have := KC.out; omega)
      have M1 : Hid (out.length + 1 ≤ maxLen) := Lib.hid (by have := LX.out; have := HN.out; unfold maxLen; omega)
      have M2 : Hid ((out.length + 1) * 136 ≤ 140737488355328) := Lib.hid (by have := LX.out; have := HN.out; omega)
      cases done with
      | false =>
        --DFALSE
        by_cases g : cv ≤ 0
        · have g1 : decide (cv ≤ 0) = true := by simpa using g
          --DF01
          have bx := R5.out.box
          obtain ⟨⟨⟨e0, e1, e2, e3, e4⟩, ⟨e5, e6, e7, e8, e9⟩, ⟨e10, e11, e12, e13, e14⟩⟩, -⟩ := blk15 bx
          have BA : Below W5.heap.size W5 (W5.alloc (.cells #[.int .i64 xtyp, .int .u32 xid, .int .i64 xlen, .int .u32 xrouter, .int .i64 xseq, .int .i64 xage, .int .i64 xsum, .bool xborder, .bool xboundary, .slice xla xln xlc, .slice xaa xan xac, .int .i64 xcost, .bool xsecond, .int .u32 xfwd, .int .i64 xtag] 47)) := (Below.refl _ _).alloc (Nat.le_refl _) _
          have R6 := Lib.hid (R5.out.below BA)
          have STA := Lib.hid (fun v' W' own' hg => R6.out.push (y := ⟨xtyp, xid, xlen, xrouter, xseq, xage, xsum, xborder, xboundary, xla, xln, xlc, xaa, xan, xac, xcost, xsecond, xfwd, xtag⟩) (v' := v') (W' := W') own' hg)
          have BSR6 : Hid (w.heap.size + 1 ≤ (W5.alloc (.cells #[.int .i64 xtyp, .int .u32 xid, .int .i64 xlen, .int .u32 xrouter, .int .i64 xseq, .int .i64 xage, .int .i64 xsum, .bool xborder, .bool xboundary, .slice xla xln xlc, .slice xaa xan xac, .int .i64 xcost, .bool xsecond, .int .u32 xfwd, .int .i64 xtag] 47)).heap.size) := Lib.hid (Nat.le_trans R6.out.hb R6.out.bel.size)
          have BKR6 : Hid ((W5.alloc (.cells #[.int .i64 xtyp, .int .u32 xid, .int .i64 xlen, .int .u32 xrouter, .int .i64 xseq, .int .i64 xage, .int .i64 xsum, .bool xborder, .bool xboundary, .slice xla xln xlc, .slice xaa xan xac, .int .i64 xcost, .bool xsecond, .int .u32 xfwd, .int .i64 xtag] 47)).heap[W5.heap.size]? = some (.cells (List.toArray [.int .i64 xtyp, .int .u32 xid, .int .i64 xlen, .int .u32 xrouter, .int .i64 xseq, .int .i64 xage, .int .i64 xsum, .bool xborder, .bool xboundary, .slice xla xln xlc, .slice xaa xan xac, .int .i64 xcost, .bool xsecond, .int .u32 xfwd, .int .i64 xtag]) 47 (0, 0))) := Lib.hid (alloc_new W5 _)
          clear BA
          --DFR
          go_upto_region 8 with fail
          go_upto_region 9 with (at_builtin; refine wpList_append_one rfl (.tmp 32) (.tmp 34) 32 rfl (w.heap.size + 1) 47 i0 (.agg #[.int .i64 0, .int .u32 0, .int .i64 0, .int .u32 0, .int .i64 0, .int .i64 0, .int .i64 0, .bool false, .bool false, .slice none 0 0, .slice none 0 0, .int .i64 0, .bool false, .int .u32 0, .int .i64 0]) 15 136 Tryz.underlying32 HI0.out HZ0.out HZ1.out HZ2.out rfl (by decide) vA out.length _ rfl R6.out.own W5.heap.size [.int .i64 xtyp, .int .u32 xid, .int .i64 xlen, .int .u32 xrouter, .int .i64 xseq, .int .i64 xage, .int .i64 xsum, .bool xborder, .bool xboundary, .slice xla xln xlc, .slice xaa xan xac, .int .i64 xcost, .bool xsecond, .int .u32 xfwd, .int .i64 xtag] 47 rfl BKR6.out rfl ONE.out M1.out M2.out BSR6.out ?_; intro vX W7 own' hg d; have R7 := Lib.hid (STA.out vX W7 own' hg); clear own' hg d STA R6 BSR6 BKR6 g1 bx e0 e1 e2 e3 e4 e5 e6 e7 e8 e9 e10 e11 e12 e13 e14)
          by_cases z : cv = 0
          · have z1 : (cv != 0) = false := by simpa using z
            --DF0
            have NX := Lib.hid (NXT.out true _ vX W7 (by rw [STEP.out, if_pos z]; simp [g]) R7.out)
            clear STEP NXT
            go_wp2_with fail
            go_roundw
            case rel => exact ⟨k + 1, true, _, by go_num, rfl, NX⟩
            case measure => simp [intOf]; omega
          · have z1 : (cv != 0) = true := by simpa using z
            --DF1
            have GZ := Lib.hid (And.intro g z)
            clear g z
            go_upto_region 10 with fail
            obtain ⟨⟨d0, d1, d2, d3, d4⟩, ⟨d5, d6, d7, d8, d9⟩, ⟨d10, d11, d12, d13, d14⟩⟩ := YC.out _ _ _ R7.out
            have M3 : Hid ((out ++ [(⟨xtyp, xid, xlen, xrouter, xseq, xage, xsum, xborder, xboundary, xla, xln, xlc, xaa, xan, xac, xcost, xsecond, xfwd, xtag⟩ : Lsa)]).length + 1 ≤ maxLen) := Lib.hid (len_max LX.out HN.out)
            have M4 : Hid (((out ++ [(⟨xtyp, xid, xlen, xrouter, xseq, xage, xsum, xborder, xboundary, xla, xln, xlc, xaa, xan, xac, xcost, xsecond, xfwd, xtag⟩ : Lsa)]).length + 1) * 136 ≤ 140737488355328) := Lib.hid (len_byt LX.out HN.out)
            have BA : Below W7.heap.size W7 (W7.alloc (.cells #[.int .i64 ytyp, .int .u32 yid, .int .i64 ylen, .int .u32 yrouter, .int .i64 yseq, .int .i64 yage, .int .i64 ysum, .bool yborder, .bool yboundary, .slice yla yln ylc, .slice yaa yan yac, .int .i64 ycost, .bool ysecond, .int .u32 yfwd, .int .i64 ytag] 47)) := (Below.refl _ _).alloc (Nat.le_refl _) _
            have R8 := Lib.hid (R7.out.below BA)
            have STB := Lib.hid (fun v' W' own' hg => R8.out.push (y := ⟨ytyp, yid, ylen, yrouter, yseq, yage, ysum, yborder, yboundary, yla, yln, ylc, yaa, yan, yac, ycost, ysecond, yfwd, ytag⟩) (v' := v') (W' := W') own' hg)
            have BSR8 : Hid (w.heap.size + 1 ≤ (W7.alloc (.cells #[.int .i64 ytyp, .int .u32 yid, .int .i64 ylen, .int .u32 yrouter, .int .i64 yseq, .int .i64 yage, .int .i64 ysum, .bool yborder, .bool yboundary, .slice yla yln ylc, .slice yaa yan yac, .int .i64 ycost, .bool ysecond, .int .u32 yfwd, .int .i64 ytag] 47)).heap.size) := Lib.hid (Nat.le_trans R8.out.hb R8.out.bel.size)
            have BKR8 : Hid ((W7.alloc (.cells #[.int .i64 ytyp, .int .u32 yid, .int .i64 ylen, .int .u32 yrouter, .int .i64 yseq, .int .i64 yage, .int .i64 ysum, .bool yborder, .bool yboundary, .slice yla yln ylc, .slice yaa yan yac, .int .i64 ycost, .bool ysecond, .int .u32 yfwd, .int .i64 ytag] 47)).heap[W7.heap.size]? = some (.cells (List.toArray [.int .i64 ytyp, .int .u32 yid, .int .i64 ylen, .int .u32 yrouter, .int .i64 yseq, .int .i64 yage, .int .i64 ysum, .bool yborder, .bool yboundary, .slice yla yln ylc, .slice yaa yan yac, .int .i64 ycost, .bool ysecond, .int .u32 yfwd, .int .i64 ytag]) 47 (0, 0))) := Lib.hid (alloc_new W7 _)
            clear BA
            go_wp2_with (at_builtin; refine wpList_append_one rfl (.tmp 38) (.tmp 43) 32 rfl (w.heap.size + 1) 47 i0 (.agg #[.int .i64 0, .int .u32 0, .int .i64 0, .int .u32 0, .int .i64 0, .int .i64 0, .int .i64 0, .bool false, .bool false, .slice none 0 0, .slice none 0 0, .int .i64 0, .bool false, .int .u32 0, .int .i64 0]) 15 136 Tryz.underlying32 HI0.out HZ0.out HZ1.out HZ2.out rfl (by decide) vX (out ++ [(⟨xtyp, xid, xlen, xrouter, xseq, xage, xsum, xborder, xboundary, xla, xln, xlc, xaa, xan, xac, xcost, xsecond, xfwd, xtag⟩ : Lsa)]).length _ rfl R8.out.own W7.heap.size [.int .i64 ytyp, .int .u32 yid, .int .i64 ylen, .int .u32 yrouter, .int .i64 yseq, .int .i64 yage, .int .i64 ysum, .bool yborder, .bool yboundary, .slice yla yln ylc, .slice yaa yan yac, .int .i64 ycost, .bool ysecond, .int .u32 yfwd, .int .i64 ytag] 47 rfl BKR8.out rfl ONEY.out M3.out M4.out BSR8.out ?_; intro vY W9 own' hg d; have R9 := Lib.hid (STB.out vY W9 own' hg); clear own' hg d STB R8 BSR8 BKR8 z1 d0 d1 d2 d3 d4 d5 d6 d7 d8 d9 d10 d11 d12 d13 d14)
            have NX := Lib.hid (NXT.out true _ vY W9 (by rw [STEP.out, if_neg GZ.out.2]; simp [GZ.out.1]) R9.out)
            clear STEP NXT
            go_roundw
            case rel => exact ⟨k + 1, true, _, by go_num, rfl, NX⟩
            case measure => simp [intOf]; omega
        · have g1 : decide (cv ≤ 0) = false := by simpa using g
          have z1 : (cv != 0) = true := by simp; omega
          --DF2
          obtain ⟨⟨d0, d1, d2, d3, d4⟩, ⟨d5, d6, d7, d8, d9⟩, ⟨d10, d11, d12, d13, d14⟩⟩ := YC.out _ _ _ R5.out
          have BA : Below W5.heap.size W5 (W5.alloc (.cells #[.int .i64 ytyp, .int .u32 yid, .int .i64 ylen, .int .u32 yrouter, .int .i64 yseq, .int .i64 yage, .int .i64 ysum, .bool yborder, .bool yboundary, .slice yla yln ylc, .slice yaa yan yac, .int .i64 ycost, .bool ysecond, .int .u32 yfwd, .int .i64 ytag] 47)) := (Below.refl _ _).alloc (Nat.le_refl _) _
          have R8 := Lib.hid (R5.out.below BA)
          have STB := Lib.hid (fun v' W' own' hg => R8.out.push (y := ⟨ytyp, yid, ylen, yrouter, yseq, yage, ysum, yborder, yboundary, yla, yln, ylc, yaa, yan, yac, ycost, ysecond, yfwd, ytag⟩) (v' := v') (W' := W') own' hg)
          have BSR8 : Hid (w.heap.size + 1 ≤ (W5.alloc (.cells #[.int .i64 ytyp, .int .u32 yid, .int .i64 ylen, .int .u32 yrouter, .int .i64 yseq, .int .i64 yage, .int .i64 ysum, .bool yborder, .bool yboundary, .slice yla yln ylc, .slice yaa yan yac, .int .i64 ycost, .bool ysecond, .int .u32 yfwd, .int .i64 ytag] 47)).heap.size) := Lib.hid (Nat.le_trans R8.out.hb R8.out.bel.size)
          have BKR8 : Hid ((W5.alloc (.cells #[.int .i64 ytyp, .int .u32 yid, .int .i64 ylen, .int .u32 yrouter, .int .i64 yseq, .int .i64 yage, .int .i64 ysum, .bool yborder, .bool yboundary, .slice yla yln ylc, .slice yaa yan yac, .int .i64 ycost, .bool ysecond, .int .u32 yfwd, .int .i64 ytag] 47)).heap[W5.heap.size]? = some (.cells (List.toArray [.int .i64 ytyp, .int .u32 yid, .int .i64 ylen, .int .u32 yrouter, .int .i64 yseq, .int .i64 yage, .int .i64 ysum, .bool yborder, .bool yboundary, .slice yla yln ylc, .slice yaa yan yac, .int .i64 ycost, .bool ysecond, .int .u32 yfwd, .int .i64 ytag]) 47 (0, 0))) := Lib.hid (alloc_new W5 _)
          clear BA
          go_wp2_with (at_builtin; refine wpList_append_one rfl (.tmp 38) (.tmp 43) 32 rfl (w.heap.size + 1) 47 i0 (.agg #[.int .i64 0, .int .u32 0, .int .i64 0, .int .u32 0, .int .i64 0, .int .i64 0, .int .i64 0, .bool false, .bool false, .slice none 0 0, .slice none 0 0, .int .i64 0, .bool false, .int .u32 0, .int .i64 0]) 15 136 Tryz.underlying32 HI0.out HZ0.out HZ1.out HZ2.out rfl (by decide) vA out.length _ rfl R8.out.own W5.heap.size [.int .i64 ytyp, .int .u32 yid, .int .i64 ylen, .int .u32 yrouter, .int .i64 yseq, .int .i64 yage, .int .i64 ysum, .bool yborder, .bool yboundary, .slice yla yln ylc, .slice yaa yan yac, .int .i64 ycost, .bool ysecond, .int .u32 yfwd, .int .i64 ytag] 47 rfl BKR8.out rfl ONEY.out M1.out M2.out BSR8.out ?_; intro vY W9 own' hg d; have R9 := Lib.hid (STB.out vY W9 own' hg); clear own' hg d STB R8 BSR8 BKR8 g1 z1 d0 d1 d2 d3 d4 d5 d6 d7 d8 d9 d10 d11 d12 d13 d14)
          have NX := Lib.hid (NXT.out false _ vY W9 (by rw [STEP.out, if_neg (by omega)]; simp [g]) R9.out)
          clear STEP NXT
          go_roundw
          case rel => exact ⟨k + 1, false, _, by go_num, rfl, NX⟩
          case measure => simp [intOf]; omega
      | true =>
        by_cases z : cv = 0
        · have z1 : (cv != 0) = false := by simpa using z
          --TZERO
          have NX := Lib.hid (NXT.out true _ vA W5 (by rw [STEP.out, if_pos z]; simp) R5.out)
          clear STEP NXT
          go_wp2_with fail
          go_roundw
          case rel => exact ⟨k + 1, true, _, by go_num, rfl, NX⟩
          case measure => simp [intOf]; omega
        · have z1 : (cv != 0) = true := by simpa using z
          --TNZ
          obtain ⟨⟨d0, d1, d2, d3, d4⟩, ⟨d5, d6, d7, d8, d9⟩, ⟨d10, d11, d12, d13, d14⟩⟩ := YC.out _ _ _ R5.out
          have BA : Below W5.heap.size W5 (W5.alloc (.cells #[.int .i64 ytyp, .int .u32 yid, .int .i64 ylen, .int .u32 yrouter, .int .i64 yseq, .int .i64 yage, .int .i64 ysum, .bool yborder, .bool yboundary, .slice yla yln ylc, .slice yaa yan yac, .int .i64 ycost, .bool ysecond, .int .u32 yfwd, .int .i64 ytag] 47)) := (Below.refl _ _).alloc (Nat.le_refl _) _
          have R8 := Lib.hid (R5.out.below BA)
          have STB := Lib.hid (fun v' W' own' hg => R8.out.push (y := ⟨ytyp, yid, ylen, yrouter, yseq, yage, ysum, yborder, yboundary, yla, yln, ylc, yaa, yan, yac, ycost, ysecond, yfwd, ytag⟩) (v' := v') (W' := W') own' hg)
          have BSR8 : Hid (w.heap.size + 1 ≤ (W5.alloc (.cells #[.int .i64 ytyp, .int .u32 yid, .int .i64 ylen, .int .u32 yrouter, .int .i64 yseq, .int .i64 yage, .int .i64 ysum, .bool yborder, .bool yboundary, .slice yla yln ylc, .slice yaa yan yac, .int .i64 ycost, .bool ysecond, .int .u32 yfwd, .int .i64 ytag] 47)).heap.size) := Lib.hid (Nat.le_trans R8.out.hb R8.out.bel.size)
          have BKR8 : Hid ((W5.alloc (.cells #[.int .i64 ytyp, .int .u32 yid, .int .i64 ylen, .int .u32 yrouter, .int .i64 yseq, .int .i64 yage, .int .i64 ysum, .bool yborder, .bool yboundary, .slice yla yln ylc, .slice yaa yan yac, .int .i64 ycost, .bool ysecond, .int .u32 yfwd, .int .i64 ytag] 47)).heap[W5.heap.size]? = some (.cells (List.toArray [.int .i64 ytyp, .int .u32 yid, .int .i64 ylen, .int .u32 yrouter, .int .i64 yseq, .int .i64 yage, .int .i64 ysum, .bool yborder, .bool yboundary, .slice yla yln ylc, .slice yaa yan yac, .int .i64 ycost, .bool ysecond, .int .u32 yfwd, .int .i64 ytag]) 47 (0, 0))) := Lib.hid (alloc_new W5 _)
          clear BA
          go_wp2_with (at_builtin; refine wpList_append_one rfl (.tmp 38) (.tmp 43) 32 rfl (w.heap.size + 1) 47 i0 (.agg #[.int .i64 0, .int .u32 0, .int .i64 0, .int .u32 0, .int .i64 0, .int .i64 0, .int .i64 0, .bool false, .bool false, .slice none 0 0, .slice none 0 0, .int .i64 0, .bool false, .int .u32 0, .int .i64 0]) 15 136 Tryz.underlying32 HI0.out HZ0.out HZ1.out HZ2.out rfl (by decide) vA out.length _ rfl R8.out.own W5.heap.size [.int .i64 ytyp, .int .u32 yid, .int .i64 ylen, .int .u32 yrouter, .int .i64 yseq, .int .i64 yage, .int .i64 ysum, .bool yborder, .bool yboundary, .slice yla yln ylc, .slice yaa yan yac, .int .i64 ycost, .bool ysecond, .int .u32 yfwd, .int .i64 ytag] 47 rfl BKR8.out rfl ONEY.out M1.out M2.out BSR8.out ?_; intro vY W9 own' hg d; have R9 := Lib.hid (STB.out vY W9 own' hg); clear own' hg d STB R8 BSR8 BKR8 z1 d0 d1 d2 d3 d4 d5 d6 d7 d8 d9 d10 d11 d12 d13 d14)
          have NX := Lib.hid (NXT.out true _ vY W9 (by rw [STEP.out, if_neg z]; simp) R9.out)
          clear STEP NXT
          go_roundw
          case rel => exact ⟨k + 1, true, _, by go_num, rfl, NX⟩
          case measure => simp [intOf]; omega
    · cases done with
      | true =>
        --XTRUE
        have FIN := Lib.hid (FINL.out k out vA wr c R.out)
        clear R
        go_wp2_with fail
        go_ret
        exact FIN.out
      | false =>
        --XFALSE
        have FIN := Lib.hid (fun va' wr' r => FINP.out k out vA va' wr wr' c R.out r)
        have LEN := Lib.hid R.out.len
        have M1 : Hid (out.length + 1 ≤ maxLen) := Lib.hid (by have := LEN.out.1; have := HN.out; unfold maxLen; omega)
        have M2 : Hid ((out.length + 1) * 136 ≤ 140737488355328) := Lib.hid (by have := LEN.out.1; have := HN.out; omega)
        have R5 := Lib.hid R.out.r
        clear R
        have BA : Below wr.heap.size wr (wr.alloc (.cells #[.int .i64 xtyp, .int .u32 xid, .int .i64 xlen, .int .u32 xrouter, .int .i64 xseq, .int .i64 xage, .int .i64 xsum, .bool xborder, .bool xboundary, .slice xla xln xlc, .slice xaa xan xac, .int .i64 xcost, .bool xsecond, .int .u32 xfwd, .int .i64 xtag] 47)) := (Below.refl _ _).alloc (Nat.le_refl _) _
        have R6 := Lib.hid (R5.out.below BA)
        have STA := Lib.hid (fun v' W' own' hg => R6.out.push (y := ⟨xtyp, xid, xlen, xrouter, xseq, xage, xsum, xborder, xboundary, xla, xln, xlc, xaa, xan, xac, xcost, xsecond, xfwd, xtag⟩) (v' := v') (W' := W') own' hg)
        have BSR6 : Hid (w.heap.size + 1 ≤ (wr.alloc (.cells #[.int .i64 xtyp, .int .u32 xid, .int .i64 xlen, .int .u32 xrouter, .int .i64 xseq, .int .i64 xage, .int .i64 xsum, .bool xborder, .bool xboundary, .slice xla xln xlc, .slice xaa xan xac, .int .i64 xcost, .bool xsecond, .int .u32 xfwd, .int .i64 xtag] 47)).heap.size) := Lib.hid (Nat.le_trans R6.out.hb R6.out.bel.size)
        have BKR6 : Hid ((wr.alloc (.cells #[.int .i64 xtyp, .int .u32 xid, .int .i64 xlen, .int .u32 xrouter, .int .i64 xseq, .int .i64 xage, .int .i64 xsum, .bool xborder, .bool xboundary, .slice xla xln xlc, .slice xaa xan xac, .int .i64 xcost, .bool xsecond, .int .u32 xfwd, .int .i64 xtag] 47)).heap[wr.heap.size]? = some (.cells (List.toArray [.int .i64 xtyp, .int .u32 xid, .int .i64 xlen, .int .u32 xrouter, .int .i64 xseq, .int .i64 xage, .int .i64 xsum, .bool xborder, .bool xboundary, .slice xla xln xlc, .slice xaa xan xac, .int .i64 xcost, .bool xsecond, .int .u32 xfwd, .int .i64 xtag]) 47 (0, 0))) := Lib.hid (alloc_new wr _)
        clear BA
        go_wp2_with (at_builtin; refine wpList_append_one rfl (.tmp 47) (.tmp 49) 32 rfl (w.heap.size + 1) 47 i0 (.agg #[.int .i64 0, .int .u32 0, .int .i64 0, .int .u32 0, .int .i64 0, .int .i64 0, .int .i64 0, .bool false, .bool false, .slice none 0 0, .slice none 0 0, .int .i64 0, .bool false, .int .u32 0, .int .i64 0]) 15 136 Tryz.underlying32 HI0.out HZ0.out HZ1.out HZ2.out rfl (by decide) vA out.length _ rfl R6.out.own wr.heap.size [.int .i64 xtyp, .int .u32 xid, .int .i64 xlen, .int .u32 xrouter, .int .i64 xseq, .int .i64 xage, .int .i64 xsum, .bool xborder, .bool xboundary, .slice xla xln xlc, .slice xaa xan xac, .int .i64 xcost, .bool xsecond, .int .u32 xfwd, .int .i64 xtag] 47 rfl BKR6.out rfl ONE.out M1.out M2.out BSR6.out ?_; intro vX W7 own' hg d; have R7 := Lib.hid (STA.out vX W7 own' hg); clear own' hg d STA R6 BSR6 BKR6 e0 e1 e2 e3 e4 e5 e6 e7 e8 e9 e10 e11 e12 e13 e14)
        have FI := Lib.hid (FIN.out vX W7 R7.out)
        clear FIN
        go_ret
        exact FI.out

end Go.Proofs.YtogdconliofblaaGreat

namespace Go.Proofs.YtogdconliofblaaGreat
open Go.RowKit

set_option maxHeartbeats 1000000 in
theorem good_calls (n : Int) (w : World) : Calls Tryz.prog 41 #[.int .i64 n] w fun e w' => e = .returned (.bool (goodB n)) ∧ w = w' := by
  unfold goodB
  by_cases h0 : 0 ≤ n
  · by_cases h1 : n ≤ 16777216
    · have e0 : decide (0 ≤ n) = true := decide_eq_true h0
      have e1 : decide (n ≤ 16777216) = true := decide_eq_true h1
      rw [e0, e1]
      clear h0 h1
      go_enter Tryz.func41, Tryz.ntmps41
      go_wp2_with fail
      go_ret
      exact ⟨rfl, rfl⟩
    · have e0 : decide (0 ≤ n) = true := decide_eq_true h0
      have e1 : decide (n ≤ 16777216) = false := decide_eq_false h1
      rw [e0, e1]
      clear h0 h1
      go_enter Tryz.func41, Tryz.ntmps41
      go_wp2_with fail
      go_ret
      exact ⟨rfl, rfl⟩
  · have e0 : decide (0 ≤ n) = false := decide_eq_false h0
    rw [e0]
    clear h0
    go_enter Tryz.func41, Tryz.ntmps41
    go_wp2_with fail
    go_ret
    exact ⟨rfl, rfl⟩

set_option maxHeartbeats 4000000 in
set_option maxRecDepth 100000 in
theorem body33_calls (kind id n router cost : Int) (w : World) : Calls Tryz.prog 43 #[.int .i64 kind, .int .u32 id, .int .i64 n, .int .u32 router, .int .i64 cost] w fun e w' => e = .returned (.agg #[.int .i64 kind, .int .u32 id, .int .i64 n, .int .u32 router, .int .i64 0, .int .i64 0, .int .i64 0, .bool false, .bool false, .slice none 0 0, .slice none 0 0, .int .i64 cost, .bool false, .int .u32 0, .int .i64 0]) ∧ Below w.heap.size w w' := by
  obtain ⟨W0, hW0⟩ : ∃ W0, w.alloc (.cells #[.int .i64 0, .int .u32 0, .int .i64 0, .int .u32 0, .int .i64 0, .int .i64 0, .int .i64 0, .bool false, .bool false, .slice none 0 0, .slice none 0 0, .int .i64 0, .bool false, .int .u32 0, .int .i64 0] 47) = W0 := ⟨_, rfl⟩
  have bz : W0.heap[w.heap.size]? = some (.cells #[.int .i64 0, .int .u32 0, .int .i64 0, .int .u32 0, .int .i64 0, .int .i64 0, .int .i64 0, .bool false, .bool false, .slice none 0 0, .slice none 0 0, .int .i64 0, .bool false, .int .u32 0, .int .i64 0] 47 (0, 0)) := by rw [← hW0]; exact alloc_new w _
  have B0 : Below w.heap.size w W0 := by rw [← hW0]; exact (Below.refl _ _).alloc (Nat.le_refl _) _
  obtain ⟨W', hW'⟩ : ∃ W', setLsa W0 w.heap.size ⟨kind, id, n, router, 0, 0, 0, false, false, none, 0, 0, none, 0, 0, cost, false, 0, 0⟩ = W' := ⟨_, rfl⟩
  have bk' : W'.heap[w.heap.size]? = some (.cells #[.int .i64 kind, .int .u32 id, .int .i64 n, .int .u32 router, .int .i64 0, .int .i64 0, .int .i64 0, .bool false, .bool false, .slice none 0 0, .slice none 0 0, .int .i64 cost, .bool false, .int .u32 0, .int .i64 0] 47 (0, 0)) := by rw [← hW']; exact setLsa_blk bz _
  have BW' : Below w.heap.size w W' := by rw [← hW']; exact setLsa_below B0 (Nat.le_refl _) _
  have FIN := Lib.hid BW'
  unfold setLsa at hW'
  simp only at hW'
  have HW' := Lib.hid hW'
  obtain ⟨⟨⟨z0, z1, z2, z3, z4⟩, ⟨z5, z6, z7, z8, z9⟩, ⟨z10, z11, z12, z13, z14⟩⟩, hfz⟩ := blk15 bz
  have zf0 := hfz 0
  have zf1 := hfz 1
  have zf2 := hfz 2
  have zf3 := hfz 3
  have zf4 := hfz 4
  have zf5 := hfz 5
  have zf6 := hfz 6
  have zf7 := hfz 7
  have zf8 := hfz 8
  have zf9 := hfz 9
  have zf10 := hfz 10
  have zf11 := hfz 11
  have zf12 := hfz 12
  have zf13 := hfz 13
  have zf14 := hfz 14
  obtain ⟨⟨⟨g0, g1, g2, g3, g4⟩, ⟨g5, g6, g7, g8, g9⟩, ⟨g10, g11, g12, g13, g14⟩⟩, -⟩ := blk15 bk'
  have G := Lib.hid (And.intro g0 (And.intro g1 (And.intro g2 (And.intro g3 (And.intro g4 (And.intro g5 (And.intro g6 (And.intro g7 (And.intro g8 (And.intro g9 (And.intro g10 (And.intro g11 (And.intro g12 (And.intro g13 g14))))))))))))))
  have HW0 := Lib.hid hW0
  clear hW0 bz B0 hW' bk' BW' hfz g0 g1 g2 g3 g4 g5 g6 g7 g8 g9 g10 g11 g12 g13 g14
  go_enter Tryz.func43, Tryz.ntmps43
  go_upto_region 1 with fail
  rw [HW0.out]
  go_wp2_with fail
  rw [HW'.out]
  obtain ⟨g0, g1, g2, g3, g4, g5, g6, g7, g8, g9, g10, g11, g12, g13, g14⟩ := G.out
  exact bodyPost_ret (v := .agg #[.int .i64 kind, .int .u32 id, .int .i64 n, .int .u32 router, .int .i64 0, .int .i64 0, .int .i64 0, .bool false, .bool false, .slice none 0 0, .slice none 0 0, .int .i64 cost, .bool false, .int .u32 0, .int .i64 0]) (by simp [results, Tryz.results43, go_sem, g0, g1, g2, g3, g4, g5, g6, g7, g8, g9, g10, g11, g12, g13, g14]) rfl ⟨rfl, FIN.out⟩

/-- l' is l with x put in, of two with one key the cheaper one -/
def KeepIs (l : List Lsa) (x : Lsa) (l' : List Lsa) : Prop :=
  (l' = l ∧ ∃ y ∈ l, lkOf y = lkOf x ∧ y.cost ≤ x.cost) ∨ (l' = insL x l ∧ ((∀ y ∈ l, lkOf y ≠ lkOf x) ∨ ∃ y ∈ l, lkOf y = lkOf x ∧ ¬ y.cost ≤ x.cost))
def KeepPost (w : World) (v : Value) (l : List Lsa) (x : Lsa) (e : Ending) (w' : World) : Prop := ∃ v' l', e = .returned v' ∧ LsasAt w' v' l' ∧ Below w.heap.size w w' ∧ KeepIs l x l' ∧ (v' = v ∨ ∀ b, v'.ownBlock = some b → w.heap.size ≤ b ∧ b < w'.heap.size)

set_option maxHeartbeats 8000000 in
set_option maxRecDepth 100000 in
theorem keep33_calls (w : World) (v : Value) (l : List Lsa) (hl : LsasAt w v l) (hn : (l.length + 3) * 136 ≤ 140737488355328) (x : Lsa) :
    Calls Tryz.prog 42 #[v, .agg (lsaE x).toArray] w (KeepPost w v l x) := by
  have GC := Lib.hid (fun W (hb : Below w.heap.size w W) => get_calls W v l (hl.below hb) x.typ x.id x.len x.router)
  have IC := Lib.hid (fun W (hb : Below w.heap.size w W) => insert2_calls W v l x (hl.below hb) hn)
  have OLD : Hid (∀ W (_ : Below w.heap.size w W), (∃ y ∈ l, lkOf y = lkOf x ∧ y.cost ≤ x.cost) → KeepPost w v l x (.returned v) W) := Lib.hid (fun W hb h => ⟨v, l, rfl, hl.below hb, hb, .inl ⟨rfl, h⟩, .inl rfl⟩)
  have NEW : Hid (∀ W W' e (_ : Below w.heap.size w W), ((∀ y ∈ l, lkOf y ≠ lkOf x) ∨ ∃ y ∈ l, lkOf y = lkOf x ∧ ¬ y.cost ≤ x.cost) → LsPos2 W (insL x l) e W' → ∃ v', e = .returned v' ∧ KeepPost w v l x (.returned v') W') := Lib.hid (fun W W' e hb h hp => by
    obtain ⟨v', rfl, h1, h2, h3⟩ := hp
    exact ⟨v', rfl, v', _, rfl, h1, hb.trans (h2.mono hb.size), .inr ⟨rfl, h⟩, .inr fun b hb' => ⟨Nat.le_trans hb.size (h3 b hb').1, (h3 b hb').2⟩⟩)
  have KX : Hid ((⟨x.typ, x.id, x.len, x.router⟩ : Kk) = lkOf x) := Lib.hid rfl
  clear hl hn
  obtain ⟨X, hX⟩ : ∃ X, X = x := ⟨_, rfl⟩
  have HX := Lib.hid hX
  obtain ⟨W0, hW0⟩ : ∃ W0, w.alloc (.cells (lsaE x).toArray 47) = W0 := ⟨_, rfl⟩
  have b0 : W0.heap[w.heap.size]? = some (.cells (lsaE x).toArray 47 (0, 0)) := by rw [← hW0]; exact alloc_new w _
  have B0 : Below w.heap.size w W0 := by rw [← hW0]; exact (Below.refl _ _).alloc (Nat.le_refl _) _
  rw [KX.out] at GC
  rw [← HX.out] at OLD NEW ⊢
  have GC2 : Hid (∀ W (_ : Below w.heap.size w W), Calls Tryz.prog 22 #[v, .agg #[.int .i64 x.typ, .int .u32 x.id, .int .i64 x.len, .int .u32 x.router]] W (GetPost W l (lkOf X))) := Lib.hid (fun W hb => by rw [HX.out]; exact GC.out W hb)
  have HW0 := Lib.hid hW0
  have HB0 := Lib.hid B0
  have HX0 := Lib.hid b0
  rw [HX.out]
  clear hW0 B0 b0 hX GC KX
  obtain ⟨xtyp, xid, xlen, xrouter, xseq, xage, xsum, xborder, xboundary, xla, xln, xlc, xaa, xan, xac, xcost, xsecond, xfwd, xtag⟩ := x
  simp only [lsaE] at HW0 HX0 GC2 IC ⊢
  obtain ⟨⟨⟨e0, e1, e2, e3, e4⟩, ⟨e5, e6, e7, e8, e9⟩, ⟨e10, e11, e12, e13, e14⟩⟩, -⟩ := blk15 HX0.out
  have KC := Lib.hid (fun W => key_calls xtyp xid xlen xrouter xseq xage xsum W)
  simp only [keyE] at KC
  go_enter Tryz.func42, Tryz.ntmps42
  go_upto_region 1 with fail
  rw [HW0.out]
  go_wp2_with fail
  refine (KC.out _).mono ?_
  rintro e w1 ⟨rfl, G1⟩
  have HB1 := Lib.hid (HB0.out.trans (G1.b.mono HB0.out.size))
  have HX1 := Lib.hid ((G1.b.block _ (blk_lt HX0.out)).trans HX0.out)
  have GC3 := Lib.hid (GC2.out w1 HB1.out)
  clear G1 KC GC2 e0 e1 e2 e3 e4 e5 e6 e7 e8 e9 e10 e11 e12 e13 e14 HW0 HX0
  go_wp2_with fail
  refine GC3.out.mono ?_
  rintro e w2 ⟨y, bo, rfl, B2, GI⟩
  have HGI := Lib.hid GI
  have HYC : Hid (X.cost = xcost) := Lib.hid (by rw [HX.out])
  clear GI GC3
  obtain ⟨Y, hY⟩ : ∃ Y, Y = y := ⟨_, rfl⟩
  have HY := Lib.hid hY
  rw [← hY] at HGI
  clear hY
  obtain ⟨ytyp, yid, ylen, yrouter, yseq, yage, ysum, yborder, yboundary, yla, yln, ylc, yaa, yan, yac, ycost, ysecond, yfwd, ytag⟩ := y
  simp only [lsaE]
  obtain ⟨W3, hW3⟩ : ∃ W3, w2.alloc (.cells #[.int .i64 ytyp, .int .u32 yid, .int .i64 ylen, .int .u32 yrouter, .int .i64 yseq, .int .i64 yage, .int .i64 ysum, .bool yborder, .bool yboundary, .slice yla yln ylc, .slice yaa yan yac, .int .i64 ycost, .bool ysecond, .int .u32 yfwd, .int .i64 ytag] 47) = W3 := ⟨_, rfl⟩
  have B3 : Below w2.heap.size w2 W3 := by rw [← hW3]; exact (Below.refl _ _).alloc (Nat.le_refl _) _
  have b3 : W3.heap[w2.heap.size]? = some (.cells #[.int .i64 ytyp, .int .u32 yid, .int .i64 ylen, .int .u32 yrouter, .int .i64 yseq, .int .i64 yage, .int .i64 ysum, .bool yborder, .bool yboundary, .slice yla yln ylc, .slice yaa yan yac, .int .i64 ycost, .bool ysecond, .int .u32 yfwd, .int .i64 ytag] 47 (0, 0)) := by rw [← hW3]; exact alloc_new _ _
  have HB2 := HB1.out.trans (B2.mono HB1.out.size)
  have HB3 := Lib.hid (HB2.trans (B3.mono HB2.size))
  have HX3 := Lib.hid ((B3.block _ (blk_lt ((B2.block _ (blk_lt HX1.out)).trans HX1.out))).trans ((B2.block _ (blk_lt HX1.out)).trans HX1.out))
  have f11 := blk_cell (i := 11) b3 rfl
  have HW3 := Lib.hid hW3
  clear hW3 B3 b3 B2 HB2 HX1 HB1
  go_upto_region 2 with fail
  rw [HW3.out]
  obtain ⟨⟨⟨e0, e1, e2, e3, e4⟩, ⟨e5, e6, e7, e8, e9⟩, ⟨e10, e11, e12, e13, e14⟩⟩, -⟩ := blk15 HX3.out
  have HOLD := Lib.hid (OLD.out W3 HB3.out)
  have HNEW := Lib.hid (fun W' e h hp => NEW.out W3 W' e HB3.out h hp)
  have IC2 := Lib.hid (IC.out W3 HB3.out)
  clear OLD NEW IC
  cases bo with
  | false =>
    have NO : Hid ((∀ y ∈ l, lkOf y ≠ lkOf X) ∨ ∃ y ∈ l, lkOf y = lkOf X ∧ ¬ y.cost ≤ X.cost) := Lib.hid (by
      rcases HGI.out with ⟨-, h⟩ | ⟨h, -⟩
      · exact .inl h
      · cases h)
    clear HOLD HGI
    go_wp2_with fail
    refine IC2.out.mono ?_
    intro e w4 P4
    obtain ⟨v', rfl, FI⟩ := HNEW.out w4 e NO.out (by rw [HX.out]; exact P4)
    have HFI := Lib.hid FI
    clear P4 FI HNEW IC2 e0 e1 e2 e3 e4 e5 e6 e7 e8 e9 e10 e11 e12 e13 e14 f11
    go_wp2_with fail
    go_ret
    have R := HFI.out
    rw [HX.out] at R
    exact R
  | true =>
    obtain ⟨hk, hm⟩ : lkOf Y = lkOf X ∧ Y ∈ l := by
      rcases HGI.out with ⟨h, -⟩ | ⟨-, h1, h2⟩
      · cases h
      · exact ⟨h1, h2⟩
    have HK := Lib.hid hk
    have HM := Lib.hid hm
    have HYY : Hid (Y.cost = ycost) := Lib.hid (by rw [HY.out])
    clear HGI hk hm
    by_cases q : ycost ≤ xcost
    · have c1 : decide (ycost ≤ xcost) = true := decide_eq_true q
      have FI := Lib.hid (HOLD.out ⟨Y, HM.out, HK.out, by rw [HYY.out, HYC.out]; exact q⟩)
      clear HOLD HNEW q IC2
      go_wp2_with fail
      go_ret
      have R := FI.out
      rw [HX.out] at R
      exact R
    · have c1 : decide (ycost ≤ xcost) = false := decide_eq_false q
      have NO : Hid ((∀ y ∈ l, lkOf y ≠ lkOf X) ∨ ∃ y ∈ l, lkOf y = lkOf X ∧ ¬ y.cost ≤ X.cost) := Lib.hid (.inr ⟨Y, HM.out, HK.out, by rw [HYY.out, HYC.out]; exact q⟩)
      clear HOLD q
      go_wp2_with fail
      refine IC2.out.mono ?_
      intro e w4 P4
      obtain ⟨v', rfl, FI⟩ := HNEW.out w4 e NO.out (by rw [HX.out]; exact P4)
      have HFI := Lib.hid FI
      clear P4 FI HNEW IC2 e0 e1 e2 e3 e4 e5 e6 e7 e8 e9 e10 e11 e12 e13 e14 f11
      go_wp2_with fail
      go_ret
      have R := HFI.out
      rw [HX.out] at R
      exact R

end Go.Proofs.YtogdconliofblaaGreat
