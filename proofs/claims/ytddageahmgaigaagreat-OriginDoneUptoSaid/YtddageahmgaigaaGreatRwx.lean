import Derived.Test.YtddageahmgaigaaGreatLcs
import Derived.Test.YtddageahmgaigaaGreatSla
import Derived.Test.YtddageahmgaigaaGreatLsu
import Derived.Test.YtddageahmgaigaaGreatNxt
import Derived.IntWalk
namespace Go.Proofs.YtddageahmgaigaaGreat
open Go.RowKit

set_option maxHeartbeats 4000000 in
set_option maxRecDepth 100000 in
theorem sealed_exact (x : Lsa) (n : Int) (w : World) (sc : ∀ W, Below w.heap.size w W → Calls Tryz.prog 75 #[.agg (lsaE x).toArray] W (SmPost W n)) : Calls Tryz.prog 83 #[.agg (lsaE x).toArray] w fun e w' => e = .returned (.bool (decide (x.sum = n))) ∧ Below w.heap.size w w' := by
  have SC := Lib.hid sc
  clear sc
  obtain ⟨typ, id, len, router, seq, age, sum, border, boundary, la, ln, lc, aa, an, ac, cost, second, fwd, tag⟩ := x
  simp only [lsaE] at *
  obtain ⟨W, hW⟩ : ∃ W, w.alloc (.cells #[.int .i64 typ, .int .u32 id, .int .i64 len, .int .u32 router, .int .i64 seq, .int .i64 age, .int .i64 sum, .bool border, .bool boundary, .slice la ln lc, .slice aa an ac, .int .i64 cost, .bool second, .int .u32 fwd, .int .i64 tag] 42) = W := ⟨_, rfl⟩
  have B0 : Below w.heap.size w W := by rw [← hW]; exact (Below.refl _ _).alloc (Nat.le_refl _) _
  have bx : W.heap[w.heap.size]? = some (.cells #[.int .i64 typ, .int .u32 id, .int .i64 len, .int .u32 router, .int .i64 seq, .int .i64 age, .int .i64 sum, .bool border, .bool boundary, .slice la ln lc, .slice aa an ac, .int .i64 cost, .bool second, .int .u32 fwd, .int .i64 tag] 42 (0, 0)) := by rw [← hW]; exact alloc_new _ _
  obtain ⟨⟨⟨e0, e1, e2, e3, e4⟩, ⟨e5, e6, e7, e8, e9⟩, ⟨e10, e11, e12, e13, e14⟩⟩, -⟩ := blk15 bx
  have HB0 := Lib.hid B0
  have HBX := Lib.hid bx
  have HW := Lib.hid hW
  have SW := Lib.hid (SC.out W.drew B0.drew)
  clear hW B0 bx SC
  go_enter Tryz.func83, Tryz.ntmps83
  go_wp2_with fail
  rw [HW.out]
  go_region_held3 (fun W' => W'.cell? ⟨w.heap.size, 0, none⟩ = some (.int .i64 typ) ∧ W'.cell? ⟨w.heap.size, 1, none⟩ = some (.int .u32 id) ∧ W'.cell? ⟨w.heap.size, 2, none⟩ = some (.int .i64 len) ∧ W'.cell? ⟨w.heap.size, 3, none⟩ = some (.int .u32 router) ∧ W'.cell? ⟨w.heap.size, 4, none⟩ = some (.int .i64 seq) ∧ W'.cell? ⟨w.heap.size, 5, none⟩ = some (.int .i64 age) ∧ W'.cell? ⟨w.heap.size, 6, none⟩ = some (.int .i64 sum) ∧ W'.cell? ⟨w.heap.size, 7, none⟩ = some (.bool border) ∧ W'.cell? ⟨w.heap.size, 8, none⟩ = some (.bool boundary) ∧ W'.cell? ⟨w.heap.size, 9, none⟩ = some (.slice la ln lc) ∧ W'.cell? ⟨w.heap.size, 10, none⟩ = some (.slice aa an ac) ∧ W'.cell? ⟨w.heap.size, 11, none⟩ = some (.int .i64 cost) ∧ W'.cell? ⟨w.heap.size, 12, none⟩ = some (.bool second) ∧ W'.cell? ⟨w.heap.size, 13, none⟩ = some (.int .u32 fwd) ∧ W'.cell? ⟨w.heap.size, 14, none⟩ = some (.int .i64 tag))
    (first | with_reducible exact ⟨k0, k1, k2, k3, k4, k5, k6, k7, k8, k9, k10, k11, k12, k13, k14⟩ | with_reducible exact ⟨e0, e1, e2, e3, e4, e5, e6, e7, e8, e9, e10, e11, e12, e13, e14⟩ | go_keep)
    (first
    | (go_at_call 75; ((with_reducible refine SW.out.mono ?_)); rintro e w1 ⟨rfl, B1⟩; obtain ⟨⟨⟨k0, k1, k2, k3, k4⟩, ⟨k5, k6, k7, k8, k9⟩, ⟨k10, k11, k12, k13, k14⟩⟩, -⟩ := blk15 ((B1.block w.heap.size (blk_lt HBX.out)).trans HBX.out); have FIN := Lib.hid (HB0.out.drew.trans (B1.mono HB0.out.size)); clear B1))
  go_wp2_with fail
  go_ret
  exact ⟨rfl, FIN.out⟩

def RowB (db : List LsaD) (i : Nat) : Prop := LsaOk (dAt db i) ∧ (dAt db i).x.sum = sumD (dAt db i) ∧ (0 < i → kkCmp (keyOf (dAt db (i - 1)).x) (keyOf (dAt db i).x) < 0)
def DbIs (db : List LsaD) : Prop := ∀ i, i < db.length → RowB db i
def RowIs (w : World) (db : List LsaD) (e : Ending) (w' : World) : Prop := ∃ c, e = .returned (.int .i64 c) ∧ Below w.heap.size w w' ∧ (c = 0 → DbIs db) ∧ (DbIs db → c = 0)
def ChkIs (w : World) (db : List LsaD) (e : Ending) (w' : World) : Prop := ∃ c, e = .returned (.int .i64 c) ∧ Below w.heap.size w w' ∧ (c = 0 → db.length ≤ 2000 ∧ DbIs db) ∧ (db.length ≤ 2000 ∧ DbIs db → c = 0)

structure RowRx (w : World) (db : List LsaD) (k : Nat) (wr : World) : Prop where
  hk : k ≤ db.length
  ok : ∀ i, i < k → RowB db i
  bel : Below w.heap.size w wr

theorem RowRx.step {w : World} {db : List LsaD} {k : Nat} {wr wr' : World} (R : RowRx w db k wr) (c : k < db.length) (h : RowB db k) (g : Below wr.heap.size wr wr') : RowRx w db (k + 1) wr' :=
  ⟨c, fun i hi => by rcases Nat.lt_or_ge i k with h' | h'; · exact R.ok i h'
                     · rw [show i = k from by omega]; exact h, R.bel.trans (g.mono R.bel.size)⟩
theorem RowRx.stop {w : World} {db : List LsaD} {k : Nat} {wr wr' : World} (R : RowRx w db k wr) (c : k < db.length) {e : Int} (he : e ≠ 0) (hn : ¬ RowB db k) (g : Below wr.heap.size wr wr') : RowIs w db (.returned (.int .i64 e)) wr' :=
  ⟨e, rfl, R.bel.trans (g.mono R.bel.size), fun h => absurd h he, fun h => absurd (h k c) hn⟩

set_option maxHeartbeats 8000000 in
set_option maxRecDepth 100000 in
theorem rows_exact (w : World) (v : Value) (db : List LsaD) (h : DbAt w v db) : Calls Tryz.prog 51 #[v] w (RowIs w db) := by
  obtain ⟨hl, hd⟩ := h
  obtain ⟨ad, cap, e0, hlen, hc⟩ := hl.get
  simp only [List.length_map] at e0 hlen hc
  subst e0
  have HC := Lib.hid hc
  have HD := Lib.hid hd
  clear hl hc hd
  have mixed : Tryz.prog.follows .mixedOrders = true := by kernel_rfl
  have R0 : Hid (RowRx w db 0 w) := Lib.hid ⟨Nat.zero_le _, fun i hi => by omega, Below.refl _ _⟩
  go_enter Tryz.func51, Tryz.ntmps51
  go_wp2_with fail
  go_loopw [3] (fun i wr => ∃ k : Nat, i = .int .i64 k ∧ RowRx w db k wr) (fun i _ => db.length - (intOf i).toNat)
  case atStart => exact ⟨0, rfl, R0.out⟩
  case round =>
    clear R0
    obtain ⟨k, rfl, R⟩ := hrel
    have hk := R.hk
    by_cases c : k < db.length
    · obtain ⟨b, off, rfl, hb0, hcc⟩ := HC.out (by omega)
      have D0 : Hid (LsaCells wr b (off + k * 15) (dAt db k).x) := Lib.hid (by
        rw [dAt_eq c]; have := hcc k c; simp only [List.getElem_map] at this; exact this.below R.bel hb0)
      have PV : Hid (0 < k → LsaCells wr b (off + (k - 1) * 15) (dAt db (k - 1)).x) := Lib.hid (fun h0 => by
        have c' : k - 1 < db.length := by omega
        rw [dAt_eq c']; have := hcc (k - 1) c'; simp only [List.getElem_map] at this; exact this.below R.bel hb0)
      have HI : Hid (DIn wr (dAt db k)) := Lib.hid (by rw [dAt_eq c]; exact (HD.out _ (List.getElem_mem c)).below R.bel)
      have NXT := Lib.hid (fun (h : LsaOk (dAt db k)) (hs : (dAt db k).x.sum = sumD (dAt db k)) (h2 : 0 < k → kkCmp (keyOf (dAt db (k - 1)).x) (keyOf (dAt db k).x) < 0) (W' : World) (g : Below wr.heap.size wr W') => R.step c ⟨h, hs, h2⟩ g)
      have STP := Lib.hid (fun (e : Int) (he : e ≠ 0) (hn : ¬ (LsaOk (dAt db k) ∧ (dAt db k).x.sum = sumD (dAt db k) ∧ (0 < k → kkCmp (keyOf (dAt db (k - 1)).x) (keyOf (dAt db k).x) < 0))) (W' : World) (g : Below wr.heap.size wr W') => R.stop c he hn g)
      have hbw : b < wr.heap.size := Nat.lt_of_lt_of_le hb0 R.bel.size
      have i0 : (0 : Int) ≤ (k : Int) := by omega
      have i1 : (k : Int) < (db.length : Int) := by omega
      have s3 : ((k : Int)).toNat = k := by omega
      clear R hcc
      generalize dAt db k = d at *
      obtain ⟨⟨e0, e1, e2, e3, e4⟩, ⟨e5, e6, e7, e8, e9⟩, ⟨e10, e11, e12, e13, e14⟩⟩ := D0.out
      have CC := Lib.hid (check_any d.x HI.out.ok d.lk d.att wr HI.out.lk HI.out.lr HI.out.att)
      have SC := Lib.hid (fun (hv : LsaOk d) W (hb : Below wr.heap.size wr W) => sealed_exact d.x (sumD d) W (fun W' hb' => rsum_calls d W' (HI.out.below (hb.trans (hb'.mono hb.size))) (hv.enc HI.out)))
      obtain ⟨⟨typ, id, len, router, seq, age, sum, border, boundary, la, ln, lc, aa, an, ac, cost, second, fwd, tag⟩, lk, att⟩ := d
      simp only [lsaE] at e0 e1 e2 e3 e4 e5 e6 e7 e8 e9 e10 e11 e12 e13 e14 CC SC
      go_wp2_with fail
      refine CC.out.mono ?_
      rintro e w1 ⟨c, rfl, hI, G1⟩
      by_cases hc0 : c = 0
      · subst hc0
        have OK : Hid (LsaOk ⟨⟨typ, id, len, router, seq, age, sum, border, boundary, la, ln, lc, aa, an, ac, cost, second, fwd, tag⟩, lk, att⟩) := Lib.hid hI
        have q0 : ((0 : Int) != 0) = false := by simp
        have S1 := Lib.hid (SC.out OK.out w1 G1.b)
        have HB1 := Lib.hid G1.b
        clear e0 e1 e2 e3 e4 e5 e6 e7 e8 e9 e10 e11 e12 e13 e14 CC SC hI G1
        obtain ⟨⟨e0, e1, e2, e3, e4⟩, ⟨e5, e6, e7, e8, e9⟩, ⟨e10, e11, e12, e13, e14⟩⟩ := D0.out.below HB1.out hbw
        simp only at e0 e1 e2 e3 e4 e5 e6 e7 e8 e9 e10 e11 e12 e13 e14
        go_wp2_with fail
        refine S1.out.mono ?_
        rintro e w2 ⟨rfl, B2⟩
        generalize hbs : decide (sum = sumD ⟨⟨typ, id, len, router, seq, age, sum, border, boundary, la, ln, lc, aa, an, ac, cost, second, fwd, tag⟩, lk, att⟩) = b'
        have HB2 := Lib.hid (HB1.out.trans (B2.mono HB1.out.size))
        clear e0 e1 e2 e3 e4 e5 e6 e7 e8 e9 e10 e11 e12 e13 e14 S1 B2
        cases b' with
        | false =>
          have EL := Lib.hid (STP.out 13 (by decide) (fun h => of_decide_eq_false hbs h.2.1) w2 HB2.out)
          clear hbs
          go_wp2_with fail
          go_returns
          exact EL.out
        | true =>
          have SE := Lib.hid (of_decide_eq_true hbs)
          clear hbs
          go_wp2_with fail
          obtain ⟨W2, rfl⟩ : ∃ W2, W2 = w2 := ⟨_, rfl⟩
          rcases Nat.eq_zero_or_pos k with h0 | h0
          · subst h0
            have NX := Lib.hid (fun n => NXT.out OK.out SE.out (fun h => absurd h (by omega)) (W2.drewN n) ⟨HB2.out.os, HB2.out.tape, HB2.out.output, HB2.out.size, HB2.out.block⟩)
            clear PV D0 HI
            go_quiet (fail)
            go_wp2_with fail
            go_roundw
            case rel => exact ⟨1, by go_num, NX.out _⟩
            case measure => simp [intOf]; omega
          · have P0 := (PV.out h0).below HB2.out hbw
            have D2 := D0.out.below HB2.out hbw
            generalize dAt db (k - 1) = z at *
            obtain ⟨⟨ztyp, zid, zlen, zrouter, zseq, zage, zsum, zborder, zboundary, zla, zln, zlc, zaa, zan, zac, zcost, zsecond, zfwd, ztag⟩, zlk, zatt⟩ := z
            obtain ⟨j, rfl⟩ : ∃ j, k = j + 1 := ⟨k - 1, by omega⟩
            rw [Nat.add_sub_cancel] at P0
            obtain ⟨⟨z0, z1, z2, z3, z4⟩, ⟨z5, z6, z7, z8, z9⟩, ⟨z10, z11, z12, z13, z14⟩⟩ := P0
            obtain ⟨⟨e0, e1, e2, e3, e4⟩, ⟨e5, e6, e7, e8, e9⟩, ⟨e10, e11, e12, e13, e14⟩⟩ := D2
            simp only at z0 z1 z2 z3 z4 z5 z6 e0 e1 e2 e3 e4 e5 e6
            have y0 : ∀ n os, (Go.Sort.grow (W2.drewN n) os).cell? ⟨b, off + j * 15, none⟩ = some (.int .i64 ztyp) := cell_grown (World.block_lt_of_cell? _ _ z0) z0
            have y1 : ∀ n os, (Go.Sort.grow (W2.drewN n) os).cell? ⟨b, off + j * 15 + 1, none⟩ = some (.int .u32 zid) := cell_grown (World.block_lt_of_cell? _ _ z1) z1
            have y2 : ∀ n os, (Go.Sort.grow (W2.drewN n) os).cell? ⟨b, off + j * 15 + 2, none⟩ = some (.int .i64 zlen) := cell_grown (World.block_lt_of_cell? _ _ z2) z2
            have y3 : ∀ n os, (Go.Sort.grow (W2.drewN n) os).cell? ⟨b, off + j * 15 + 3, none⟩ = some (.int .u32 zrouter) := cell_grown (World.block_lt_of_cell? _ _ z3) z3
            have y4 : ∀ n os, (Go.Sort.grow (W2.drewN n) os).cell? ⟨b, off + j * 15 + 4, none⟩ = some (.int .i64 zseq) := cell_grown (World.block_lt_of_cell? _ _ z4) z4
            have y5 : ∀ n os, (Go.Sort.grow (W2.drewN n) os).cell? ⟨b, off + j * 15 + 5, none⟩ = some (.int .i64 zage) := cell_grown (World.block_lt_of_cell? _ _ z5) z5
            have y6 : ∀ n os, (Go.Sort.grow (W2.drewN n) os).cell? ⟨b, off + j * 15 + 6, none⟩ = some (.int .i64 zsum) := cell_grown (World.block_lt_of_cell? _ _ z6) z6
            have x0 : ∀ n os, (Go.Sort.grow (W2.drewN n) os).cell? ⟨b, off + (j + 1) * 15, none⟩ = some (.int .i64 typ) := cell_grown (World.block_lt_of_cell? _ _ e0) e0
            have x1 : ∀ n os, (Go.Sort.grow (W2.drewN n) os).cell? ⟨b, off + (j + 1) * 15 + 1, none⟩ = some (.int .u32 id) := cell_grown (World.block_lt_of_cell? _ _ e1) e1
            have x2 : ∀ n os, (Go.Sort.grow (W2.drewN n) os).cell? ⟨b, off + (j + 1) * 15 + 2, none⟩ = some (.int .i64 len) := cell_grown (World.block_lt_of_cell? _ _ e2) e2
            have x3 : ∀ n os, (Go.Sort.grow (W2.drewN n) os).cell? ⟨b, off + (j + 1) * 15 + 3, none⟩ = some (.int .u32 router) := cell_grown (World.block_lt_of_cell? _ _ e3) e3
            have x4 : ∀ n os, (Go.Sort.grow (W2.drewN n) os).cell? ⟨b, off + (j + 1) * 15 + 4, none⟩ = some (.int .i64 seq) := cell_grown (World.block_lt_of_cell? _ _ e4) e4
            have x5 : ∀ n os, (Go.Sort.grow (W2.drewN n) os).cell? ⟨b, off + (j + 1) * 15 + 5, none⟩ = some (.int .i64 age) := cell_grown (World.block_lt_of_cell? _ _ e5) e5
            have x6 : ∀ n os, (Go.Sort.grow (W2.drewN n) os).cell? ⟨b, off + (j + 1) * 15 + 6, none⟩ = some (.int .i64 sum) := cell_grown (World.block_lt_of_cell? _ _ e6) e6
            have KC1 := Lib.hid (fun W => (key_calls ztyp zid zlen zrouter zseq zage zsum W).mono fun _ _ h => (⟨h.1, h.2.grow⟩ : _ ∧ ∃ q os, _ = Go.Sort.grow (World.drewN W q) os))
            have KC2 := Lib.hid (fun W => (key_calls typ id len router seq age sum W).mono fun _ _ h => (⟨h.1, h.2.grow⟩ : _ ∧ ∃ q os, _ = Go.Sort.grow (World.drewN W q) os))
            have CC := Lib.hid (fun W => (ckeys_calls ⟨ztyp, zid, zlen, zrouter⟩ ⟨typ, id, len, router⟩ W).mono fun _ _ h => (⟨h.1, h.2.grow⟩ : _ ∧ ∃ q os, _ = Go.Sort.grow (World.drewN W q) os))
            have KE : Hid (kkCmp (keyOf (⟨⟨ztyp, zid, zlen, zrouter, zseq, zage, zsum, zborder, zboundary, zla, zln, zlc, zaa, zan, zac, zcost, zsecond, zfwd, ztag⟩, zlk, zatt⟩ : LsaD).x) (keyOf (⟨⟨typ, id, len, router, seq, age, sum, border, boundary, la, ln, lc, aa, an, ac, cost, second, fwd, tag⟩, lk, att⟩ : LsaD).x) = kkCmp ⟨ztyp, zid, zlen, zrouter⟩ ⟨typ, id, len, router⟩) := Lib.hid rfl
            generalize kkCmp ⟨ztyp, zid, zlen, zrouter⟩ ⟨typ, id, len, router⟩ = r at *
            generalize hk1 : (keyE ⟨ztyp, zid, zlen, zrouter⟩).toArray = K1 at *
            generalize hk2 : (keyE ⟨typ, id, len, router⟩).toArray = K2 at *
            have j0 : (0 : Int) ≤ (j : Int) := by omega
            have j1 : (j : Int) < (db.length : Int) := by omega
            have s1 : IntKind.i64.wrap (((j + 1 : Nat) : Int) - 1) = (j : Int) := by rw [IntWalk.i64_in _ (by omega)]; omega
            have s2 : ((j : Int)).toNat = j := by omega
            have SU : Hid (∀ n os, Below wr.heap.size wr (Go.Sort.grow (W2.drewN n) os)) := Lib.hid (fun n os => HB2.out.trans ((Gr.of_grow n os).b.mono HB2.out.size))
            clear hk1 hk2 PV D0 HI z0 z1 z2 z3 z4 z5 z6 z7 z8 z9 z10 z11 z12 z13 z14 e0 e1 e2 e3 e4 e5 e6 e7 e8 e9 e10 e11 e12 e13 e14
            by_cases hr : 0 ≤ r
            · have dr : decide (0 ≤ r) = true := by simpa using hr
              refine wp_region_quiet_grown (by assumption) (by kernel_rfl) ?_
              repeat (go_big_quiet_step (first | (go_at_call 27; first | with_reducible exact Calls.grown_of (KC1.out _) | with_reducible exact Calls.grown_of (KC2.out _)) | (go_at_call 63; with_reducible exact Calls.grown_of (CC.out _))))
              refine wpQuiet_nil ?_
              intro _ hw'
              obtain ⟨⟨nq, osq⟩, hw''⟩ := hw'
              subst hw''
              have EL := Lib.hid (STP.out 16 (by decide) (fun h => absurd (Int.lt_of_le_of_lt (Int.le_of_eq KE.out.symm) (h.2.2 (by omega))) (by omega)) _ (SU.out nq osq))
              clear y0 y1 y2 y3 y4 y5 y6 x0 x1 x2 x3 x4 x5 x6 s1 s2 s3
              go_wp2_with fail
              go_returns
              exact EL.out
            · have dr : decide (0 ≤ r) = false := by simpa using hr
              refine wp_region_quiet_grown (by assumption) (by kernel_rfl) ?_
              repeat (go_big_quiet_step (first | (go_at_call 27; first | with_reducible exact Calls.grown_of (KC1.out _) | with_reducible exact Calls.grown_of (KC2.out _)) | (go_at_call 63; with_reducible exact Calls.grown_of (CC.out _))))
              refine wpQuiet_nil ?_
              intro _ hw'
              obtain ⟨⟨nq, osq⟩, hw''⟩ := hw'
              subst hw''
              have EL := Lib.hid (NXT.out OK.out SE.out (fun _ => Int.lt_of_le_of_lt (Int.le_of_eq KE.out) (by omega)) _ (SU.out nq osq))
              clear y0 y1 y2 y3 y4 y5 y6 x0 x1 x2 x3 x4 x5 x6 s1 s2 s3
              go_wp2_with fail
              go_roundw
              case rel => exact ⟨j + 1 + 1, by go_num, EL.out⟩
              case measure => simp [intOf]; omega
      · have d1 : (c == 0) = false := by simpa using hc0
        have d2 : (c != 0) = true := by simpa using hc0
        have EL := Lib.hid (STP.out c hc0 (fun h => hc0 (LsaIs.one hI h.1)) w1 G1.b)
        clear hc0 hI G1
        go_wp2_with fail
        go_returns
        exact EL.out
    · have R1 := R.ok
      have E : Hid (RowIs w db (.returned (.int .i64 0)) wr) := Lib.hid ⟨0, rfl, R.bel, fun _ i hi => R1 i (by omega), fun _ => rfl⟩
      clear R R1
      go_wp2_with fail
      go_ret
      exact E.out

theorem dbcheck_exact (w : World) (v : Value) (db : List LsaD) (h : DbAt w v db) : Calls Tryz.prog 18 #[v] w (ChkIs w db) := by
  have RC := Lib.hid (rows_exact w v db h)
  obtain ⟨ad, cap, e0, hlen, -⟩ := h.1.get
  simp only [List.length_map] at e0 hlen
  subst e0
  clear h
  by_cases h2 : 2000 < db.length
  · have E : Hid (ChkIs w db (.returned (.int .i64 4)) w) := Lib.hid ⟨4, rfl, Below.refl _ _, (fun h => by cases h), fun h => by omega⟩
    go_enter Tryz.func18, Tryz.ntmps18
    go_wp2_with fail
    go_ret
    exact E.out
  · have h3 : db.length ≤ 2000 := by omega
    clear h2
    go_enter Tryz.func18, Tryz.ntmps18
    go_wp2_with fail
    refine RC.out.mono ?_
    rintro e w1 ⟨c, rfl, B, K⟩
    have E : Hid (ChkIs w db (.returned (.int .i64 c)) w1) := Lib.hid ⟨c, rfl, B, fun e => ⟨h3, K.1 e⟩, fun e => K.2 e.2⟩
    clear B K
    go_wp2_with fail
    go_ret
    exact E.out

end Go.Proofs.YtddageahmgaigaaGreat
