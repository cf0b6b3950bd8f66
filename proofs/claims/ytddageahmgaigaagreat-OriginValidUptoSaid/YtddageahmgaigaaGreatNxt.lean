import Derived.Test.YtddageahmgaigaaGreatLsb
import Derived.Test.YtddageahmgaigaaGreatLcs
namespace Go.Proofs.YtddageahmgaigaaGreat
open Go.RowKit

set_option maxHeartbeats 8000000 in
set_option maxRecDepth 100000 in
theorem matches_calls (x : Lsa) (t id len r : Int) (w : World) : Calls Tryz.prog 85 #[.agg #[.int .i64 t, .int .u32 id, .int .i64 len, .int .u32 r], .agg (lsaE x).toArray] w (EqPost w (decide (lkOf x = ⟨t, id, len, r⟩))) := by
  obtain ⟨kb, hkb⟩ : ∃ kb, decide (lkOf x = ⟨t, id, len, r⟩) = kb := ⟨_, rfl⟩
  rw [hkb]
  obtain ⟨xtyp, xid, xlen, xrouter, xseq, xage, xsum, xborder, xboundary, xla, xln, xlc, xaa, xan, xac, xcost, xsecond, xfwd, xtag⟩ := x
  have NE := eqKk xtyp xid xlen xrouter t id len r
  have hkb' : decide ((⟨xtyp, xid, xlen, xrouter⟩ : Kk) = ⟨t, id, len, r⟩) = kb := hkb
  simp only [hkb'] at NE
  clear hkb hkb'
  simp only [lsaE]
  have K1 := Lib.hid (fun W => (pkey_calls xtyp xid xlen xrouter xseq xage xsum W).mono fun _ _ h => (⟨h.1, h.2.grow⟩ : _ ∧ ∃ q os, _ = Go.Sort.grow (World.drewN W q) os))
  have mixed : Tryz.prog.follows .mixedOrders = true := by kernel_rfl
  simp only [keyE] at K1
  obtain ⟨W0, hW0⟩ : ∃ W0, (w.alloc (.cells #[.int .i64 t, .int .u32 id, .int .i64 len, .int .u32 r] 126)).alloc (.cells #[.int .i64 xtyp, .int .u32 xid, .int .i64 xlen, .int .u32 xrouter, .int .i64 xseq, .int .i64 xage, .int .i64 xsum, .bool xborder, .bool xboundary, .slice xla xln xlc, .slice xaa xan xac, .int .i64 xcost, .bool xsecond, .int .u32 xfwd, .int .i64 xtag] 42) = W0 := ⟨_, rfl⟩
  have b0 : W0.heap[w.heap.size]? = some (.cells #[.int .i64 t, .int .u32 id, .int .i64 len, .int .u32 r] 126 (0, 0)) := by rw [← hW0]; exact (alloc_get _ _ _ (by simp)).trans (alloc_new w _)
  have b1 : W0.heap[w.heap.size + 1]? = some (.cells #[.int .i64 xtyp, .int .u32 xid, .int .i64 xlen, .int .u32 xrouter, .int .i64 xseq, .int .i64 xage, .int .i64 xsum, .bool xborder, .bool xboundary, .slice xla xln xlc, .slice xaa xan xac, .int .i64 xcost, .bool xsecond, .int .u32 xfwd, .int .i64 xtag] 42 (0, 0)) := by rw [← hW0]; exact blk_new2 w _ _
  have G0 : Hid (Gr w W0) := Lib.hid (by rw [← hW0]; exact ((Gr.refl _).alloc _).alloc _)
  have HW0 := Lib.hid hW0
  clear hW0
  have d0 := blk_cell (i := 0) b0 rfl
  have d1 := blk_cell (i := 1) b0 rfl
  have d2 := blk_cell (i := 2) b0 rfl
  have d3 := blk_cell (i := 3) b0 rfl
  obtain ⟨⟨⟨e0, e1, e2, e3, e4⟩, ⟨e5, e6, e7, e8, e9⟩, ⟨e10, e11, e12, e13, e14⟩⟩, -⟩ := blk15 b1
  clear b0 b1
  have p0 : ∀ n os, (Go.Sort.grow (W0.drewN n) os).cell? ⟨w.heap.size, 0, none⟩ = some (.int .i64 t) := cell_grown (World.block_lt_of_cell? _ _ d0) d0
  have p1 : ∀ n os, (Go.Sort.grow (W0.drewN n) os).cell? ⟨w.heap.size, 1, none⟩ = some (.int .u32 id) := cell_grown (World.block_lt_of_cell? _ _ d1) d1
  have p2 : ∀ n os, (Go.Sort.grow (W0.drewN n) os).cell? ⟨w.heap.size, 2, none⟩ = some (.int .i64 len) := cell_grown (World.block_lt_of_cell? _ _ d2) d2
  have p3 : ∀ n os, (Go.Sort.grow (W0.drewN n) os).cell? ⟨w.heap.size, 3, none⟩ = some (.int .u32 r) := cell_grown (World.block_lt_of_cell? _ _ d3) d3
  have q0 : ∀ n os, (Go.Sort.grow (W0.drewN n) os).cell? ⟨w.heap.size + 1, 0, none⟩ = some (.int .i64 xtyp) := cell_grown (World.block_lt_of_cell? _ _ e0) e0
  have q1 : ∀ n os, (Go.Sort.grow (W0.drewN n) os).cell? ⟨w.heap.size + 1, 1, none⟩ = some (.int .u32 xid) := cell_grown (World.block_lt_of_cell? _ _ e1) e1
  have q2 : ∀ n os, (Go.Sort.grow (W0.drewN n) os).cell? ⟨w.heap.size + 1, 2, none⟩ = some (.int .i64 xlen) := cell_grown (World.block_lt_of_cell? _ _ e2) e2
  have q3 : ∀ n os, (Go.Sort.grow (W0.drewN n) os).cell? ⟨w.heap.size + 1, 3, none⟩ = some (.int .u32 xrouter) := cell_grown (World.block_lt_of_cell? _ _ e3) e3
  have q4 : ∀ n os, (Go.Sort.grow (W0.drewN n) os).cell? ⟨w.heap.size + 1, 4, none⟩ = some (.int .i64 xseq) := cell_grown (World.block_lt_of_cell? _ _ e4) e4
  have q5 : ∀ n os, (Go.Sort.grow (W0.drewN n) os).cell? ⟨w.heap.size + 1, 5, none⟩ = some (.int .i64 xage) := cell_grown (World.block_lt_of_cell? _ _ e5) e5
  have q6 : ∀ n os, (Go.Sort.grow (W0.drewN n) os).cell? ⟨w.heap.size + 1, 6, none⟩ = some (.int .i64 xsum) := cell_grown (World.block_lt_of_cell? _ _ e6) e6
  clear d0 d1 d2 d3 e0 e1 e2 e3 e4 e5 e6 e7 e8 e9 e10 e11 e12 e13 e14
  go_enter Tryz.func85, Tryz.ntmps85
  go_upto_region 1 with fail
  rw [HW0.out]
  clear HW0
  refine wp_region_quiet_grown (by assumption) (by kernel_rfl) ?_
  repeat (go_big_quiet_step ((go_at_call 53; with_reducible exact Calls.grown_of (K1.out _))))
  refine wpQuiet_nil ?_
  intro _ hw'
  obtain ⟨⟨nq, osq⟩, hw''⟩ := hw'
  subst hw''
  have FIN : Hid (Gr w (Go.Sort.grow (W0.drewN nq) osq)) := Lib.hid (G0.out.trans (Gr.of_grow nq osq))
  clear p0 p1 p2 p3 q0 q1 q2 q3 q4 q5 q6 K1 NE
  go_wp2_with fail
  go_ret
  exact ⟨rfl, FIN.out⟩

set_option maxHeartbeats 8000000 in
set_option maxRecDepth 100000 in
theorem lindex_calls (w : World) (v : Value) (l : List Lsa) (h : LsasAt w v l) (t id len r : Int) :
    Calls Tryz.prog 84 #[v, .func (.func 85) #[.agg #[.int .i64 t, .int .u32 id, .int .i64 len, .int .u32 r]] #[]] w (FindPost w l ⟨t, id, len, r⟩) := by
  obtain ⟨a1, c1, rfl, hlen, hc1⟩ := h.get
  have HC1 := Lib.hid hc1
  clear h hc1
  go_enter Tryz.func84, Tryz.ntmps84
  go_wp2_with fail
  go_loopw [8] (fun i wr => ∃ k : Nat, i = .int .i64 k ∧ k ≤ l.length ∧ Hid (Gr w wr) ∧ Hid (∀ m (hm : m < l.length), m < k → lkOf l[m] ≠ ⟨t, id, len, r⟩)) (fun i _ => l.length - (intOf i).toNat)
  case atStart => exact ⟨0, rfl, Nat.zero_le _, Lib.hid (Gr.refl _), Lib.hid (fun m _ hm => absurd hm (by omega))⟩
  case round =>
    obtain ⟨k, rfl, hk, GG, NO⟩ := hrel
    by_cases c : k < l.length
    · obtain ⟨b1, o1, rfl, hb1, hcc1⟩ := HC1.out (by omega)
      obtain ⟨⟨d0, d1, d2, d3, d4⟩, ⟨d5, d6, d7, d8, d9⟩, ⟨d10, d11, d12, d13, d14⟩⟩ := (hcc1 k c).below GG.out.b hb1
      have KC := Lib.hid c
      have i0 : (0 : Int) ≤ (k : Int) := by omega
      have i1 : (k : Int) < (l.length : Int) := by omega
      have s3 : ((k : Int)).toNat = k := by omega
      have YES : Hid (lkOf l[k] = ⟨t, id, len, r⟩ → ∀ W, Gr w W → FindPost w l ⟨t, id, len, r⟩ (.returned (.int .i64 (k : Int))) W) := Lib.hid (fun e W g => ⟨_, rfl, g, .inr ⟨k, rfl, c, e, fun m hm => NO.out m _ hm⟩⟩)
      have NXT : Hid (lkOf l[k] ≠ ⟨t, id, len, r⟩ → ∀ m (hm : m < l.length), m < k + 1 → lkOf l[m] ≠ ⟨t, id, len, r⟩) := Lib.hid (fun e m hm h => by
        rcases Nat.lt_or_ge m k with h' | h'
        · exact NO.out m hm h'
        · obtain rfl : m = k := by omega
          exact e)
      have MC := Lib.hid (matches_calls l[k] t id len r wr)
      clear hcc1 NO
      generalize l[k] = x at *
      clear c
      by_cases he : lkOf x = ⟨t, id, len, r⟩
      · have Y := Lib.hid (YES.out he)
        simp only [decide_eq_true he] at MC
        clear he YES NXT
        obtain ⟨xtyp, xid, xlen, xrouter, xseq, xage, xsum, xborder, xboundary, xla, xln, xlc, xaa, xan, xac, xcost, xsecond, xfwd, xtag⟩ := x
        simp only at d0 d1 d2 d3 d4 d5 d6 d7 d8 d9 d10 d11 d12 d13 d14
        simp only [lsaE] at MC
        go_wp2_with fail
        refine MC.out.mono ?_
        rintro e w1 ⟨rfl, G1⟩
        have FI := Lib.hid (Y.out _ (GG.out.trans G1))
        clear d0 d1 d2 d3 d4 d5 d6 d7 d8 d9 d10 d11 d12 d13 d14 G1 MC
        go_wp2_with fail
        go_ret
        exact FI.out
      · have N := Lib.hid (NXT.out he)
        simp only [decide_eq_false he] at MC
        clear he YES NXT
        obtain ⟨xtyp, xid, xlen, xrouter, xseq, xage, xsum, xborder, xboundary, xla, xln, xlc, xaa, xan, xac, xcost, xsecond, xfwd, xtag⟩ := x
        simp only at d0 d1 d2 d3 d4 d5 d6 d7 d8 d9 d10 d11 d12 d13 d14
        simp only [lsaE] at MC
        go_wp2_with fail
        refine MC.out.mono ?_
        rintro e w1 ⟨rfl, G1⟩
        have GZ := Lib.hid (GG.out.trans G1)
        clear d0 d1 d2 d3 d4 d5 d6 d7 d8 d9 d10 d11 d12 d13 d14 G1 MC
        go_wp2_with fail
        go_roundw
        case rel => exact ⟨k + 1, by go_num, KC.out, GZ, N⟩
        case measure => simp [intOf]; have := KC.out; omega
    · have E : Hid (FindPost w l ⟨t, id, len, r⟩ (.returned (.int .i64 (-1))) wr) := Lib.hid ⟨-1, rfl, GG.out, .inl ⟨rfl, fun x hx => by
        obtain ⟨i, hi, rfl⟩ := List.getElem_of_mem hx
        exact NO.out i hi (by omega)⟩⟩
      clear NO
      go_wp2_with fail
      go_ret
      exact E.out

end Go.Proofs.YtddageahmgaigaaGreat

namespace Go.Proofs.YtddageahmgaigaaGreat
open Go.RowKit

def LgPost (w : World) (db : List LsaD) (k : Kk) (e : Ending) (w' : World) : Prop :=
  ((∀ d ∈ db, lkOf d.x ≠ k) ∧ e = .returned (.tuple #[.agg (lsaE lsaZ).toArray, .bool false]) ∧ Below w.heap.size w w') ∨
  ∃ d, d ∈ db ∧ lkOf d.x = k ∧ ∃ la lc aa ac, e = .returned (.tuple #[.agg (lsaE (atL d.x la lc aa ac)).toArray, .bool true]) ∧ LnksAt w' (.slice la d.x.ln lc) d.lk ∧ WordsAt w' (.slice aa d.x.an ac) d.att ∧ Below w.heap.size w w' ∧ Fr w.heap.size (.slice la d.x.ln lc) ∧ Fr w.heap.size (.slice aa d.x.an ac)

set_option maxHeartbeats 8000000 in
set_option maxRecDepth 100000 in
theorem lget_calls (w : World) (v : Value) (db : List LsaD) (h : LsasAt w v (db.map LsaD.x)) (hd : ∀ d ∈ db, LL w d.x d.lk d.att) (t id len r : Int) :
    Calls Tryz.prog 52 #[v, .agg #[.int .i64 t, .int .u32 id, .int .i64 len, .int .u32 r]] w (LgPost w db ⟨t, id, len, r⟩) := by
  obtain ⟨l, hl⟩ : ∃ l, db.map LsaD.x = l := ⟨_, rfl⟩
  rw [hl] at h
  have HL : Hid (∀ x ∈ l, ∃ d, d ∈ db ∧ d.x = x) := Lib.hid (fun x hx => by rw [← hl] at hx; exact List.mem_map.1 hx)
  have HM : Hid (∀ d ∈ db, d.x ∈ l) := Lib.hid (fun d hd => by rw [← hl]; exact List.mem_map_of_mem hd)
  clear hl
  have FC := Lib.hid (fun W (hb : Below w.heap.size w W) => lindex_calls W v l (h.below hb) t id len r)
  obtain ⟨a1, c1, rfl, hlen, hc1⟩ := h.get
  have HC1 := Lib.hid hc1
  have CC := Lib.hid (fun d (hm : d ∈ db) W (hb : Below w.heap.size w W) => lclone_calls d.x d.lk d.att W ((hd d hm).below hb))
  clear h hc1 hd
  obtain ⟨W0, hW0⟩ : ∃ W0, (w.alloc (.cells #[.int .i64 t, .int .u32 id, .int .i64 len, .int .u32 r] 60)).alloc (.cells #[.int .i64 0, .int .u32 0, .int .i64 0, .int .u32 0, .int .i64 0, .int .i64 0, .int .i64 0, .bool false, .bool false, .slice none 0 0, .slice none 0 0, .int .i64 0, .bool false, .int .u32 0, .int .i64 0] 42) = W0 := ⟨_, rfl⟩
  have b0 : W0.heap[w.heap.size]? = some (.cells #[.int .i64 t, .int .u32 id, .int .i64 len, .int .u32 r] 60 (0, 0)) := by rw [← hW0]; exact (alloc_get _ _ _ (by simp)).trans (alloc_new w _)
  have bz : W0.heap[w.heap.size + 1]? = some (.cells #[.int .i64 0, .int .u32 0, .int .i64 0, .int .u32 0, .int .i64 0, .int .i64 0, .int .i64 0, .bool false, .bool false, .slice none 0 0, .slice none 0 0, .int .i64 0, .bool false, .int .u32 0, .int .i64 0] 42 (0, 0)) := by rw [← hW0]; exact blk_new2 w _ _
  have B0 : Below w.heap.size w W0 := by rw [← hW0]; exact ((Below.refl _ _).alloc (Nat.le_refl _) _).alloc (by simp) _
  have y0 := blk_cell (i := 0) b0 rfl
  have y1 := blk_cell (i := 1) b0 rfl
  have y2 := blk_cell (i := 2) b0 rfl
  have y3 := blk_cell (i := 3) b0 rfl
  have F1 := Lib.hid (FC.out W0 B0)
  have HB0 := Lib.hid B0
  have HBZ := Lib.hid bz
  have HW0 := Lib.hid hW0
  clear hW0 b0 bz B0 FC
  go_enter Tryz.func52, Tryz.ntmps52
  go_upto_region 1 with fail
  rw [HW0.out]
  go_wp2_with fail
  refine F1.out.mono ?_
  rintro e w1 ⟨i, rfl, G1, FI⟩
  have HB1 := Lib.hid (HB0.out.trans (G1.b.mono HB0.out.size))
  have HZ1 := Lib.hid ((G1.b.block _ (blk_lt HBZ.out)).trans HBZ.out)
  clear G1 F1 y0 y1 y2 y3 HBZ HW0
  rcases FI with ⟨rfl, NO⟩ | ⟨j, rfl, hj, hk, -⟩
  · have HNO : Hid (∀ d ∈ db, lkOf d.x ≠ ⟨t, id, len, r⟩) := Lib.hid (fun d hd => NO d.x (HM.out d hd))
    clear NO
    obtain ⟨W', hW'⟩ : ∃ W', setLsa w1 (w.heap.size + 1) ⟨0, 0, 0, 0, 0, 0, 0, false, false, none, 0, 0, none, 0, 0, 0, false, 0, 0⟩ = W' := ⟨_, rfl⟩
    have bk' : W'.heap[w.heap.size + 1]? = some (.cells #[.int .i64 0, .int .u32 0, .int .i64 0, .int .u32 0, .int .i64 0, .int .i64 0, .int .i64 0, .bool false, .bool false, .slice none 0 0, .slice none 0 0, .int .i64 0, .bool false, .int .u32 0, .int .i64 0] 42 (0, 0)) := by rw [← hW']; exact setLsa_blk HZ1.out _
    have BW' : Below w.heap.size w W' := by rw [← hW']; exact setLsa_below HB1.out (Nat.le_add_right _ _) _
    have BN : w1.grownBy W' (some (w.heap.size + 1)) := by rw [← hW']; exact setLsa_grown _ _ _
    have FIN : Hid (LgPost w db ⟨t, id, len, r⟩ (.returned (.tuple #[.agg #[.int .i64 0, .int .u32 0, .int .i64 0, .int .u32 0, .int .i64 0, .int .i64 0, .int .i64 0, .bool false, .bool false, .slice none 0 0, .slice none 0 0, .int .i64 0, .bool false, .int .u32 0, .int .i64 0], .bool false])) W') := Lib.hid (.inl ⟨HNO.out, rfl, BW'⟩)
    unfold setLsa at hW'
    simp only at hW'
    have HW' := Lib.hid hW'
    obtain ⟨⟨⟨z0, z1, z2, z3, z4⟩, ⟨z5, z6, z7, z8, z9⟩, ⟨z10, z11, z12, z13, z14⟩⟩, hfz⟩ := blk15 HZ1.out
    have zf0 := hfz 0
    have zf1 := hfz 1
    have zf2 := hfz 2
    have zf3 := hfz 3
    have zf4 := hfz 4
    have zf5 := hfz 5
    have zf6 := hfz 6
    have zf7 := hfz 7
    have zf8 := hfz 8
    have zf9 := hfz 9
    have zf10 := hfz 10
    have zf11 := hfz 11
    have zf12 := hfz 12
    have zf13 := hfz 13
    have zf14 := hfz 14
    obtain ⟨⟨⟨g0, g1, g2, g3, g4⟩, ⟨g5, g6, g7, g8, g9⟩, ⟨g10, g11, g12, g13, g14⟩⟩, -⟩ := blk15 bk'
    have G := Lib.hid (And.intro g0 (And.intro g1 (And.intro g2 (And.intro g3 (And.intro g4 (And.intro g5 (And.intro g6 (And.intro g7 (And.intro g8 (And.intro g9 (And.intro g10 (And.intro g11 (And.intro g12 (And.intro g13 g14))))))))))))))
    clear hW' bk' BW' BN hfz g0 g1 g2 g3 g4 g5 g6 g7 g8 g9 g10 g11 g12 g13 g14
    go_wp2_with fail
    rw [HW'.out]
    obtain ⟨g0, g1, g2, g3, g4, g5, g6, g7, g8, g9, g10, g11, g12, g13, g14⟩ := G.out
    exact bodyPost_ret (v := .tuple #[.agg #[.int .i64 0, .int .u32 0, .int .i64 0, .int .u32 0, .int .i64 0, .int .i64 0, .int .i64 0, .bool false, .bool false, .slice none 0 0, .slice none 0 0, .int .i64 0, .bool false, .int .u32 0, .int .i64 0], .bool false]) (by simp [results, Tryz.results52, go_sem, g0, g1, g2, g3, g4, g5, g6, g7, g8, g9, g10, g11, g12, g13, g14]) rfl FIN.out
  · obtain ⟨b1, o1, rfl, hb1, hcc1⟩ := HC1.out (by omega)
    obtain ⟨d, hdm, hdx⟩ := HL.out _ (List.getElem_mem hj)
    have MEM := Lib.hid hdm
    have AT := Lib.hid ((hcc1 j hj).below HB1.out hb1)
    have g0 : decide ((j : Int) < 0) = false := decide_eq_false (by omega)
    have i0 : (0 : Int) ≤ (j : Int) := by omega
    have i1 : (j : Int) < (l.length : Int) := by omega
    have s3 : ((j : Int)).toNat = j := by omega
    have CD := Lib.hid (CC.out _ MEM.out w1 HB1.out)
    rw [← hdx] at AT hk
    clear hcc1 CC hdx hj hdm HL HM
    obtain ⟨x, lk, att⟩ := d
    have HK := Lib.hid hk
    clear hk
    obtain ⟨xtyp, xid, xlen, xrouter, xseq, xage, xsum, xborder, xboundary, xla, xln, xlc, xaa, xan, xac, xcost, xsecond, xfwd, xtag⟩ := x
    obtain ⟨⟨d0, d1, d2, d3, d4⟩, ⟨d5, d6, d7, d8, d9⟩, ⟨d10, d11, d12, d13, d14⟩⟩ := AT.out
    simp only at d0 d1 d2 d3 d4 d5 d6 d7 d8 d9 d10 d11 d12 d13 d14
    simp only [lsaE] at CD
    clear AT
    go_wp2_with fail
    refine CD.out.mono ?_
    rintro e w2 ⟨a1, c1', a2, c2, rfl, SL0, SA0, B4, FL, FA⟩
    clear d0 d1 d2 d3 d4 d5 d6 d7 d8 d9 d10 d11 d12 d13 d14 CD
    have HZ2 := Lib.hid ((B4.block _ (blk_lt HZ1.out)).trans HZ1.out)
    have HB2 := Lib.hid (HB1.out.trans (B4.mono HB1.out.size))
    have bs := blk_lt HZ1.out
    have hs1 := HB1.out.size
    simp only [lsaE, atL]
    obtain ⟨W', hW'⟩ : ∃ W', setLsa w2 (w.heap.size + 1) ⟨xtyp, xid, xlen, xrouter, xseq, xage, xsum, xborder, xboundary, a1, xln, c1', a2, xan, c2, xcost, xsecond, xfwd, xtag⟩ = W' := ⟨_, rfl⟩
    have bk' : W'.heap[w.heap.size + 1]? = some (.cells #[.int .i64 xtyp, .int .u32 xid, .int .i64 xlen, .int .u32 xrouter, .int .i64 xseq, .int .i64 xage, .int .i64 xsum, .bool xborder, .bool xboundary, .slice a1 xln c1', .slice a2 xan c2, .int .i64 xcost, .bool xsecond, .int .u32 xfwd, .int .i64 xtag] 42 (0, 0)) := by rw [← hW']; exact setLsa_blk HZ2.out _
    have BW' : Below w.heap.size w W' := by rw [← hW']; exact setLsa_below HB2.out (Nat.le_add_right _ _) _
    have BN : w2.grownBy W' (some (w.heap.size + 1)) := by rw [← hW']; exact setLsa_grown _ _ _
    have SL : LnksAt W' (.slice a1 xln c1') lk := SL0.far FL bs BN
    have SA : WordsAt W' (.slice a2 xan c2) att := SA0.far FA bs BN
    have FIN : Hid (LgPost w db ⟨t, id, len, r⟩ (.returned (.tuple #[.agg #[.int .i64 xtyp, .int .u32 xid, .int .i64 xlen, .int .u32 xrouter, .int .i64 xseq, .int .i64 xage, .int .i64 xsum, .bool xborder, .bool xboundary, .slice a1 xln c1', .slice a2 xan c2, .int .i64 xcost, .bool xsecond, .int .u32 xfwd, .int .i64 xtag], .bool true])) W') := Lib.hid (.inr ⟨_, MEM.out, HK.out, a1, c1', a2, c2, rfl, SL, SA, BW', FL.mono hs1, FA.mono hs1⟩)
    unfold setLsa at hW'
    simp only at hW'
    have HW' := Lib.hid hW'
    obtain ⟨⟨⟨z0, z1, z2, z3, z4⟩, ⟨z5, z6, z7, z8, z9⟩, ⟨z10, z11, z12, z13, z14⟩⟩, hfz⟩ := blk15 HZ2.out
    have zf0 := hfz 0
    have zf1 := hfz 1
    have zf2 := hfz 2
    have zf3 := hfz 3
    have zf4 := hfz 4
    have zf5 := hfz 5
    have zf6 := hfz 6
    have zf7 := hfz 7
    have zf8 := hfz 8
    have zf9 := hfz 9
    have zf10 := hfz 10
    have zf11 := hfz 11
    have zf12 := hfz 12
    have zf13 := hfz 13
    have zf14 := hfz 14
    obtain ⟨⟨⟨g0, g1, g2, g3, g4⟩, ⟨g5, g6, g7, g8, g9⟩, ⟨g10, g11, g12, g13, g14⟩⟩, -⟩ := blk15 bk'
    have G := Lib.hid (And.intro g0 (And.intro g1 (And.intro g2 (And.intro g3 (And.intro g4 (And.intro g5 (And.intro g6 (And.intro g7 (And.intro g8 (And.intro g9 (And.intro g10 (And.intro g11 (And.intro g12 (And.intro g13 g14))))))))))))))
    clear hW' bk' BW' BN hfz g0 g1 g2 g3 g4 g5 g6 g7 g8 g9 g10 g11 g12 g13 g14 SL SA SL0 SA0 B4 FL FA bs hs1
    go_wp2_with fail
    rw [HW'.out]
    obtain ⟨g0, g1, g2, g3, g4, g5, g6, g7, g8, g9, g10, g11, g12, g13, g14⟩ := G.out
    exact bodyPost_ret (v := .tuple #[.agg #[.int .i64 xtyp, .int .u32 xid, .int .i64 xlen, .int .u32 xrouter, .int .i64 xseq, .int .i64 xage, .int .i64 xsum, .bool xborder, .bool xboundary, .slice a1 xln c1', .slice a2 xan c2, .int .i64 xcost, .bool xsecond, .int .u32 xfwd, .int .i64 xtag], .bool true]) (by simp [results, Tryz.results52, go_sem, g0, g1, g2, g3, g4, g5, g6, g7, g8, g9, g10, g11, g12, g13, g14]) rfl FIN.out

end Go.Proofs.YtddageahmgaigaaGreat

namespace Go.Proofs.YtddageahmgaigaaGreat
open Go.RowKit

def NxSeal (w : World) (y : Lsa) (lk : List Lnk) (att : List Int) (e : Ending) (w' : World) : Prop := ∃ c, LsaIs y lk att c ∧
  ((c ≠ 0 ∧ e = .returned (.tuple #[.agg (lsaE lsaZ).toArray, .bool false, .int .i64 c]) ∧ Below w.heap.size w w') ∨
   (c = 0 ∧ ∃ la lc aa ac, e = .returned (.tuple #[.agg (lsaE (atL { y with sum := sumD ⟨y, lk, att⟩ } la lc aa ac)).toArray, .bool true, .int .i64 0]) ∧ LnksAt w' (.slice la y.ln lc) lk ∧ WordsAt w' (.slice aa y.an ac) att ∧ Below w.heap.size w w' ∧ Fr w.heap.size (.slice la y.ln lc) ∧ Fr w.heap.size (.slice aa y.an ac)))

def FdIs (db : List LsaD) (x : Lsa) (fd : Option LsaD) : Prop := (fd = none ∧ ∀ d ∈ db, lkOf d.x ≠ lkOf x) ∨ ∃ d, d ∈ db ∧ fd = some d ∧ lkOf d.x = lkOf x

def NxPost (w : World) (fd : Option LsaD) (x : Lsa) (lk : List Lnk) (att : List Int) (e : Ending) (w' : World) : Prop :=
  ((∃ d, fd = some d ∧ SameB d.x x d.lk lk d.att att ∧ d.x.age < 1800) ∧ e = .returned (.tuple #[.agg (lsaE lsaZ).toArray, .bool false, .int .i64 0]) ∧ Below w.heap.size w w') ∨
  ((∀ d, fd = some d → ¬ (SameB d.x x d.lk lk d.att att ∧ d.x.age < 1800)) ∧
    (((∃ d, fd = some d ∧ 2147483647 ≤ d.x.seq) ∧ e = .returned (.tuple #[.agg (lsaE lsaZ).toArray, .bool false, .int .i64 8]) ∧ Below w.heap.size w w') ∨
     ((∀ d, fd = some d → d.x.seq < 2147483647) ∧ NxSeal w { x with seq := (fd.map fun d => d.x.seq + 1).getD 1, age := 0, sum := 0 } lk att e w')))

end Go.Proofs.YtddageahmgaigaaGreat
