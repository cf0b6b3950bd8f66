/-
  inter.offers walked, for Routes.
-/
import Derived.Test.YtogdconliofblaaGreatOfs
import Derived.Deep.DeepCutAuto
namespace Go.Proofs.YtogdconliofblaaGreat
open Go.RowKit

theorem SlV.grown {k : Nat} {w w' : World} {v : Value} {css : List (List Value)} {mb : Nat} (h : SlV k w v css) (hm : ∀ o v, w.cell? ⟨mb, o, none⟩ ≠ some v) (hg : w.grownBy w' (some mb)) : SlV k w' v css := by
  obtain ⟨a, cap, rfl, h1, h2, hn, h3⟩ := h
  refine ⟨a, cap, rfl, h1, h2, hn, fun h0 => ?_⟩
  obtain ⟨b, off, rfl, h4, h5⟩ := h3 h0
  refine ⟨b, off, rfl, Nat.lt_of_lt_of_le h4 hg.size, fun i h j u hu => ?_⟩
  have hc := h5 i h j u hu
  have hne : b ≠ mb := by rintro rfl; exact hm _ _ hc
  exact hg.cell hc (by simpa using hne)
theorem ReachAt.grown {w w' : World} {v : Value} {l : List Rch} {mb : Nat} (h : ReachAt w v l) (hm : ∀ o v, w.cell? ⟨mb, o, none⟩ ≠ some v) (hg : w.grownBy w' (some mb)) : ReachAt w' v l :=
  ⟨h.sl.grown hm hg, fun x hx => (h.hops x hx).grown hm hg⟩
theorem LsasAt.grown {w w' : World} {v : Value} {l : List Lsa} {mb : Nat} (h : LsasAt w v l) (hm : ∀ o v, w.cell? ⟨mb, o, none⟩ ≠ some v) (hg : w.grownBy w' (some mb)) : LsasAt w' v l := SlV.grown h hm hg

theorem hopsNil (w : World) : HopsAt w (.slice none 0 0) [] := ⟨none, 0, rfl, by simp, by simp, fun _ => rfl, fun h => by simp at h⟩

/-- behind k advertisements -/
structure OfR (w : World) (area router : Int) (reach : List Rch) (db : List Lsa) (da : Option Addr) (dc : Nat) (mb ab n0 k : Nat) (wr : World) : Prop where
  hk : k ≤ db.length
  tab : ∃ f, ObAt 55 pfxOk pfxLit wr mb (n0 + k) (ofK area router reach db k) f
  bx : wr.heap[w.heap.size]? = some (.cells #[.int .u32 area, .slice da db.length dc] 36 (0, 0))
  ad : wr.heap[ab]? = some (.cells #[addV mb] 95 (0, 0))
  gr : w.grownBy wr (some mb)
  hm : mb < w.heap.size
theorem OfR.grow {w : World} {area router : Int} {reach : List Rch} {db : List Lsa} {da : Option Addr} {dc mb ab n0 k : Nat} {wr W' : World} (R : OfR w area router reach db da dc mb ab n0 k wr) (g : Below wr.heap.size wr W') : OfR w area router reach db da dc mb ab n0 k W' := by
  obtain ⟨f, hf⟩ := R.tab
  exact ⟨R.hk, ⟨f, hf.grow g⟩, (g.block _ (blk_lt R.bx)).trans R.bx, (g.block _ (blk_lt R.ad)).trans R.ad, R.gr.andThen (grown_of_below g none) (fun j hj => by cases hj), R.hm⟩
theorem OfR.skip {w : World} {area router : Int} {reach : List Rch} {db : List Lsa} {da : Option Addr} {dc mb ab n0 k : Nat} {wr W' : World} (R : OfR w area router reach db da dc mb ab n0 k wr) (c : k < db.length) (h : inK 3 router db[k] = false ∨ wayF area db[k].router reach = none) (g : Below wr.heap.size wr W') : OfR w area router reach db da dc mb ab n0 (k + 1) W' := by
  have R' := R.grow g
  obtain ⟨f, hf⟩ := R'.tab
  have e : ofK area router reach db (k + 1) = ofK area router reach db k := by
    rw [ofK_succ _ _ _ _ c]
    unfold ofStep
    rcases h with h | h
    · rw [h]; rfl
    · rw [h]; simp
  exact ⟨c, ⟨f, by rw [e]; exact hf.mono (by omega)⟩, R'.bx, R'.ad, R'.gr, R'.hm⟩
theorem OfR.take {w : World} {area router : Int} {reach : List Rch} {db : List Lsa} {da : Option Addr} {dc mb ab n0 k : Nat} {wr W' w6 : World} (R : OfR w area router reach db da dc mb ab n0 k wr) (c : k < db.length) (h : inK 3 router db[k] = true) {y : Rch} (hy : wayF area db[k].router reach = some y) (g : Below wr.heap.size wr W')
    (hab : ab ≠ mb) (P : AddPost W' mb (n0 + k) (ofK area router reach db k) (lsaPfx db[k]) (ofO db[k] y) (.returned (.tuple #[])) w6) : OfR w area router reach db da dc mb ab n0 (k + 1) w6 := by
  have R' := R.grow g
  have hm := R.hm
  obtain ⟨-, ⟨f', T⟩, G⟩ := P
  have e : ofK area router reach db (k + 1) = tbAdd (ofK area router reach db k) (lsaPfx db[k]) (ofO db[k] y) := by
    rw [ofK_succ _ _ _ _ c]; unfold ofStep; rw [if_pos h, hy]
  exact ⟨c, ⟨f', by rw [e]; exact T⟩, (G.block _ (blk_lt R'.bx) (by simp; omega)).trans R'.bx, (G.block _ (blk_lt R'.ad) (by simpa using hab)).trans R'.ad, R'.gr.andThen G (fun j hj => .inr hj.symm.symm), hm⟩

theorem room6 {a b c k n M : Nat} (h1 : a ≤ k * M) (h2 : b ≤ c + 0) (h3 : c ≤ M) (h4 : (n + 2) * M * 16 ≤ 140737488355328) (hk : k < n) : (a + b) * 16 ≤ 140737488355328 := by
  have h5 : (k + 1) * M ≤ (n + 2) * M := Nat.mul_le_mul_right M (by omega)
  have h6 : (k + 1) * M = k * M + M := Nat.succ_mul k M
  have h7 : a + b ≤ (n + 2) * M := by
    rw [h6] at h5
    refine Nat.le_trans ?_ h5
    exact Nat.add_le_add h1 (by omega)
  exact Nat.le_trans (Nat.mul_le_mul_right 16 h7) h4

set_option maxHeartbeats 16000000 in
set_option maxRecDepth 100000 in
theorem offers_calls (w : World) (area router : Int) (reach : List Rch) (db : List Lsa) (vd vr : Value) (hd : LsasAt w vd db) (hr : ReachAt w vr reach) (mb ab n0 : Nat) (hab : ab ≠ mb)
    (T : ∃ f, ObAt 55 pfxOk pfxLit w mb n0 (fun _ => none) f) (had : w.heap[ab]? = some (.cells #[addV mb] 95 (0, 0)))
    (okl : ∀ x ∈ db, OkL x) (len : ∀ x ∈ db, x.typ = 3 → 0 ≤ x.len ∧ x.len ≤ 32) (cost : ∀ x ∈ db, x.typ = 3 → 0 ≤ x.cost ∧ x.cost ≤ 16777216) (rc : ∀ y ∈ reach, costFine y.cost) (hN : (db.length + 2) * hopSum reach * 16 ≤ 140737488355328) (n1 : db.length ≤ 2000) (n2 : n0 ≤ 1000) :
    Calls Tryz.prog 47 #[.agg #[.int .u32 area, vd], .int .i64 3, .int .u32 router, vr, .func (.func 48) #[] #[.pointer (some ⟨ab, 0, none⟩)]] w fun e w' => e = .returned (.tuple #[]) ∧ (∃ f, ObAt 55 pfxOk pfxLit w' mb (n0 + db.length) (ofK area router reach db db.length) f) ∧ w.grownBy w' (some mb) := by
  obtain ⟨da, dc, rfl, hl1, hdc⟩ := hd.get
  obtain ⟨ra, rcap, rfl, hl2, -⟩ := hr.get
  have HDC := Lib.hid hdc
  obtain ⟨WA, hWA⟩ : ∃ WA, w.alloc (.cells #[.int .u32 area, .slice da db.length dc] 36) = WA := ⟨_, rfl⟩
  have BA : Below w.heap.size w WA := by rw [← hWA]; exact (Below.refl _ _).alloc (Nat.le_refl _) _
  have bA : WA.heap[w.heap.size]? = some (.cells #[.int .u32 area, .slice da db.length dc] 36 (0, 0)) := by rw [← hWA]; exact alloc_new w _
  have NC : Hid (∀ o v, w.cell? ⟨mb, o, none⟩ ≠ some v) := Lib.hid (by obtain ⟨f, hf⟩ := T; exact fun o v => hf.map.noCell o v)
  have ST : Hid (OfR w area router reach db da dc mb ab n0 0 WA) := Lib.hid (by
    obtain ⟨f, hf⟩ := T
    exact ⟨Nat.zero_le _, ⟨f, hf.grow BA⟩, bA, (BA.block _ (blk_lt had)).trans had, grown_of_below BA _, hf.map.lt⟩)
  have y1 := blk_cell (i := 1) bA rfl
  have HWA := Lib.hid hWA
  have WY := Lib.hid (fun W (G : w.grownBy W (some mb)) (hcells : ReachAt W (.slice ra reach.length rcap) reach) r => way_calls W _ reach hcells area r)
  have FIN := Lib.hid (fun (k : Nat) (wr : World) (hk : ¬ k < db.length) (R : OfR w area router reach db da dc mb ab n0 k wr) => (by
    have ek : k = db.length := by have := R.hk; omega
    subst ek
    exact ⟨rfl, R.tab, R.gr⟩ : (.returned (.tuple #[]) : Ending) = .returned (.tuple #[]) ∧ (∃ f, ObAt 55 pfxOk pfxLit wr mb (n0 + db.length) (ofK area router reach db db.length) f) ∧ w.grownBy wr (some mb)))
  have mixed : Tryz.prog.follows .mixedOrders = true := by kernel_rfl
  have HOK := Lib.hid okl
  have HLEN := Lib.hid len
  have HCO := Lib.hid cost
  have HRC := Lib.hid rc
  have HHN := Lib.hid hN
  have HDB := Lib.hid hd
  have HRE := Lib.hid hr
  have HAB := Lib.hid hab
  have HN1 := Lib.hid n1
  have HN2 := Lib.hid n2
  clear hWA BA bA T had okl len cost rc hN hd hr hdc
  go_enter Tryz.func47, Tryz.ntmps47
  go_upto_region 1 with fail
  rw [HWA.out]
  clear HWA
  go_wp2_with fail
  clear y1
  go_loopw [17] (fun ix wr => ∃ k : Nat, ix = .int .i64 k ∧ Hid (OfR w area router reach db da dc mb ab n0 k wr)) (fun ix _ => db.length - (intOf ix).toNat)
  case atStart => exact ⟨0, rfl, ST⟩
  case round =>
    clear ST
    obtain ⟨k, rfl, R⟩ := hrel
    have hk := R.out.hk
    by_cases c : k < db.length
    · --BODY
      obtain ⟨WO, eWO⟩ : ∃ x, x = wr := ⟨_, rfl⟩
      subst eWO
      have REA := Lib.hid (HRE.out.grown NC.out R.out.gr)
      obtain ⟨a', c', e', -, hc'⟩ := (HDB.out.grown NC.out R.out.gr).get
      cases e'
      obtain ⟨bb, off, rfl, hbb, hcc⟩ := hc' (by omega)
      obtain ⟨⟨d0, d1, d2, d3, d4⟩, ⟨d5, d6, d7, d8, d9⟩, ⟨d10, d11, d12, d13, d14⟩⟩ := hcc k c
      have OKX := Lib.hid (HOK.out db[k] (List.getElem_mem c))
      have LENX := Lib.hid (HLEN.out db[k] (List.getElem_mem c))
      have COX := Lib.hid (HCO.out db[k] (List.getElem_mem c))
      have SK := Lib.hid (fun h W' g => R.out.skip c h (W' := W') g)
      have TA := Lib.hid (fun h (y : Rch) hy W' w6 g P => R.out.take c h (y := y) hy (W' := W') (w6 := w6) g HAB.out P)
      have RG := Lib.hid (fun W' g => R.out.grow (W' := W') g)
      have KC := Lib.hid c
      have bx0 := R.out.bx
      have i0 : (0 : Int) ≤ (k : Int) := by omega
      have i1 : (k : Int) < (db.length : Int) := by omega
      have s3 : ((k : Int)).toNat = k := by omega
      clear hc' hcc R
      generalize db[k] = x at *
      clear c
      obtain ⟨xtyp, xid, xlen, xrouter, xseq, xage, xsum, xborder, xboundary, xla, xln, xlc, xaa, xan, xac, xcost, xsecond, xfwd, xtag⟩ := x
      simp only at d0 d1 d2 d3 d4 d5 d6 d7 d8 d9 d10 d11 d12 d13 d14 OKX LENX COX SK TA
      go_upto_region 4 with fail
      generalize hW1 : WO.alloc _ = W1
      have B1 : Below WO.heap.size WO W1 := by rw [← hW1]; exact (Below.refl _ _).alloc (Nat.le_refl _) _
      have b1 : W1.heap[WO.heap.size]? = some (.cells #[.int .i64 xtyp, .int .u32 xid, .int .i64 xlen, .int .u32 xrouter, .int .i64 xseq, .int .i64 xage, .int .i64 xsum, .bool xborder, .bool xboundary, .slice xla xln xlc, .slice xaa xan xac, .int .i64 xcost, .bool xsecond, .int .u32 xfwd, .int .i64 xtag] 47 (0, 0)) := by rw [← hW1]; exact alloc_new _ _
      obtain ⟨⟨⟨x0, x1, x2, x3, x4⟩, ⟨x5, x6, x7, x8, x9⟩, ⟨x10, x11, x12, x13, x14⟩⟩, -⟩ := blk15 b1
      have y0 : W1.cell? ⟨w.heap.size, 0, none⟩ = some (.int .u32 area) := blk_cell ((B1.block _ (blk_lt bx0)).trans bx0) rfl
      have HB1 := Lib.hid B1
      have BX1 := Lib.hid b1
      clear hW1 B1 b1 d0 d1 d2 d3 d4 d5 d6 d7 d8 d9 d10 d11 d12 d13 d14 bx0
      by_cases q1 : xtyp = 3
      · by_cases q2 : xage < 3600
        · by_cases q3 : xrouter = router
          · subst q1
            have e2 : decide (3600 ≤ xage) = false := by simp; omega
            have e3 : (xrouter == router) = true := by simpa using q3
            have NX := Lib.hid (SK.out (.inl (by simp [inK, q3])) W1 HB1.out)
            clear q2 q3
            clear SK TA RG REA
            go_wp2_with fail
            go_roundw
            case rel => exact ⟨k + 1, by go_num, NX⟩
            case measure => simp [intOf]; have := KC.out; omega
          · subst q1
            have e2 : decide (3600 ≤ xage) = false := by simp; omega
            have e3 : (xrouter == router) = false := by simpa using q3
            have IN : Hid (inK 3 router (⟨3, xid, xlen, xrouter, xseq, xage, xsum, xborder, xboundary, xla, xln, xlc, xaa, xan, xac, xcost, xsecond, xfwd, xtag⟩ : Lsa) = true) := Lib.hid (by simp [inK, q2, q3])
            have WC := Lib.hid (way_calls W1 _ reach (REA.out.below HB1.out) area xrouter)
            clear q2 q3
            cases hy : wayF area xrouter reach with
            | none =>
              have EW : wayR area xrouter reach = .tuple #[.agg #[.int .u32 0, .int .u32 0, .bool false, .bool false, .bool false, .int .i64 0, .slice none 0 0], .bool false] := by unfold wayR; rw [hy]; rfl
              rw [EW] at WC
              have NX := Lib.hid (fun W' g => SK.out (.inr hy) W' g)
              clear EW hy SK TA
              go_wp2_with fail
              refine WC.out.mono ?_
              rintro e w2 ⟨rfl, G2⟩
              have NY := Lib.hid (fun o => NX.out (w2.alloc o) ((HB1.out.trans (G2.b.mono HB1.out.size)).trans (((Below.refl _ _).alloc (Nat.le_refl _) o).mono (Nat.le_trans HB1.out.size G2.b.size))))
              clear G2 NX WC y0 x0 x1 x2 x3 x4 x5 x6 x7 x8 x9 x10 x11 x12 x13 x14
              go_wp2_with fail
              go_roundw
              case rel => exact ⟨k + 1, by go_num, Lib.hid (NY.out _)⟩
              case measure => simp [intOf]; have := KC.out; omega
            | some y =>
              --SOME
              have HY := Lib.hid hy
              have YM := wayF_mem hy
              have HOPS := Lib.hid ((REA.out.below HB1.out).hops y YM)
              have HL := Lib.hid (hops_le YM)
              have YC := Lib.hid (HRC.out y YM)
              have EW : wayR area xrouter reach = .tuple #[.agg (rchE y).toArray, .bool true] := by unfold wayR; rw [hy]
              have TA2 := Lib.hid (fun W' w6 g P => TA.out IN.out y hy W' w6 g P)
              clear hy YM SK TA
              obtain ⟨yr, ya, yi, yb, yo, yc, yha, yhn, yhc, yh⟩ := y
              simp only [rchE] at EW HOPS HL YC
              rw [EW] at WC
              clear EW
              go_wp2_with fail
              refine WC.out.mono ?_
              rintro e w2 ⟨rfl, G2⟩
              obtain ⟨W3, hW3⟩ : ∃ W3, w2.alloc (.cells #[.int .u32 yr, .int .u32 ya, .bool yi, .bool yb, .bool yo, .int .i64 yc, .slice yha yhn yhc] 50) = W3 := ⟨_, rfl⟩
              have B23 : Below w2.heap.size w2 W3 := by rw [← hW3]; exact (Below.refl _ _).alloc (Nat.le_refl _) _
              have B13 : Below W1.heap.size W1 W3 := G2.b.trans (B23.mono G2.b.size)
              have by3 : W3.heap[w2.heap.size]? = some (.cells #[.int .u32 yr, .int .u32 ya, .bool yi, .bool yb, .bool yo, .int .i64 yc, .slice yha yhn yhc] 50 (0, 0)) := by rw [← hW3]; exact alloc_new _ _
              have bx3 := (B13.block _ (blk_lt BX1.out)).trans BX1.out
              have m0 : W3.cell? ⟨WO.heap.size, 0, none⟩ = some (.int .i64 3) := blk_cell bx3 rfl
              have m1 : W3.cell? ⟨WO.heap.size, 1, none⟩ = some (.int .u32 xid) := blk_cell bx3 rfl
              have m2 : W3.cell? ⟨WO.heap.size, 2, none⟩ = some (.int .i64 xlen) := blk_cell bx3 rfl
              have m3 : W3.cell? ⟨WO.heap.size, 3, none⟩ = some (.int .u32 xrouter) := blk_cell bx3 rfl
              have m4 : W3.cell? ⟨WO.heap.size, 4, none⟩ = some (.int .i64 xseq) := blk_cell bx3 rfl
              have m5 : W3.cell? ⟨WO.heap.size, 5, none⟩ = some (.int .i64 xage) := blk_cell bx3 rfl
              have m6 : W3.cell? ⟨WO.heap.size, 6, none⟩ = some (.int .i64 xsum) := blk_cell bx3 rfl
              have m7 : W3.cell? ⟨WO.heap.size, 7, none⟩ = some (.bool xborder) := blk_cell bx3 rfl
              have m8 : W3.cell? ⟨WO.heap.size, 8, none⟩ = some (.bool xboundary) := blk_cell bx3 rfl
              have m9 : W3.cell? ⟨WO.heap.size, 9, none⟩ = some (.slice xla xln xlc) := blk_cell bx3 rfl
              have m10 : W3.cell? ⟨WO.heap.size, 10, none⟩ = some (.slice xaa xan xac) := blk_cell bx3 rfl
              have m11 : W3.cell? ⟨WO.heap.size, 11, none⟩ = some (.int .i64 xcost) := blk_cell bx3 rfl
              have m12 : W3.cell? ⟨WO.heap.size, 12, none⟩ = some (.bool xsecond) := blk_cell bx3 rfl
              have m13 : W3.cell? ⟨WO.heap.size, 13, none⟩ = some (.int .u32 xfwd) := blk_cell bx3 rfl
              have m14 : W3.cell? ⟨WO.heap.size, 14, none⟩ = some (.int .i64 xtag) := blk_cell bx3 rfl
              have m15 : W3.cell? ⟨w2.heap.size, 5, none⟩ = some (.int .i64 yc) := blk_cell by3 rfl
              have m16 : W3.cell? ⟨w2.heap.size, 6, none⟩ = some (.slice yha yhn yhc) := blk_cell by3 rfl
              have HB3 := Lib.hid (HB1.out.trans (B13.mono HB1.out.size))
              have HOP3 := Lib.hid (HOPS.out.below B13)
              have R3 := Lib.hid (RG.out W3 HB3.out)
              have MLT : Hid (mb < WO.heap.size) := Lib.hid (by obtain ⟨f, hf⟩ := R3.out.tab; have h1 := R3.out.hm; have h2 := (RG.out WO (Below.refl _ _)).gr.size; omega)
              have HS1 : Hid (¬ WO.heap.size = mb) := Lib.hid (by have := MLT.out; omega)
              have HS2 : Hid (¬ w2.heap.size = mb) := Lib.hid (by have := MLT.out; have := HB1.out.size; have := G2.b.size; omega)
              have c0 := (COX.out trivial).1
              have c1 := (COX.out trivial).2
              have c2 := YC.out.1
              have c3 := YC.out.2
              have wrp : IntKind.i64.wrap (yc + xcost) = yc + xcost := by
                have m0 : IntKind.i64.min = -9223372036854775808 := by decide
                have m1 : IntKind.i64.max = 9223372036854775807 := by decide
                first
                | exact WalkArith.wrap_i64 (by omega)
                | (unfold IntKind.wrap; simp [IntKind.bits, IntKind.signed]; omega)
              have HMU : Hid ((yh.length + ([] : List Ls.Hop).length) * 16 ≤ 140737488355328) := Lib.hid (by
                have h1 := HHN.out
                have h2 := HL.out
                have h3 : 1 * hopSum reach * 16 ≤ (db.length + 2) * hopSum reach * 16 := Nat.mul_le_mul_right 16 (Nat.mul_le_mul_right _ (by omega))
                simp only [List.length_nil, Nat.add_zero]
                have h4 : yh.length * 16 ≤ hopSum reach * 16 := Nat.mul_le_mul_right 16 h2
                rw [Nat.one_mul] at h3
                exact Nat.le_trans h4 (Nat.le_trans h3 h1))
              have HM := Lib.hid (fun (W : World) (hb : Below W3.heap.size W3 W) => merge_calls W (.slice yha yhn yhc) (.slice none 0 0) yh [] (HOP3.out.below hb) (hopsNil _) HMU.out)
              have RC : Hid (∀ (w5 : World) (va : Option Addr) (vn vc : Nat), Below W3.heap.size W3 w5 → HopsAt w5 (.slice va vn vc) (Ls.merge Ls.hopLt yh []) → Calls Tryz.prog 48 #[.agg (lsaE (⟨3, xid, xlen, xrouter, xseq, xage, xsum, xborder, xboundary, xla, xln, xlc, xaa, xan, xac, xcost, xsecond, xfwd, xtag⟩ : Lsa)).toArray, .agg (ofE ⟨yc + xcost, va, vn, vc, Ls.merge Ls.hopLt yh []⟩).toArray, .pointer (some ⟨ab, 0, none⟩)] w5 (AddPost w5 mb (n0 + k) (ofK area router reach db k) (lsaPfx (⟨3, xid, xlen, xrouter, xseq, xage, xsum, xborder, xboundary, xla, xln, xlc, xaa, xan, xac, xcost, xsecond, xfwd, xtag⟩ : Lsa)) (ofO (⟨3, xid, xlen, xrouter, xseq, xage, xsum, xborder, xboundary, xla, xln, xlc, xaa, xan, xac, xcost, xsecond, xfwd, xtag⟩ : Lsa) ⟨yr, ya, yi, yb, yo, yc, yha, yhn, yhc, yh⟩))) := Lib.hid (fun w5 va vn vc B5 H5 => by
                have R5 := R3.out.grow B5
                obtain ⟨f, hf⟩ := R5.tab
                refine rclo_calls w5 mb (n0 + k) _ f hf (by have := HN1.out; have := HN2.out; have := KC.out; unfold maxLen; omega) (⟨3, xid, xlen, xrouter, xseq, xage, xsum, xborder, xboundary, xla, xln, xlc, xaa, xan, xac, xcost, xsecond, xfwd, xtag⟩ : Lsa) OKX.out rfl (LENX.out trivial).1 (LENX.out trivial).2 ⟨yc + xcost, va, vn, vc, Ls.merge Ls.hopLt yh []⟩ H5 (fun p old hp => ?_) ab R5.ad
                have h1 : ofK area router reach db k p = some old.pure := by rw [← hf.val p, hp]; rfl
                have h2 : old.hops.length ≤ k * hopSum reach := ofK_len area router reach db k R5.hk p _ h1
                have h3 := Ls.merge_length_le (lt := Ls.hopLt) yh []
                exact room6 h2 h3 HL.out HHN.out KC.out)
              have KEEP : Hid (∀ w5 w6 : World, w5.grownBy w6 (some mb) → ∀ (b o : Nat) (v : Value), ¬ b = mb → w5.cell? ⟨b, o, none⟩ = some v → w6.cell? ⟨b, o, none⟩ = some v) := Lib.hid (fun w5 w6 G b o v hb h => G.cell h (by simpa using hb))
              have HW3 := Lib.hid hW3
              simp only [lsaE, ofE] at RC
              clear G2 B23 B13 by3 bx3 hW3 WC x0 x1 x2 x3 x4 x5 x6 x7 x8 x9 x10 x11 x12 x13 x14 y0 RG REA MLT
              go_upto_region 6 with fail
              rw [HW3.out]
              go_wp2_with fail
              go_region_held3 (fun W' => W'.cell? ⟨WO.heap.size, 0, none⟩ = some (.int .i64 3) ∧ W'.cell? ⟨WO.heap.size, 1, none⟩ = some (.int .u32 xid) ∧ W'.cell? ⟨WO.heap.size, 2, none⟩ = some (.int .i64 xlen) ∧ W'.cell? ⟨WO.heap.size, 3, none⟩ = some (.int .u32 xrouter) ∧ W'.cell? ⟨WO.heap.size, 4, none⟩ = some (.int .i64 xseq) ∧ W'.cell? ⟨WO.heap.size, 5, none⟩ = some (.int .i64 xage) ∧ W'.cell? ⟨WO.heap.size, 6, none⟩ = some (.int .i64 xsum) ∧ W'.cell? ⟨WO.heap.size, 7, none⟩ = some (.bool xborder) ∧ W'.cell? ⟨WO.heap.size, 8, none⟩ = some (.bool xboundary) ∧ W'.cell? ⟨WO.heap.size, 9, none⟩ = some (.slice xla xln xlc) ∧ W'.cell? ⟨WO.heap.size, 10, none⟩ = some (.slice xaa xan xac) ∧ W'.cell? ⟨WO.heap.size, 11, none⟩ = some (.int .i64 xcost) ∧ W'.cell? ⟨WO.heap.size, 12, none⟩ = some (.bool xsecond) ∧ W'.cell? ⟨WO.heap.size, 13, none⟩ = some (.int .u32 xfwd) ∧ W'.cell? ⟨WO.heap.size, 14, none⟩ = some (.int .i64 xtag) ∧ W'.cell? ⟨w2.heap.size, 5, none⟩ = some (.int .i64 yc) ∧ W'.cell? ⟨w2.heap.size, 6, none⟩ = some (.slice yha yhn yhc)) (first | with_reducible exact ⟨m0, m1, m2, m3, m4, m5, m6, m7, m8, m9, m10, m11, m12, m13, m14, m15, m16⟩ | with_reducible exact ⟨s0, s1, s2, s3, s4, s5, s6, s7, s8, s9, s10, s11, s12, s13, s14, s15, s16⟩ | with_reducible exact ⟨u0, u1, u2, u3, u4, u5, u6, u7, u8, u9, u10, u11, u12, u13, u14, u15, u16⟩ | go_keep)
                (first
                | (go_at_call 59; ((with_reducible refine (HM.out W3.drew (Below.refl _ _).drew).mono ?_)); rintro e w5 ⟨v5, rfl, O5, B5⟩; obtain ⟨va, vn, vc, rfl⟩ := O5.slice; have B5' : Below W3.heap.size W3 w5 := (Below.refl _ _).drew.trans B5; have RC5 := Lib.hid (RC.out w5 va vn vc B5' O5.at); have B5H := Lib.hid B5'; have s0 := bcell B5 m0; have s1 := bcell B5 m1; have s2 := bcell B5 m2; have s3 := bcell B5 m3; have s4 := bcell B5 m4; have s5 := bcell B5 m5; have s6 := bcell B5 m6; have s7 := bcell B5 m7; have s8 := bcell B5 m8; have s9 := bcell B5 m9; have s10 := bcell B5 m10; have s11 := bcell B5 m11; have s12 := bcell B5 m12; have s13 := bcell B5 m13; have s14 := bcell B5 m14; have s15 := bcell B5 m15; have s16 := bcell B5 m16)
                | (go_at_call 48; ((with_reducible refine (RC5.out).mono ?_)); rintro e w6 P6; have G6 := P6.2.2; have NX := Lib.hid (TA2.out w5 w6 (HB3.out.trans (B5H.out.mono HB3.out.size)) (by rw [← P6.1]; exact P6)); obtain ⟨rfl, -, -⟩ := P6; have u0 := KEEP.out w5 w6 G6 _ _ _ HS1.out s0; have u1 := KEEP.out w5 w6 G6 _ _ _ HS1.out s1; have u2 := KEEP.out w5 w6 G6 _ _ _ HS1.out s2; have u3 := KEEP.out w5 w6 G6 _ _ _ HS1.out s3; have u4 := KEEP.out w5 w6 G6 _ _ _ HS1.out s4; have u5 := KEEP.out w5 w6 G6 _ _ _ HS1.out s5; have u6 := KEEP.out w5 w6 G6 _ _ _ HS1.out s6; have u7 := KEEP.out w5 w6 G6 _ _ _ HS1.out s7; have u8 := KEEP.out w5 w6 G6 _ _ _ HS1.out s8; have u9 := KEEP.out w5 w6 G6 _ _ _ HS1.out s9; have u10 := KEEP.out w5 w6 G6 _ _ _ HS1.out s10; have u11 := KEEP.out w5 w6 G6 _ _ _ HS1.out s11; have u12 := KEEP.out w5 w6 G6 _ _ _ HS1.out s12; have u13 := KEEP.out w5 w6 G6 _ _ _ HS1.out s13; have u14 := KEEP.out w5 w6 G6 _ _ _ HS1.out s14; have u15 := KEEP.out w5 w6 G6 _ _ _ HS2.out s15; have u16 := KEEP.out w5 w6 G6 _ _ _ HS2.out s16))
              go_wp2_with fail
              go_roundw
              case rel => exact ⟨k + 1, by go_num, NX⟩
              case measure => simp [intOf]; have := KC.out; omega
        · subst q1
          have e2 : decide (3600 ≤ xage) = true := by simp; omega
          have NX := Lib.hid (SK.out (.inl (by simp [inK, q2])) W1 HB1.out)
          clear q2
          clear SK TA RG REA
          go_wp2_with fail
          go_roundw
          case rel => exact ⟨k + 1, by go_num, NX⟩
          case measure => simp [intOf]; have := KC.out; omega
      · have e1 : (xtyp != 3) = true := by simpa using q1
        have NX := Lib.hid (SK.out (.inl (by simp [inK, q1])) W1 HB1.out)
        clear q1
        clear SK TA RG REA
        go_wp2_with fail
        go_roundw
        case rel => exact ⟨k + 1, by go_num, NX⟩
        case measure => simp [intOf]; have := KC.out; omega
    · have FI := Lib.hid (FIN.out k wr c R.out)
      clear R
      go_wp2_with fail
      (try simp only [Exit.inBlock, Exit.then])
      first | go_end0 | refine bodyPost_ret (results_none rfl _ _ _) rfl ?_
      exact ⟨rfl, FI.out.2⟩

end Go.Proofs.YtogdconliofblaaGreat
