import Derived.Test.YtddageahmgaigaaGreatPlp
import Derived.Test.YtddageahmgaigaaGreatRsb
import Derived.BigQuiet
namespace Go.Proofs.YtddageahmgaigaaGreat
open Go.RowKit

theorem nrm_atL {a b : LsaD} (h : nrm a = nrm b) : b.x = atL a.x b.x.la b.x.lc b.x.aa b.x.ac ∧ b.lk = a.lk ∧ b.att = a.att := by
  have h1 : atL a.x none 0 none 0 = atL b.x none 0 none 0 := congrArg (fun z : LsaD => z.x) h
  have h2 : a.lk = b.lk := (congrArg LsaD.lk h : (nrm a).lk = (nrm b).lk)
  have h3 : a.att = b.att := (congrArg LsaD.att h : (nrm a).att = (nrm b).att)
  refine ⟨?_, h2.symm, h3.symm⟩
  obtain ⟨⟨xtyp, xid, xlen, xrouter, xseq, xage, xsum, xborder, xboundary, xla, xln, xlc, xaa, xan, xac, xcost, xsecond, xfwd, xtag⟩, lk, att⟩ := a
  obtain ⟨⟨ytyp, yid, ylen, yrouter, yseq, yage, ysum, yborder, yboundary, yla, yln, ylc, yaa, yan, yac, ycost, ysecond, yfwd, ytag⟩, lk', att'⟩ := b
  simp only [atL, Lsa.mk.injEq] at h1 ⊢
  obtain ⟨h0, h1, h2, h3, h4, h5, h6, h7, h8, -, h10, -, -, h13, -, h15, h16, h17, h18⟩ := h1
  exact ⟨h0.symm, h1.symm, h2.symm, h3.symm, h4.symm, h5.symm, h6.symm, h7.symm, h8.symm, trivial, h10.symm, trivial, trivial, h13.symm, trivial, h15.symm, h16.symm, h17.symm, h18.symm⟩
theorem sameB_atL (Y : Lsa) (la lc aa ac) (lk : List Lnk) (att : List Int) : decide (SameH Y (atL Y la lc aa ac) ∧ SameB Y (atL Y la lc aa ac) lk lk att att) = true :=
  decide_eq_true ⟨⟨rfl, rfl, rfl, rfl, rfl, rfl, rfl⟩, rfl, rfl, rfl, rfl, rfl, rfl, rfl, rfl, rfl⟩

set_option maxHeartbeats 16000000 in
set_option maxRecDepth 100000 in
theorem equalD_calls (w : World) (v1 v2 : Value) (xs ys : List LsaD) (h1 : DRow w v1 xs) (h2 : DRow w v2 ys) (h : xs.map nrm = ys.map nrm) : Calls Tryz.prog 24 #[v1, v2] w fun e w' => e = .returned (.bool true) ∧ Gr w w' := by
  have hl : ys.length = xs.length := by have := congrArg List.length h; simpa using this.symm
  obtain ⟨a1, c1, rfl, hlen, hc1⟩ := h1.row.get
  obtain ⟨a2, c2, rfl, -, hc2⟩ := h2.row.get
  rw [List.length_map] at hlen
  have HC1 := Lib.hid (fun k (ck : k < xs.length) => (by
    obtain ⟨b, off, ea, hb, hcc⟩ := hc1 (by rw [List.length_map]; omega)
    have h := hcc k (by rw [List.length_map]; exact ck)
    rw [List.getElem_map] at h
    exact ⟨b, off, ea, hb, h⟩ : ∃ b off, a1 = some ⟨b, off, none⟩ ∧ b < w.heap.size ∧ LsaCells w b (off + k * 15) xs[k].x))
  have HC2 := Lib.hid (fun k (ck : k < xs.length) => (by
    obtain ⟨b, off, ea, hb, hcc⟩ := hc2 (by rw [List.length_map]; omega)
    have h := hcc k (by rw [List.length_map, hl]; exact ck)
    rw [List.getElem_map] at h
    exact ⟨b, off, ea, hb, h⟩ : ∃ b off, a2 = some ⟨b, off, none⟩ ∧ b < w.heap.size ∧ LsaCells w b (off + k * 15) (ys[k]'(by rw [hl]; exact ck)).x))
  have EN := Lib.hid (fun k (ck : k < xs.length) => (by
    have e : (xs.map nrm)[k]'(by rw [List.length_map]; exact ck) = (ys.map nrm)[k]'(by rw [List.length_map, hl]; exact ck) := by simp only [h]
    rw [List.getElem_map, List.getElem_map] at e
    exact e : nrm xs[k] = nrm (ys[k]'(by rw [hl]; exact ck))))
  have SC := Lib.hid (fun k (ck : k < xs.length) W (hb : Below w.heap.size w W) => (by
    have m1 := h1.deep _ (List.getElem_mem ck)
    have m2 := h2.deep _ (List.getElem_mem (show k < ys.length by rw [hl]; exact ck))
    obtain ⟨e1, e2, e3⟩ := nrm_atL (EN.out k ck)
    have hc := rsame_calls xs[k].x (ys[k]'(by rw [hl]; exact ck)).x xs[k].lk (ys[k]'(by rw [hl]; exact ck)).lk xs[k].att (ys[k]'(by rw [hl]; exact ck)).att W (m1.1.below hb) (m2.1.below hb) (m1.2.below hb) (m2.2.below hb)
    rw [e2, e3] at hc
    have e4 : decide (SameH xs[k].x (ys[k]'(by rw [hl]; exact ck)).x ∧ SameB xs[k].x (ys[k]'(by rw [hl]; exact ck)).x xs[k].lk xs[k].lk xs[k].att xs[k].att) = true := by
      rw [e1]; exact sameB_atL _ _ _ _ _ _ _
    rw [e4] at hc
    exact hc : Calls Tryz.prog 13 #[.agg (lsaE xs[k].x).toArray, .agg (lsaE (ys[k]'(by rw [hl]; exact ck)).x).toArray] W (EqPost W true)))
  have EY := Lib.hid (fun k (ck : k < xs.length) => (nrm_atL (EN.out k ck)).1)
  have HL := Lib.hid hl
  have mixed : Tryz.prog.follows .mixedOrders = true := by kernel_rfl
  rw [List.length_map, List.length_map, hl]
  obtain ⟨nv, hnv⟩ : ∃ nv, xs.length = nv := ⟨_, rfl⟩
  have NV := Lib.hid hnv
  rw [hnv] at hlen ⊢
  clear h1 h2 hc1 hc2 EN h hnv
  go_enter Tryz.func24, Tryz.ntmps24
  go_wp2_with fail
  go_loopw [5] (fun i wr => ∃ k : Nat, i = .int .i64 k ∧ k ≤ nv ∧ Hid (Gr w wr)) (fun i _ => nv - (intOf i).toNat)
  case atStart => exact ⟨0, rfl, Nat.zero_le _, Lib.hid (Gr.refl _)⟩
  case round =>
    obtain ⟨k, rfl, hk, R⟩ := hrel
    by_cases c : k < nv
    · have ck : k < xs.length := by rw [NV.out]; exact c
      obtain ⟨b1, o1, rfl, hb1, hcc1⟩ := HC1.out k ck
      obtain ⟨b2, o2, rfl, hb2, hcc2⟩ := HC2.out k ck
      have f1 := hcc1.below R.out.b hb1
      have f2 := hcc2.below R.out.b hb2
      have SC2 := Lib.hid (fun n os => (SC.out k ck (Go.Sort.grow (wr.drewN n) os) (R.out.b.trans ((Gr.of_grow n os).b.mono R.out.b.size))).mono fun _ _ h => (⟨h.1, h.2.grow⟩ : _ ∧ ∃ q os', _ = Go.Sort.grow (World.drewN _ q) os'))
      have NX : Hid (∀ n os, Gr w (Go.Sort.grow (wr.drewN n) os)) := Lib.hid (fun n os => R.out.trans (Gr.of_grow n os))
      have KC := Lib.hid c
      have i0 : (0 : Int) ≤ (k : Int) := by omega
      have i1 : (k : Int) < (nv : Int) := by omega
      have s3 : ((k : Int)).toNat = k := by omega
      have ey := EY.out k ck
      generalize (ys[k]'(by rw [hl]; exact ck)).x = y at *
      generalize xs[k].x = x at *
      clear hcc1 hcc2 R ck c
      generalize y.la = yla at *
      generalize y.lc = ylc at *
      generalize y.aa = yaa at *
      generalize y.ac = yac at *
      subst ey
      obtain ⟨xtyp, xid, xlen, xrouter, xseq, xage, xsum, xborder, xboundary, xla, xln, xlc, xaa, xan, xac, xcost, xsecond, xfwd, xtag⟩ := x
      obtain ⟨⟨d0, d1, d2, d3, d4⟩, ⟨d5, d6, d7, d8, d9⟩, ⟨d10, d11, d12, d13, d14⟩⟩ := f1
      obtain ⟨⟨e0, e1, e2, e3, e4⟩, ⟨e5, e6, e7, e8, e9⟩, ⟨e10, e11, e12, e13, e14⟩⟩ := f2
      simp only [lsaE, atL] at SC2
      simp only [atL] at d0 d1 d2 d3 d4 d5 d6 d7 d8 d9 d10 d11 d12 d13 d14 e0 e1 e2 e3 e4 e5 e6 e7 e8 e9 e10 e11 e12 e13 e14
      have p0 : ∀ n os, (Go.Sort.grow (wr.drewN n) os).cell? ⟨b1, o1 + k * 15, none⟩ = some (.int .i64 xtyp) := cell_grown (World.block_lt_of_cell? _ _ d0) d0
      have p1 : ∀ n os, (Go.Sort.grow (wr.drewN n) os).cell? ⟨b1, o1 + k * 15 + 1, none⟩ = some (.int .u32 xid) := cell_grown (World.block_lt_of_cell? _ _ d1) d1
      have p2 : ∀ n os, (Go.Sort.grow (wr.drewN n) os).cell? ⟨b1, o1 + k * 15 + 2, none⟩ = some (.int .i64 xlen) := cell_grown (World.block_lt_of_cell? _ _ d2) d2
      have p3 : ∀ n os, (Go.Sort.grow (wr.drewN n) os).cell? ⟨b1, o1 + k * 15 + 3, none⟩ = some (.int .u32 xrouter) := cell_grown (World.block_lt_of_cell? _ _ d3) d3
      have p4 : ∀ n os, (Go.Sort.grow (wr.drewN n) os).cell? ⟨b1, o1 + k * 15 + 4, none⟩ = some (.int .i64 xseq) := cell_grown (World.block_lt_of_cell? _ _ d4) d4
      have p5 : ∀ n os, (Go.Sort.grow (wr.drewN n) os).cell? ⟨b1, o1 + k * 15 + 5, none⟩ = some (.int .i64 xage) := cell_grown (World.block_lt_of_cell? _ _ d5) d5
      have p6 : ∀ n os, (Go.Sort.grow (wr.drewN n) os).cell? ⟨b1, o1 + k * 15 + 6, none⟩ = some (.int .i64 xsum) := cell_grown (World.block_lt_of_cell? _ _ d6) d6
      have p7 : ∀ n os, (Go.Sort.grow (wr.drewN n) os).cell? ⟨b1, o1 + k * 15 + 7, none⟩ = some (.bool xborder) := cell_grown (World.block_lt_of_cell? _ _ d7) d7
      have p8 : ∀ n os, (Go.Sort.grow (wr.drewN n) os).cell? ⟨b1, o1 + k * 15 + 8, none⟩ = some (.bool xboundary) := cell_grown (World.block_lt_of_cell? _ _ d8) d8
      have p9 : ∀ n os, (Go.Sort.grow (wr.drewN n) os).cell? ⟨b1, o1 + k * 15 + 9, none⟩ = some (.slice xla xln xlc) := cell_grown (World.block_lt_of_cell? _ _ d9) d9
      have p10 : ∀ n os, (Go.Sort.grow (wr.drewN n) os).cell? ⟨b1, o1 + k * 15 + 10, none⟩ = some (.slice xaa xan xac) := cell_grown (World.block_lt_of_cell? _ _ d10) d10
      have p11 : ∀ n os, (Go.Sort.grow (wr.drewN n) os).cell? ⟨b1, o1 + k * 15 + 11, none⟩ = some (.int .i64 xcost) := cell_grown (World.block_lt_of_cell? _ _ d11) d11
      have p12 : ∀ n os, (Go.Sort.grow (wr.drewN n) os).cell? ⟨b1, o1 + k * 15 + 12, none⟩ = some (.bool xsecond) := cell_grown (World.block_lt_of_cell? _ _ d12) d12
      have p13 : ∀ n os, (Go.Sort.grow (wr.drewN n) os).cell? ⟨b1, o1 + k * 15 + 13, none⟩ = some (.int .u32 xfwd) := cell_grown (World.block_lt_of_cell? _ _ d13) d13
      have p14 : ∀ n os, (Go.Sort.grow (wr.drewN n) os).cell? ⟨b1, o1 + k * 15 + 14, none⟩ = some (.int .i64 xtag) := cell_grown (World.block_lt_of_cell? _ _ d14) d14
      have q0 : ∀ n os, (Go.Sort.grow (wr.drewN n) os).cell? ⟨b2, o2 + k * 15, none⟩ = some (.int .i64 xtyp) := cell_grown (World.block_lt_of_cell? _ _ e0) e0
      have q1 : ∀ n os, (Go.Sort.grow (wr.drewN n) os).cell? ⟨b2, o2 + k * 15 + 1, none⟩ = some (.int .u32 xid) := cell_grown (World.block_lt_of_cell? _ _ e1) e1
      have q2 : ∀ n os, (Go.Sort.grow (wr.drewN n) os).cell? ⟨b2, o2 + k * 15 + 2, none⟩ = some (.int .i64 xlen) := cell_grown (World.block_lt_of_cell? _ _ e2) e2
      have q3 : ∀ n os, (Go.Sort.grow (wr.drewN n) os).cell? ⟨b2, o2 + k * 15 + 3, none⟩ = some (.int .u32 xrouter) := cell_grown (World.block_lt_of_cell? _ _ e3) e3
      have q4 : ∀ n os, (Go.Sort.grow (wr.drewN n) os).cell? ⟨b2, o2 + k * 15 + 4, none⟩ = some (.int .i64 xseq) := cell_grown (World.block_lt_of_cell? _ _ e4) e4
      have q5 : ∀ n os, (Go.Sort.grow (wr.drewN n) os).cell? ⟨b2, o2 + k * 15 + 5, none⟩ = some (.int .i64 xage) := cell_grown (World.block_lt_of_cell? _ _ e5) e5
      have q6 : ∀ n os, (Go.Sort.grow (wr.drewN n) os).cell? ⟨b2, o2 + k * 15 + 6, none⟩ = some (.int .i64 xsum) := cell_grown (World.block_lt_of_cell? _ _ e6) e6
      have q7 : ∀ n os, (Go.Sort.grow (wr.drewN n) os).cell? ⟨b2, o2 + k * 15 + 7, none⟩ = some (.bool xborder) := cell_grown (World.block_lt_of_cell? _ _ e7) e7
      have q8 : ∀ n os, (Go.Sort.grow (wr.drewN n) os).cell? ⟨b2, o2 + k * 15 + 8, none⟩ = some (.bool xboundary) := cell_grown (World.block_lt_of_cell? _ _ e8) e8
      have q9 : ∀ n os, (Go.Sort.grow (wr.drewN n) os).cell? ⟨b2, o2 + k * 15 + 9, none⟩ = some (.slice yla xln ylc) := cell_grown (World.block_lt_of_cell? _ _ e9) e9
      have q10 : ∀ n os, (Go.Sort.grow (wr.drewN n) os).cell? ⟨b2, o2 + k * 15 + 10, none⟩ = some (.slice yaa xan yac) := cell_grown (World.block_lt_of_cell? _ _ e10) e10
      have q11 : ∀ n os, (Go.Sort.grow (wr.drewN n) os).cell? ⟨b2, o2 + k * 15 + 11, none⟩ = some (.int .i64 xcost) := cell_grown (World.block_lt_of_cell? _ _ e11) e11
      have q12 : ∀ n os, (Go.Sort.grow (wr.drewN n) os).cell? ⟨b2, o2 + k * 15 + 12, none⟩ = some (.bool xsecond) := cell_grown (World.block_lt_of_cell? _ _ e12) e12
      have q13 : ∀ n os, (Go.Sort.grow (wr.drewN n) os).cell? ⟨b2, o2 + k * 15 + 13, none⟩ = some (.int .u32 xfwd) := cell_grown (World.block_lt_of_cell? _ _ e13) e13
      have q14 : ∀ n os, (Go.Sort.grow (wr.drewN n) os).cell? ⟨b2, o2 + k * 15 + 14, none⟩ = some (.int .i64 xtag) := cell_grown (World.block_lt_of_cell? _ _ e14) e14
      clear d0 d1 d2 d3 d4 d5 d6 d7 d8 d9 d10 d11 d12 d13 d14 e0 e1 e2 e3 e4 e5 e6 e7 e8 e9 e10 e11 e12 e13 e14
      go_wp2_with fail
      refine wp_region_quiet_grown (by assumption) (by kernel_rfl) ?_
      repeat (go_big_quiet_step ((go_at_call 13; with_reducible exact Calls.grown_of (SC2.out _ _))))
      refine wpQuiet_nil ?_
      intro _ hw'
      obtain ⟨⟨nq, osq⟩, hw''⟩ := hw'
      subst hw''
      have NXz := Lib.hid (NX.out nq osq)
      clear SC2 p0 p1 p2 p3 p4 p5 p6 p7 p8 p9 p10 p11 p12 p13 p14 q0 q1 q2 q3 q4 q5 q6 q7 q8 q9 q10 q11 q12 q13 q14
      go_wp2_with fail
      go_roundw
      case rel => exact ⟨k + 1, by go_num, KC.out, NXz⟩
      case measure => simp [intOf]; have := KC.out; omega
    · have FIN := Lib.hid R.out
      clear R
      go_wp2_with fail
      go_ret
      exact ⟨rfl, FIN.out⟩

end Go.Proofs.YtddageahmgaigaaGreat
