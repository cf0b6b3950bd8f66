import Derived.Test.YtddageahmgaigaaGreatOvp
import Derived.Test.YtddageahmgaigaaGreatOpl
import Derived.Test.YtddageahmgaigaaGreatLiv
import Derived.Test.YtddageahmgaigaaGreatSos
import Derived.Deep.DeepCutAuto
namespace Go.Proofs.YtddageahmgaigaaGreat
open Go.RowKit

theorem gCo {W : World} {c : Addr} {v : Value} (h : W.cell? c = some v) (n : Nat) (os : Array Obj) : (Go.Sort.grow (W.drewN n) os).cell? c = some v :=
  cell_grown (World.block_lt_of_cell? _ _ h) h n os

noncomputable def ovBody : Code := ((Tryz.f9.body.map outLoopsU).getD []).getD 0 .skip
noncomputable def ovIn : Code := (outLoopsU ovBody).getD 0 .skip

set_option maxHeartbeats 16000000 in
set_option maxRecDepth 100000 in
theorem ov_in (Q : Exit → Act → World → Prop) (w WS : World) (s : Stt) (d : IfD) (bi : Nat) (hg : IfG w d) (hb : Below w.heap.size w WS) (hX : WS.heap[w.heap.size]? = some (.cells (sttE s).toArray 32 (0, 0))) (hI : WS.heap[bi]? = some (.cells (ifE d.x).toArray 69 (0, 0))) (hp0 : 0 ≤ d.x.pl) (hp1 : d.x.pl ≤ 32) (hl : d.nb.length ≤ 63) (u0 u1 u3 u4 u5 u7 u8 u9 u10 u11 u12 u13 u14 u15 u16 u17 u18 u19 u20 u21 u22 u23 u24 u25 u26 u27 u28 u29 u30 u31 u32 u33 u34 u35 u36 u37 u38 u39 u40 u41 u42 u43 u44 u45 u46 u47 u48 u49 u50 u51 u52 u53 u54 u55 u56 u57 u58 u59 u60 u61 u62 u63 u66 u67 u68 u69 u70 u71 u72 u73 u74 u75 u76 u77 u78 u79 u80 u81 u82 u83 u84 u85 u86 u87 u88 u89 u90 u91 u92 u93 u94 u95 u96 u97 u98 u99 u100 u101 u102 u103 u104 u105 u106 u107 u108 u109 u110 u111 u112 u113 u114 u115 u116 u117 u118 u119 u120 u121 u122 u123 u124 u125 u126 u127 u128 u129 : Value)
    (HQ0 : ∀ (v4 v7 v66 v67 v68 v69 v70 v71 v72 v73 v74 v75 v76 v77 v78 v79 v80 v81 v82 v83 v84 v85 v86 v87 v88 v89 v90 v91 v92 v93 v94 v95 v96 v97 v98 v99 v100 v101 : Value) (w' : World), Below WS.heap.size WS w' → (∀ m ∈ d.nb, m.r ≠ 0 ∧ m.r ≠ s.rt) → Q (.exit 2) ⟨#[u0, u1, .pointer (some ⟨w.heap.size, 0, none⟩), u3, v4, u5, .pointer (some ⟨bi, 0, none⟩), v7, u8, u9, u10, u11, u12, u13, u14, u15, u16, u17, u18, u19, u20, u21, u22, u23, u24, u25, u26, u27, u28, u29, u30, u31, u32, u33, u34, u35, u36, u37, u38, u39, u40, u41, u42, u43, u44, u45, u46, u47, u48, u49, u50, u51, u52, u53, u54, u55, u56, u57, u58, u59, u60, u61, u62, u63, .int .i64 (d.nb.length : Int), .int .i64 (d.nb.length : Int), v66, v67, v68, v69, v70, v71, v72, v73, v74, v75, v76, v77, v78, v79, v80, v81, v82, v83, v84, v85, v86, v87, v88, v89, v90, v91, v92, v93, v94, v95, v96, v97, v98, v99, v100, v101, u102, u103, u104, u105, u106, u107, u108, u109, u110, u111, u112, u113, u114, u115, u116, u117, u118, u119, u120, u121, u122, u123, u124, u125, u126, u127, u128, u129], []⟩ w')
    (HR0 : ∀ (v7 v65 v66 v67 v68 v69 v70 v71 v72 v73 v74 v75 v76 v77 v78 v79 v80 v81 v82 v83 v84 v85 v86 v87 v88 v89 v90 v91 v92 v93 v94 v95 v96 v97 v98 v99 v100 v101 : Value) (w' : World), Below WS.heap.size WS w' → Q .ret ⟨#[u0, u1, .pointer (some ⟨w.heap.size, 0, none⟩), u3, .bool true, u5, .pointer (some ⟨bi, 0, none⟩), v7, u8, u9, u10, u11, u12, u13, u14, u15, u16, u17, u18, u19, u20, u21, u22, u23, u24, u25, u26, u27, u28, u29, u30, u31, u32, u33, u34, u35, u36, u37, u38, u39, u40, u41, u42, u43, u44, u45, u46, u47, u48, u49, u50, u51, u52, u53, u54, u55, u56, u57, u58, u59, u60, u61, u62, u63, .int .i64 (d.nb.length : Int), v65, v66, v67, v68, v69, v70, v71, v72, v73, v74, v75, v76, v77, v78, v79, v80, v81, v82, v83, v84, v85, v86, v87, v88, v89, v90, v91, v92, v93, v94, v95, v96, v97, v98, v99, v100, v101, u102, u103, u104, u105, u106, u107, u108, u109, u110, u111, u112, u113, u114, u115, u116, u117, u118, u119, u120, u121, u122, u123, u124, u125, u126, u127, u128, u129], []⟩ w') :
    Code.wp Tryz.prog (.loop ovIn) Q ⟨#[u0, u1, .pointer (some ⟨w.heap.size, 0, none⟩), u3, u4, u5, .pointer (some ⟨bi, 0, none⟩), u7, u8, u9, u10, u11, u12, u13, u14, u15, u16, u17, u18, u19, u20, u21, u22, u23, u24, u25, u26, u27, u28, u29, u30, u31, u32, u33, u34, u35, u36, u37, u38, u39, u40, u41, u42, u43, u44, u45, u46, u47, u48, u49, u50, u51, u52, u53, u54, u55, u56, u57, u58, u59, u60, u61, u62, u63, .int .i64 (d.nb.length : Int), .int .i64 (0 : Int), u66, u67, u68, u69, u70, u71, u72, u73, u74, u75, u76, u77, u78, u79, u80, u81, u82, u83, u84, u85, u86, u87, u88, u89, u90, u91, u92, u93, u94, u95, u96, u97, u98, u99, u100, u101, u102, u103, u104, u105, u106, u107, u108, u109, u110, u111, u112, u113, u114, u115, u116, u117, u118, u119, u120, u121, u122, u123, u124, u125, u126, u127, u128, u129], []⟩ WS := by
  conv => enter [2, 1]; whnf
  have HQ := Lib.hid HQ0
  have HR := Lib.hid HR0
  have LV := Lib.hid lives_calls
  have HX := Lib.hid hX
  have HI := Lib.hid hI
  have HB := Lib.hid hb
  have NB := Lib.hid hg.nb
  obtain ⟨ga, gc, e1, hlen, hc1⟩ := hg.inn.nb.get
  simp only [Value.slice.injEq] at e1
  obtain ⟨ea1, en1, ec1⟩ := e1
  have HC1 := Lib.hid hc1
  have mixed : Tryz.prog.follows .mixedOrders = true := by kernel_rfl
  clear HQ0 HR0 hX hI hb hg hc1
  refine Code.wp_mono (PF.le Q) ?_
  dsimp only
  go_loopw [65] (fun ij wr => ∃ j : Nat, ij = .int .i64 j ∧ j ≤ d.nb.length ∧ Hid (Below WS.heap.size WS wr ∧ ∀ m, (hm : m < d.nb.length) → m < j → d.nb[m].r ≠ 0 ∧ d.nb[m].r ≠ s.rt)) (fun ij _ => d.nb.length - (intOf ij).toNat)
  case atStart => exact ⟨0, rfl, Nat.zero_le _, Lib.hid ⟨Below.refl _ _, fun m _ h => absurd h (by omega)⟩⟩
  case round =>
    obtain ⟨j, rfl, hj, R⟩ := hrel
    by_cases c : j < d.nb.length
    · obtain ⟨b1, o1, ea, hb1, hcc1⟩ := HC1.out (by omega)
      have Bw : Below w.heap.size w wr := HB.out.trans (R.out.1.mono HB.out.size)
      obtain ⟨⟨d0, d1, -, -, -⟩, -, -⟩ := (hcc1 j c).below Bw hb1
      have XW : wr.heap[w.heap.size]? = some (.cells (sttE s).toArray 32 (0, 0)) := (R.out.1.block _ (blk_lt HX.out)).trans HX.out
      have IW : wr.heap[bi]? = some (.cells (ifE d.x).toArray 69 (0, 0)) := (R.out.1.block _ (blk_lt HI.out)).trans HI.out
      have q0 : wr.cell? ⟨w.heap.size, 0, none⟩ = some (.int .u32 s.rt) := blk_cell XW rfl
      have i1 : wr.cell? ⟨bi, 1, none⟩ = some (.int .u32 d.x.pa) := blk_cell IW rfl
      have i2 : wr.cell? ⟨bi, 2, none⟩ = some (.int .i64 d.x.pl) := blk_cell IW rfl
      have i14 : wr.cell? ⟨bi, 14, none⟩ = some (.slice d.x.na d.x.nn d.x.nc) := blk_cell IW rfl
      rw [ea1, en1, ea] at i14
      have N1 := NB.out _ (List.getElem_mem c)
      have STEP := Lib.hid (fun (h1 : d.nb[j].r ≠ 0) (h2 : d.nb[j].r ≠ s.rt) m (hm : m < d.nb.length) (h : m < j + 1) => (by
        rcases Nat.lt_or_ge m j with h' | h'
        · exact R.out.2 m hm h'
        · obtain rfl : m = j := by omega
          exact ⟨h1, h2⟩ : d.nb[m].r ≠ 0 ∧ d.nb[m].r ≠ s.rt))
      have GRW := Lib.hid R.out.1
      have n0 := N1.2.2.2.1
      have n1 := N1.2.2.2.2
      clear Bw XW IW N1 hcc1 R
      generalize d.nb[j] = n at *
      obtain ⟨nr, na, nprio, ndr, nbdr, nst, ntil, nmas, nseq, v9_, vA_, nmore, vC_, vD_, nres⟩ := n
      simp only at d0 d1 STEP n0 n1
      have j0 : (0 : Int) ≤ (j : Int) := by omega
      have j1 : (j : Int) < (d.nb.length : Int) := by omega
      have j2 : ((j : Int)).toNat = j := by omega
      have dj : decide ((j : Int) < (d.nb.length : Int)) = true := decide_eq_true (by omega)
      have IN := Lib.hid (fun W => in26_calls d.x.pa d.x.pl na hp0 hp1 n0 n1 W)
      have p0 := gCo q0
      have p1 := gCo i1
      have p2 := gCo i2
      have p14 := gCo i14
      have e0 := gCo d0
      have e1 := gCo d1
      have JC := Lib.hid c
      clear c q0 i1 i2 i14 d0 d1 n0 n1 NB HC1
      generalize inB d.x.pa d.x.pl na = b at *
      by_cases r0 : nr = 0
      · subst r0
        have g0 : decide ((0 : Int) = 0) = true := rfl
        clear STEP
        go_wp2_with fail
        refine wp_region_quiet_grown (by assumption) (by kernel_rfl) ?_
        repeat (go_big_quiet_step ((go_at_call 34; exact Calls.grown_of ((IN.out _).mono fun _ _ ⟨he, hg⟩ => ⟨he, hg.grow⟩))))
        refine wpQuiet_nil ?_
        intro _ hw'
        obtain ⟨⟨nq, osq⟩, hw''⟩ := hw'
        subst hw''
        have GB : Below wr.heap.size wr (Go.Sort.grow (wr.drewN nq) osq) := (Gr.of_grow nq osq).b
        clear p0 p1 p2 p14 e0 e1 IN
        go_wp2_with fail
        refine (LV.out _).mono ?_
        rintro e wz ⟨rfl, BZ⟩
        have FN := Lib.hid (GRW.out.trans ((GB.trans (BZ.mono GB.size)).mono GRW.out.size))
        clear BZ
        go_wp2_with fail
        exact HR.out _ _ _ _ _ _ _ _ _ _ _ _ _ _ _ _ _ _ _ _ _ _ _ _ _ _ _ _ _ _ _ _ _ _ _ _ _ _ _ FN.out
      have r0' : (nr == 0) = false := by simpa using r0
      have r0d : decide (nr = 0) = false := decide_eq_false r0
      by_cases r1 : nr = s.rt
      · subst r1
        clear STEP
        go_wp2_with fail
        refine wp_region_quiet_grown (by assumption) (by kernel_rfl) ?_
        repeat (go_big_quiet_step ((go_at_call 34; exact Calls.grown_of ((IN.out _).mono fun _ _ ⟨he, hg⟩ => ⟨he, hg.grow⟩))))
        refine wpQuiet_nil ?_
        intro _ hw'
        obtain ⟨⟨nq, osq⟩, hw''⟩ := hw'
        subst hw''
        have GB : Below wr.heap.size wr (Go.Sort.grow (wr.drewN nq) osq) := (Gr.of_grow nq osq).b
        clear p0 p1 p2 p14 e0 e1 IN
        go_wp2_with fail
        refine (LV.out _).mono ?_
        rintro e wz ⟨rfl, BZ⟩
        have FN := Lib.hid (GRW.out.trans ((GB.trans (BZ.mono GB.size)).mono GRW.out.size))
        clear BZ
        go_wp2_with fail
        exact HR.out _ _ _ _ _ _ _ _ _ _ _ _ _ _ _ _ _ _ _ _ _ _ _ _ _ _ _ _ _ _ _ _ _ _ _ _ _ _ _ FN.out
      have r1' : (nr == s.rt) = false := by simpa using r1
      have r1d : decide (nr = s.rt) = false := decide_eq_false r1
      have ST := Lib.hid (STEP r0 r1)
      clear STEP
      cases b with
      | false =>
        clear ST
        go_wp2_with fail
        refine wp_region_quiet_grown (by assumption) (by kernel_rfl) ?_
        repeat (go_big_quiet_step ((go_at_call 34; exact Calls.grown_of ((IN.out _).mono fun _ _ ⟨he, hg⟩ => ⟨he, hg.grow⟩))))
        refine wpQuiet_nil ?_
        intro _ hw'
        obtain ⟨⟨nq, osq⟩, hw''⟩ := hw'
        subst hw''
        have GB : Below wr.heap.size wr (Go.Sort.grow (wr.drewN nq) osq) := (Gr.of_grow nq osq).b
        clear p0 p1 p2 p14 e0 e1 IN
        go_wp2_with fail
        refine (LV.out _).mono ?_
        rintro e wz ⟨rfl, BZ⟩
        have FN := Lib.hid (GRW.out.trans ((GB.trans (BZ.mono GB.size)).mono GRW.out.size))
        clear BZ
        go_wp2_with fail
        exact HR.out _ _ _ _ _ _ _ _ _ _ _ _ _ _ _ _ _ _ _ _ _ _ _ _ _ _ _ _ _ _ _ _ _ _ _ _ _ _ _ FN.out
      | true =>
        go_wp2_with fail
        refine wp_region_quiet_grown (by assumption) (by kernel_rfl) ?_
        repeat (go_big_quiet_step ((go_at_call 34; exact Calls.grown_of ((IN.out _).mono fun _ _ ⟨he, hg⟩ => ⟨he, hg.grow⟩))))
        refine wpQuiet_nil ?_
        intro _ hw'
        obtain ⟨⟨nq, osq⟩, hw''⟩ := hw'
        subst hw''
        have GB : Below wr.heap.size wr (Go.Sort.grow (wr.drewN nq) osq) := (Gr.of_grow nq osq).b
        clear p0 p1 p2 p14 e0 e1 IN
        have NXT := Lib.hid (GRW.out.trans (GB.mono GRW.out.size))
        clear GB
        go_wp2_with fail
        go_roundw
        case rel => exact ⟨j + 1, by go_num, by have := JC.out; omega, Lib.hid ⟨NXT.out, ST.out⟩⟩
        case measure => simp [intOf]; have := JC.out; omega
    · obtain rfl : j = d.nb.length := by omega
      have dj : decide ((d.nb.length : Int) < (d.nb.length : Int)) = false := decide_eq_false (by omega)
      have ALL : Hid (∀ m ∈ d.nb, m.r ≠ 0 ∧ m.r ≠ s.rt) := Lib.hid (fun m hm => by
        obtain ⟨i, hi, rfl⟩ := List.getElem_of_mem hm
        exact R.out.2 i hi hi)
      have GR := Lib.hid R.out.1
      clear R
      go_wp2_with fail
      exact HQ.out _ _ _ _ _ _ _ _ _ _ _ _ _ _ _ _ _ _ _ _ _ _ _ _ _ _ _ _ _ _ _ _ _ _ _ _ _ _ _ GR.out ALL.out

end Go.Proofs.YtddageahmgaigaaGreat
