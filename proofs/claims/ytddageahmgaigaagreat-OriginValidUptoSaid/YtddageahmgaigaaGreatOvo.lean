import Derived.Test.YtddageahmgaigaaGreatOvi
import Derived.Test.YtddageahmgaigaaGreatNwk
import Derived.Test.YtddageahmgaigaaGreatLnk
namespace Go.Proofs.YtddageahmgaigaaGreat
open Go.RowKit

theorem words01 (w : World) : WordsAt w (.slice none 0 0) [] := ⟨none, 0, rfl, Nat.le_refl _, by unfold maxLen; omega, fun _ => rfl, fun h => absurd h (by simp)⟩
theorem lnks01 (w : World) : LnksAt w (.slice none 0 0) [] := ⟨none, 0, rfl, Nat.le_refl _, by unfold maxLen; omega, fun _ => rfl, fun h => absurd h (by simp)⟩

set_option maxHeartbeats 16000000 in
set_option maxRecDepth 100000 in
theorem ov_out (Q : Exit → Act → World → Prop) (w WS : World) (s : Stt) (ifs : List IfD) (hi : IfsAt w (.slice s.ia s.iN s.ic) ifs) (hg : ∀ d ∈ ifs, IfG w d) (ho : ∀ d ∈ ifs, NbOrd d.nb) (hr : s.rt ≠ 0) (hr0 : 0 ≤ s.rt) (hr1 : s.rt < 4294967296) (hb : Below w.heap.size w WS) (hX : WS.heap[w.heap.size]? = some (.cells (sttE s).toArray 32 (0, 0))) (u0 u1 u3 u4 u5 u6 u7 u8 u9 u10 u11 u12 u13 u14 u15 u16 u17 u18 u19 u20 u21 u22 u23 u24 u25 u26 u27 u28 u29 u32 u33 u34 u35 u36 u37 u38 u39 u40 u41 u42 u43 u44 u45 u46 u47 u48 u49 u50 u51 u52 u53 u54 u55 u56 u57 u58 u59 u60 u61 u62 u63 u64 u65 u66 u67 u68 u69 u70 u71 u72 u73 u74 u75 u76 u77 u78 u79 u80 u81 u82 u83 u84 u85 u86 u87 u88 u89 u90 u91 u92 u93 u94 u95 u96 u97 u98 u99 u100 u101 u102 u103 u104 u105 u106 u107 u108 u109 u110 u111 u112 u113 u114 u115 u116 u117 u118 u119 u120 u121 u122 u123 u124 u125 u126 u127 u128 u129 : Value)
    (HQ0 : ∀ (v4 v5 v6 v7 v8 v9 v32 v33 v34 v35 v36 v37 v38 v39 v40 v41 v42 v43 v44 v45 v46 v47 v48 v49 v50 v51 v52 v53 v54 v55 v56 v57 v58 v59 v60 v61 v62 v63 v64 v65 v66 v67 v68 v69 v70 v71 v72 v73 v74 v75 v76 v77 v78 v79 v80 v81 v82 v83 v84 v85 v86 v87 v88 v89 v90 v91 v92 v93 v94 v95 v96 v97 v98 v99 v100 v101 v102 v103 v104 v105 v106 v107 v108 v109 v110 v111 v112 v113 v114 v115 v116 v117 v118 : Value) (w' : World), Below WS.heap.size WS w' → (∀ d ∈ ifs, VIf s.rt d) → Q (.exit 0) ⟨#[u0, u1, .pointer (some ⟨w.heap.size, 0, none⟩), u3, v4, v5, v6, v7, v8, v9, u10, u11, u12, u13, u14, u15, u16, u17, u18, u19, u20, u21, u22, u23, u24, u25, u26, u27, u28, u29, .int .i64 (ifs.length : Int), .int .i64 (ifs.length : Int), v32, v33, v34, v35, v36, v37, v38, v39, v40, v41, v42, v43, v44, v45, v46, v47, v48, v49, v50, v51, v52, v53, v54, v55, v56, v57, v58, v59, v60, v61, v62, v63, v64, v65, v66, v67, v68, v69, v70, v71, v72, v73, v74, v75, v76, v77, v78, v79, v80, v81, v82, v83, v84, v85, v86, v87, v88, v89, v90, v91, v92, v93, v94, v95, v96, v97, v98, v99, v100, v101, v102, v103, v104, v105, v106, v107, v108, v109, v110, v111, v112, v113, v114, v115, v116, v117, v118, u119, u120, u121, u122, u123, u124, u125, u126, u127, u128, u129], []⟩ w')
    (HR0 : ∀ (v5 v6 v7 v8 v9 v31 v32 v33 v34 v35 v36 v37 v38 v39 v40 v41 v42 v43 v44 v45 v46 v47 v48 v49 v50 v51 v52 v53 v54 v55 v56 v57 v58 v59 v60 v61 v62 v63 v64 v65 v66 v67 v68 v69 v70 v71 v72 v73 v74 v75 v76 v77 v78 v79 v80 v81 v82 v83 v84 v85 v86 v87 v88 v89 v90 v91 v92 v93 v94 v95 v96 v97 v98 v99 v100 v101 v102 v103 v104 v105 v106 v107 v108 v109 v110 v111 v112 v113 v114 v115 v116 v117 v118 : Value) (w' : World), Below WS.heap.size WS w' → Q .ret ⟨#[u0, u1, .pointer (some ⟨w.heap.size, 0, none⟩), u3, .bool true, v5, v6, v7, v8, v9, u10, u11, u12, u13, u14, u15, u16, u17, u18, u19, u20, u21, u22, u23, u24, u25, u26, u27, u28, u29, .int .i64 (ifs.length : Int), v31, v32, v33, v34, v35, v36, v37, v38, v39, v40, v41, v42, v43, v44, v45, v46, v47, v48, v49, v50, v51, v52, v53, v54, v55, v56, v57, v58, v59, v60, v61, v62, v63, v64, v65, v66, v67, v68, v69, v70, v71, v72, v73, v74, v75, v76, v77, v78, v79, v80, v81, v82, v83, v84, v85, v86, v87, v88, v89, v90, v91, v92, v93, v94, v95, v96, v97, v98, v99, v100, v101, v102, v103, v104, v105, v106, v107, v108, v109, v110, v111, v112, v113, v114, v115, v116, v117, v118, u119, u120, u121, u122, u123, u124, u125, u126, u127, u128, u129], []⟩ w') :
    Code.wp Tryz.prog (.loop ovBody) Q ⟨#[u0, u1, .pointer (some ⟨w.heap.size, 0, none⟩), u3, u4, u5, u6, u7, u8, u9, u10, u11, u12, u13, u14, u15, u16, u17, u18, u19, u20, u21, u22, u23, u24, u25, u26, u27, u28, u29, .int .i64 (ifs.length : Int), .int .i64 (0 : Int), u32, u33, u34, u35, u36, u37, u38, u39, u40, u41, u42, u43, u44, u45, u46, u47, u48, u49, u50, u51, u52, u53, u54, u55, u56, u57, u58, u59, u60, u61, u62, u63, u64, u65, u66, u67, u68, u69, u70, u71, u72, u73, u74, u75, u76, u77, u78, u79, u80, u81, u82, u83, u84, u85, u86, u87, u88, u89, u90, u91, u92, u93, u94, u95, u96, u97, u98, u99, u100, u101, u102, u103, u104, u105, u106, u107, u108, u109, u110, u111, u112, u113, u114, u115, u116, u117, u118, u119, u120, u121, u122, u123, u124, u125, u126, u127, u128, u129], []⟩ WS := by
  conv => enter [2, 1]; whnf
  have HQ := Lib.hid HQ0
  have HR := Lib.hid HR0
  have LV := Lib.hid lives_calls
  have HX := Lib.hid hX
  have HB := Lib.hid hb
  have HG := Lib.hid hg
  have HO := Lib.hid ho
  have RR := Lib.hid hr
  have RB := Lib.hid (And.intro hr0 hr1)
  obtain ⟨ga, gc, e1, hlen, hc1⟩ := hi.get
  simp only [Value.slice.injEq] at e1
  obtain ⟨ea1, en1, ec1⟩ := e1
  have HC1 := Lib.hid hc1
  have mixed : Tryz.prog.follows .mixedOrders = true := by kernel_rfl
  clear HQ0 HR0 hX hb hg ho hc1 hi hr hr0 hr1
  refine Code.wp_mono (PF.le Q) ?_
  dsimp only
  go_loopw [31] (fun ij wr => ∃ k : Nat, ij = .int .i64 k ∧ k ≤ ifs.length ∧ Hid (Below WS.heap.size WS wr ∧ ∀ m, (hm : m < ifs.length) → m < k → VIf s.rt ifs[m])) (fun ij _ => ifs.length - (intOf ij).toNat)
  case atStart => exact ⟨0, rfl, Nat.zero_le _, Lib.hid ⟨Below.refl _ _, fun m _ h => absurd h (by omega)⟩⟩
  case round =>
    obtain ⟨k, rfl, hk, R⟩ := hrel
    by_cases c : k < ifs.length
    · obtain ⟨b1, o1, ea, hb1, hcc1⟩ := HC1.out (by omega)
      have Bw : Below w.heap.size w wr := HB.out.trans (R.out.1.mono HB.out.size)
      obtain ⟨⟨d0, d1, d2, d3, d4⟩, ⟨d5, d6, d7, d8, d9⟩, ⟨d10, d11, d12, d13, d14⟩⟩ := (hcc1 k c).below Bw hb1
      have XW : wr.heap[w.heap.size]? = some (.cells (sttE s).toArray 32 (0, 0)) := (R.out.1.block _ (blk_lt HX.out)).trans HX.out
      have q4 : wr.cell? ⟨w.heap.size, 4, none⟩ = some (.slice s.ia s.iN s.ic) := blk_cell XW rfl
      rw [ea1, en1, ea] at q4
      have HD := Lib.hid (HG.out _ (List.getElem_mem c))
      have HOd := Lib.hid (HO.out _ (List.getElem_mem c))
      have STEP := Lib.hid (fun (h1 : VIf s.rt ifs[k]) m (hm : m < ifs.length) (h : m < k + 1) => (by
        rcases Nat.lt_or_ge m k with h' | h'
        · exact R.out.2 m hm h'
        · obtain rfl : m = k := by omega
          exact h1 : VIf s.rt ifs[m]))
      have GRW := Lib.hid R.out.1
      have HBw := Lib.hid Bw
      have HXW := Lib.hid XW
      have KC := Lib.hid c
      have j0 : (0 : Int) ≤ (k : Int) := by omega
      have j1 : (k : Int) < (ifs.length : Int) := by omega
      have j2 : ((k : Int)).toNat = k := by omega
      have dj : decide ((k : Int) < (ifs.length : Int)) = true := decide_eq_true (by omega)
      clear Bw XW hcc1 R
      generalize ifs[k] = d at *
      clear c
      obtain ⟨na, nc, en, -, -⟩ := HD.out.inn.nb.get
      obtain ⟨⟨kind, pa, pl, ad, area, cost, prio, hel, dead, up, dr, bdr, el, nh, xna, xnn, xnc⟩, nb⟩ := d
      simp only at en
      simp only [Value.slice.injEq] at en
      obtain ⟨rfl, rfl, rfl⟩ := en
      simp only at d0 d1 d2 d3 d4 d5 d6 d7 d8 d9 d10 d11 d12 d13 d14
      go_upto_region 7 with fail
      obtain ⟨W1, hW1⟩ : ∃ W1, wr.alloc (.cells #[.int .i64 kind, .int .u32 pa, .int .i64 pl, .int .u32 ad, .int .u32 area, .int .i64 cost, .int .i64 prio, .int .i64 hel, .int .i64 dead, .bool up, .int .u32 dr, .int .u32 bdr, .int .i64 el, .int .i64 nh, .slice xna nb.length xnc] 69) = W1 := ⟨_, rfl⟩
      rw [hW1]
      have C1 : Below wr.heap.size wr W1 := by rw [← hW1]; exact (Below.refl _ _).alloc (Nat.le_refl _) _
      have I1 := Lib.hid ((show W1.heap[wr.heap.size]? = some (.cells #[.int .i64 kind, .int .u32 pa, .int .i64 pl, .int .u32 ad, .int .u32 area, .int .i64 cost, .int .i64 prio, .int .i64 hel, .int .i64 dead, .bool up, .int .u32 dr, .int .u32 bdr, .int .i64 el, .int .i64 nh, .slice xna nb.length xnc] 69 (0, 0)) by rw [← hW1]; exact alloc_new _ _))
      have X1 := Lib.hid ((C1.block _ (blk_lt HXW.out)).trans HXW.out)
      have B1 := Lib.hid (HBw.out.trans (C1.mono HBw.out.size))
      have G1 := Lib.hid (GRW.out.trans (C1.mono GRW.out.size))
      have CH := Lib.hid (check26_calls ⟨kind, pa, pl, ad, area, cost, prio, hel, dead, up, dr, bdr, el, nh, xna, nb.length, xnc⟩ W1 HD.out.pa0 HD.out.pa1 HD.out.ad0 HD.out.ad1)
      simp only [ifcE] at CH
      clear hW1 C1 HXW HBw GRW d0 d1 d2 d3 d4 d5 d6 d7 d8 d9 d10 d11 d12 d13 d14 q4
      have p0 : W1.cell? ⟨wr.heap.size, 0, none⟩ = some (.int .i64 kind) := blk_cell I1.out rfl
      have p1 : W1.cell? ⟨wr.heap.size, 1, none⟩ = some (.int .u32 pa) := blk_cell I1.out rfl
      have p2 : W1.cell? ⟨wr.heap.size, 2, none⟩ = some (.int .i64 pl) := blk_cell I1.out rfl
      have p3 : W1.cell? ⟨wr.heap.size, 3, none⟩ = some (.int .u32 ad) := blk_cell I1.out rfl
      have p4 : W1.cell? ⟨wr.heap.size, 4, none⟩ = some (.int .u32 area) := blk_cell I1.out rfl
      have p5 : W1.cell? ⟨wr.heap.size, 5, none⟩ = some (.int .i64 cost) := blk_cell I1.out rfl
      have p6 : W1.cell? ⟨wr.heap.size, 6, none⟩ = some (.int .i64 prio) := blk_cell I1.out rfl
      have p7 : W1.cell? ⟨wr.heap.size, 7, none⟩ = some (.int .i64 hel) := blk_cell I1.out rfl
      have p8 : W1.cell? ⟨wr.heap.size, 8, none⟩ = some (.int .i64 dead) := blk_cell I1.out rfl
      generalize hck : chk26 ⟨kind, pa, pl, ad, area, cost, prio, hel, dead, up, dr, bdr, el, nh, xna, nb.length, xnc⟩ = ck at CH
      have HCK := Lib.hid hck
      clear hck
      rename_i KI hKI
      go_cut [60] from 39 to 60 (fun s60 wx => ∃ bb : Bool, s60 = .bool bb ∧ Gr W1 wx ∧ (bb = false → ck = 0 ∧ nb.length ≤ 63 ∧ (kind = 1 → nb.length ≤ 1)))
      case first =>
        have CONT : Hid (∀ W2, Gr W1 W2 → W2.cell? ⟨wr.heap.size, 0, none⟩ = some (.int .i64 kind) ∧ W2.cell? ⟨wr.heap.size, 14, none⟩ = some (.slice xna nb.length xnc)) := Lib.hid (fun W2 g => by
          have h := (g.b.block _ (blk_lt I1.out)).trans I1.out
          exact ⟨blk_cell h rfl, blk_cell h rfl⟩)
        clear STEP HOd HD HO HG HCK HQ HR LV
        by_cases k0 : ck = 0
        · subst k0
          by_cases l63 : nb.length ≤ 63
          · have g63 : decide ((63 : Int) < (nb.length : Int)) = false := decide_eq_false (by omega)
            have g63' : ¬ 63 < nb.length := by omega
            by_cases k1 : kind = 1
            · subst k1
              by_cases l1 : nb.length ≤ 1
              · have g1 : decide ((1 : Int) < (nb.length : Int)) = false := decide_eq_false (by omega)
                have g1' : ¬ 1 < nb.length := by omega
                go_wp2_with (go_at_call 33; refine CH.out.mono ?_; rintro e W2 ⟨rfl, G2⟩; have z0 := (CONT.out W2 G2).1; have z14 := (CONT.out W2 G2).2; have HG2 := Lib.hid G2; clear G2)
                go_meet
                case rel => exact ⟨false, rfl, HG2.out, fun _ => ⟨(by first | rfl | trivial), l63, fun _ => l1⟩⟩
              · have g1 : decide ((1 : Int) < (nb.length : Int)) = true := decide_eq_true (by omega)
                have g1' : 1 < nb.length := by omega
                go_wp2_with (go_at_call 33; refine CH.out.mono ?_; rintro e W2 ⟨rfl, G2⟩; have z0 := (CONT.out W2 G2).1; have z14 := (CONT.out W2 G2).2; have HG2 := Lib.hid G2; clear G2)
                go_meet
                case rel => exact ⟨true, rfl, HG2.out, (fun h => by cases h)⟩
            · have k1' : (kind == 1) = false := by simpa using k1
              have k1d : decide (kind = 1) = false := decide_eq_false k1
              go_wp2_with (go_at_call 33; refine CH.out.mono ?_; rintro e W2 ⟨rfl, G2⟩; have z0 := (CONT.out W2 G2).1; have z14 := (CONT.out W2 G2).2; have HG2 := Lib.hid G2; clear G2)
              go_meet
              case rel => exact ⟨false, rfl, HG2.out, fun _ => ⟨(by first | rfl | trivial), l63, fun h => absurd h k1⟩⟩
          · have g63 : decide ((63 : Int) < (nb.length : Int)) = true := decide_eq_true (by omega)
            have g63' : 63 < nb.length := by omega
            go_wp2_with (go_at_call 33; refine CH.out.mono ?_; rintro e W2 ⟨rfl, G2⟩; have z0 := (CONT.out W2 G2).1; have z14 := (CONT.out W2 G2).2; have HG2 := Lib.hid G2; clear G2)
            go_meet
            case rel => exact ⟨true, rfl, HG2.out, (fun h => by cases h)⟩
        · have k0' : (ck == 0) = false := by simpa using k0
          have k0d : decide (ck = 0) = false := decide_eq_false k0
          go_wp2_with (go_at_call 33; refine CH.out.mono ?_; rintro e W2 ⟨rfl, G2⟩; have z0 := (CONT.out W2 G2).1; have z14 := (CONT.out W2 G2).2; have HG2 := Lib.hid G2; clear G2)
          go_meet
          case rel => exact ⟨true, rfl, HG2.out, (fun h => by cases h)⟩
      case rest =>
      obtain ⟨bb, rfl, hg2, hbb⟩ := hcut
      have HG2 := Lib.hid hg2
      have HBB := Lib.hid hbb
      clear hg2 hbb CH p0 p1 p2 p3 p4 p5 p6 p7 p8
      refine hKI _ _ ?_
      clear hKI
      cases bb with
      | true =>
        clear STEP HOd HD HO HG HBB HCK
        go_wp2_with fail
        refine (LV.out _).mono ?_
        rintro e wz ⟨rfl, BZ⟩
        have FN := Lib.hid ((G1.out.trans (HG2.out.b.mono G1.out.size)).trans (BZ.mono (G1.out.trans (HG2.out.b.mono G1.out.size)).size))
        clear BZ
        go_wp2_with fail
        exact HR.out _ _ _ _ _ _ _ _ _ _ _ _ _ _ _ _ _ _ _ _ _ _ _ _ _ _ _ _ _ _ _ _ _ _ _ _ _ _ _ _ _ _ _ _ _ _ _ _ _ _ _ _ _ _ _ _ _ _ _ _ _ _ _ _ _ _ _ _ _ _ _ _ _ _ _ _ _ _ _ _ _ _ _ _ _ _ _ _ _ _ _ _ _ _ FN.out
      | false =>
      have FB := Lib.hid (HBB.out rfl)
      have B2 := Lib.hid (B1.out.trans (HG2.out.b.mono B1.out.size))
      have I2 := Lib.hid ((HG2.out.b.block _ (blk_lt I1.out)).trans I1.out)
      have X2 := Lib.hid ((HG2.out.b.block _ (blk_lt X1.out)).trans X1.out)
      have G2 := Lib.hid (G1.out.trans (HG2.out.b.mono G1.out.size))
      have y14 : wc.cell? ⟨wr.heap.size, 14, none⟩ = some (.slice xna nb.length xnc) := blk_cell I2.out rfl
      clear HBB HG2 B1 I1 X1 G1
      go_wp2_with fail
      rename_i K hK
      have PLB : 0 ≤ pl ∧ pl ≤ 32 := by have h := chk26_ok (HCK.out.trans FB.out.1); exact ⟨h.2.2.1, h.2.2.2⟩
      refine ov_in _ w wc s ⟨⟨kind, pa, pl, ad, area, cost, prio, hel, dead, up, dr, bdr, el, nh, xna, nb.length, xnc⟩, nb⟩ wr.heap.size HD.out B2.out X2.out I2.out PLB.1 PLB.2 FB.out.2.1 _ _ _ _ _ _ _ _ _ _ _ _ _ _ _ _ _ _ _ _ _ _ _ _ _ _ _ _ _ _ _ _ _ _ _ _ _ _ _ _ _ _ _ _ _ _ _ _ _ _ _ _ _ _ _ _ _ _ _ _ _ _ _ _ _ _ _ _ _ _ _ _ _ _ _ _ _ _ _ _ _ _ _ _ _ _ _ _ _ _ _ _ _ _ _ _ _ _ _ _ _ _ _ _ _ _ _ _ _ _ _ _ _ _ _ _ _ _ _ _ _ _ _ _ _ _ ?hq ?hr
      case hr =>
        intro v7 v65 v66 v67 v68 v69 v70 v71 v72 v73 v74 v75 v76 v77 v78 v79 v80 v81 v82 v83 v84 v85 v86 v87 v88 v89 v90 v91 v92 v93 v94 v95 v96 v97 v98 v99 v100 v101 w' b4
        exact HR.out _ _ _ _ _ _ _ _ _ _ _ _ _ _ _ _ _ _ _ _ _ _ _ _ _ _ _ _ _ _ _ _ _ _ _ _ _ _ _ _ _ _ _ _ _ _ _ _ _ _ _ _ _ _ _ _ _ _ _ _ _ _ _ _ _ _ _ _ _ _ _ _ _ _ _ _ _ _ _ _ _ _ _ _ _ _ _ _ _ _ _ _ _ _ (G2.out.trans (b4.mono G2.out.size))
      case hq =>
      intro v4 v7 v66 v67 v68 v69 v70 v71 v72 v73 v74 v75 v76 v77 v78 v79 v80 v81 v82 v83 v84 v85 v86 v87 v88 v89 v90 v91 v92 v93 v94 v95 v96 v97 v98 v99 v100 v101 w5 b5 hall
      have VV : Hid (VIf s.rt ⟨⟨kind, pa, pl, ad, area, cost, prio, hel, dead, up, dr, bdr, el, nh, xna, nb.length, xnc⟩, nb⟩) := Lib.hid ⟨HCK.out.trans FB.out.1, FB.out.2.1, FB.out.2.2, fun m hm => (hall m hm).1, fun m hm => (hall m hm).2⟩
      have B5 := Lib.hid (B2.out.trans (b5.mono B2.out.size))
      have I5 := Lib.hid ((b5.block _ (blk_lt I2.out)).trans I2.out)
      have X5 := Lib.hid ((b5.block _ (blk_lt X2.out)).trans X2.out)
      have G5 := Lib.hid (G2.out.trans (b5.mono G2.out.size))
      have NW := Lib.hid (network_calls ⟨kind, pa, pl, ad, area, cost, prio, hel, dead, up, dr, bdr, el, nh, xna, nb.length, xnc⟩ nb s.rt w5 (HD.out.inn.nb.below B5.out) (by have := FB.out.2.1; omega))
      have NXT := Lib.hid (STEP.out VV.out)
      have DB := Lib.hid (And.intro HD.out.ad0 HD.out.ad1)
      have CKN : Hid (∀ W a cp, WordsAt W (.slice a (fullsS nb s.rt).length cp) (fullsS nb s.rt) → Calls Tryz.prog 35 #[.agg (lsaE { nwL ⟨kind, pa, pl, ad, area, cost, prio, hel, dead, up, dr, bdr, el, nh, xna, nb.length, xnc⟩ s.rt a (fullsS nb s.rt).length cp with seq := 1 }).toArray] W fun e w' => e = .returned (.int .i64 0) ∧ Gr W w') := Lib.hid (fun W a cp h =>
        (check_any { nwL ⟨kind, pa, pl, ad, area, cost, prio, hel, dead, up, dr, bdr, el, nh, xna, nb.length, xnc⟩ s.rt a (fullsS nb s.rt).length cp with seq := 1 } ⟨DB.out.1, DB.out.2, RB.out.1, RB.out.2, (show (0 : Int) ≤ 0 by decide), (show (0 : Int) < 4294967296 by decide)⟩ [] (fullsS nb s.rt) W (lnks01 W) (fun y hy => by cases hy) h).mono fun e w' ⟨c, h1, h2, h3⟩ => ⟨by rw [h1, net_ok VV.out HOd.out RR.out a cp c h2], h3⟩)
      clear b5 hall STEP HOd HD HO HG HCK FB B2 I2 X2 G2 y14 PLB DB
      refine hK _ _ ?_
      clear hK
      generalize fullsS nb s.rt = att at *
      generalize nwB _ s.rt nb = okb at *
      simp only [ifE] at I5 NW
      simp only [nwL, lsaE] at CKN
      have X5' : w5.heap[w.heap.size]? = some (.cells (sttE s).toArray 32 (0, 0)) := X5.out
      have q0 : w5.cell? ⟨w.heap.size, 0, none⟩ = some (.int .u32 s.rt) := blk_cell X5' rfl
      obtain ⟨⟨⟨y0, y1, y2, y3, y4⟩, ⟨y5, y6, y7, y8, y9⟩, ⟨y10, y11, y12, y13, y14⟩⟩, -⟩ := blk15 I5.out
      clear X5'
      go_wp2_with fail
      refine NW.out.mono ?_
      rintro e w6 (⟨rfl, rfl, g6⟩ | ⟨rfl, aa, ac, rfl, hW6, g6⟩)
      · simp only [lsaE, lsaZ]
        have G6 := Lib.hid (G5.out.trans (g6.mono G5.out.size))
        clear g6 NW CKN y0 y1 y2 y3 y4 y5 y6 y7 y8 y9 y10 y11 y12 y13 y14 q0
        go_upto_region 16 with fail
        obtain ⟨wL, hwL⟩ : ∃ wL, w6.alloc (.cells #[.int .i64 0, .int .u32 0, .int .i64 0, .int .u32 0, .int .i64 0, .int .i64 0, .int .i64 0, .bool false, .bool false, .slice none 0 0, .slice none 0 0, .int .i64 0, .bool false, .int .u32 0, .int .i64 0] 42) = wL := ⟨_, rfl⟩
        have CL : Below w6.heap.size w6 wL := by rw [← hwL]; exact (Below.refl _ _).alloc (Nat.le_refl _) _
        have NL : wL.heap[w6.heap.size]? = some (.cells #[.int .i64 0, .int .u32 0, .int .i64 0, .int .u32 0, .int .i64 0, .int .i64 0, .int .i64 0, .bool false, .bool false, .slice none 0 0, .slice none 0 0, .int .i64 0, .bool false, .int .u32 0, .int .i64 0] 42 (0, 0)) := by rw [← hwL]; exact alloc_new _ _
        have l4 : wL.cell? ⟨w6.heap.size, 4, none⟩ = some (.int .i64 0) := blk_cell NL rfl
        have f4 := blk_free NL 4
        have NS : (wL.setCell ⟨w6.heap.size, 4, none⟩ (.int .i64 1)).heap[w6.heap.size]? = some (.cells #[.int .i64 0, .int .u32 0, .int .i64 0, .int .u32 0, .int .i64 1, .int .i64 0, .int .i64 0, .bool false, .bool false, .slice none 0 0, .slice none 0 0, .int .i64 0, .bool false, .int .u32 0, .int .i64 0] 42 (0, 0)) := by
          have h := blk_set NL 4 (.int .i64 1)
          simpa using h
        have CS : Below w6.heap.size w6 (wL.setCell ⟨w6.heap.size, 4, none⟩ (.int .i64 1)) := CL.setCell (Nat.le_refl _) _
        have G7 := Lib.hid (G6.out.trans (CS.mono G6.out.size))
        rw [hwL]
        clear hwL CL NL NS CS G6
        go_upto_region 17 with fail
        generalize wL.setCell ⟨w6.heap.size, 4, none⟩ (.int .i64 1) = w7 at *
        clear l4 f4
        go_wp2_with fail
        go_roundw
        case rel => exact ⟨k + 1, by go_num, by have := KC.out; omega, Lib.hid ⟨G7.out, NXT.out⟩⟩
        case measure => simp [intOf]; have := KC.out; omega
      · simp only [lsaE, nwL]
        have G6 := Lib.hid (G5.out.trans (g6.mono G5.out.size))
        clear g6 NW y0 y1 y2 y3 y4 y5 y6 y7 y8 y9 y10 y11 y12 y13 y14 q0
        go_upto_region 16 with fail
        obtain ⟨wL, hwL⟩ : ∃ wL, w6.alloc (.cells #[.int .i64 2, .int .u32 ad, .int .i64 pl, .int .u32 s.rt, .int .i64 0, .int .i64 0, .int .i64 0, .bool false, .bool false, .slice none 0 0, .slice aa att.length ac, .int .i64 0, .bool false, .int .u32 0, .int .i64 0] 42) = wL := ⟨_, rfl⟩
        have CL : Below w6.heap.size w6 wL := by rw [← hwL]; exact (Below.refl _ _).alloc (Nat.le_refl _) _
        have NL : wL.heap[w6.heap.size]? = some (.cells #[.int .i64 2, .int .u32 ad, .int .i64 pl, .int .u32 s.rt, .int .i64 0, .int .i64 0, .int .i64 0, .bool false, .bool false, .slice none 0 0, .slice aa att.length ac, .int .i64 0, .bool false, .int .u32 0, .int .i64 0] 42 (0, 0)) := by rw [← hwL]; exact alloc_new _ _
        have l4 : wL.cell? ⟨w6.heap.size, 4, none⟩ = some (.int .i64 0) := blk_cell NL rfl
        have f4 := blk_free NL 4
        have NS : (wL.setCell ⟨w6.heap.size, 4, none⟩ (.int .i64 1)).heap[w6.heap.size]? = some (.cells #[.int .i64 2, .int .u32 ad, .int .i64 pl, .int .u32 s.rt, .int .i64 1, .int .i64 0, .int .i64 0, .bool false, .bool false, .slice none 0 0, .slice aa att.length ac, .int .i64 0, .bool false, .int .u32 0, .int .i64 0] 42 (0, 0)) := by
          have h := blk_set NL 4 (.int .i64 1)
          simpa using h
        have CS : Below w6.heap.size w6 (wL.setCell ⟨w6.heap.size, 4, none⟩ (.int .i64 1)) := CL.setCell (Nat.le_refl _) _
        have G7 := Lib.hid (G6.out.trans (CS.mono G6.out.size))
        have CK := Lib.hid (CKN.out _ aa ac (hW6.below CS))
        have NSH := Lib.hid NS
        rw [hwL]
        clear hwL CL NL NS CS G6 CKN hW6
        go_upto_region 17 with fail
        generalize wL.setCell ⟨w6.heap.size, 4, none⟩ (.int .i64 1) = w7 at *
        clear l4 f4
        obtain ⟨⟨⟨l0, l1, l2, l3, l4⟩, ⟨l5, l6, l7, l8, l9⟩, ⟨l10, l11, l12, l13, l14⟩⟩, -⟩ := blk15 NSH.out
        go_wp2_with (go_at_call 35; refine CK.out.mono ?_; rintro e w8 ⟨rfl, G8⟩; have G9 := Lib.hid (G7.out.trans (G8.b.mono G7.out.size)); clear G8)
        go_roundw
        case rel => exact ⟨k + 1, by go_num, by have := KC.out; omega, Lib.hid ⟨G9.out, NXT.out⟩⟩
        case measure => simp [intOf]; have := KC.out; omega
    · obtain rfl : k = ifs.length := by omega
      have dj : decide ((ifs.length : Int) < (ifs.length : Int)) = false := decide_eq_false (by omega)
      have ALL : Hid (∀ d ∈ ifs, VIf s.rt d) := Lib.hid (fun m hm => by
        obtain ⟨i, hi, rfl⟩ := List.getElem_of_mem hm
        exact R.out.2 i hi hi)
      have GR := Lib.hid R.out.1
      clear R
      go_wp2_with fail
      exact HQ.out _ _ _ _ _ _ _ _ _ _ _ _ _ _ _ _ _ _ _ _ _ _ _ _ _ _ _ _ _ _ _ _ _ _ _ _ _ _ _ _ _ _ _ _ _ _ _ _ _ _ _ _ _ _ _ _ _ _ _ _ _ _ _ _ _ _ _ _ _ _ _ _ _ _ _ _ _ _ _ _ _ _ _ _ _ _ _ _ _ _ _ _ _ _ GR.out ALL.out

end Go.Proofs.YtddageahmgaigaaGreat
