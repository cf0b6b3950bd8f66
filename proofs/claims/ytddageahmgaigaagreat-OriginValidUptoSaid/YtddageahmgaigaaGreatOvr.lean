import Derived.Test.YtddageahmgaigaaGreatOvo
import Derived.Test.YtddageahmgaigaaGreatRtw
import Derived.Test.YtddageahmgaigaaGreatOpl
import Derived.Test.YtddageahmgaigaaGreatC26
import Derived.JoinedCond
namespace Go.Proofs.YtddageahmgaigaaGreat
open Go.RowKit

theorem u32_wf {n : Int} (h0 : 0 ≤ n) (h1 : n < 4294967296) : (Lit.int .u32 n).wf = true := by
  have m0 : IntKind.u32.min = 0 := by decide
  have m1 : IntKind.u32.max = 4294967295 := by decide
  simp [Lit.wf, m0, m1]
  omega

theorem addrOf_wf (nb : List Nb) (r : Int) (h : ∀ n ∈ nb, 0 ≤ n.a ∧ n.a < 4294967296) : 0 ≤ addrOf nb r ∧ addrOf nb r < 4294967296 := by
  unfold addrOf
  cases e : nb.find? fun n => decide (n.r = r) with
  | none => exact ⟨Int.le_refl _, by decide⟩
  | some n => exact h n (List.mem_of_find?_eq_some e)

theorem lks_wf {W : World} {d : IfD} {rt : Int} (g : IfG W d) (ok : IfOk d) : ∀ x ∈ lksOf rt d, plOk (plOf x) := by
  have k1 : (Lit.int .i64 1).wf = true := by decide
  have k2 : (Lit.int .i64 2).wf = true := by decide
  have k3 : (Lit.int .i64 3).wf = true := by decide
  have S : plOk (plOf (stubL d.x)) := ⟨k3, u32_wf g.pa0 g.pa1, u32_wf ok.p0 (by have := ok.p1; show d.x.pl < 4294967296; omega)⟩
  intro x hx
  unfold lksOf at hx
  split at hx
  · obtain rfl := List.mem_singleton.1 hx; exact S
  · split at hx
    · rcases List.mem_cons.1 hx with rfl | hx
      · exact S
      · obtain ⟨r, hr, rfl⟩ := List.mem_map.1 hx
        unfold fulls at hr
        obtain ⟨n, hn, rfl⟩ := List.mem_map.1 hr
        have := g.nb n (List.mem_filter.1 hn).1
        exact ⟨k1, u32_wf this.2.1 this.2.2.1, u32_wf g.ad0 g.ad1⟩
    · split at hx
      · split at hx
        · rename_i a ha
          obtain rfl := List.mem_singleton.1 hx
          refine ⟨k2, ?_, u32_wf g.ad0 g.ad1⟩
          unfold desigP at ha
          split at ha
          · split at ha
            · cases ha
            · cases ha; exact u32_wf g.ad0 g.ad1
          · split at ha
            · cases ha
              have := addrOf_wf d.nb d.x.dr (fun n hn => ⟨(g.nb n hn).2.2.2.1, (g.nb n hn).2.2.2.2⟩)
              exact u32_wf this.1 this.2
            · cases ha
        · obtain rfl := List.mem_singleton.1 hx; exact S
      · cases hx

theorem ifW_mem {l : List IfD} {d : IfD} (h : d ∈ l) : ifW d ≤ (l.map ifW).sum := mem_sum ifW l d h
theorem nbW_mem {l : List Nb} {n : Nb} (h : n ∈ l) : nbW n ≤ (l.map nbW).sum := mem_sum nbW l n h

theorem wf_u32 {n : Int} (h : (Lit.int .u32 n).wf = true) : 0 ≤ n ∧ n < 4294967296 := by
  have m0 : IntKind.u32.min = 0 := by decide
  have m1 : IntKind.u32.max = 4294967295 := by decide
  simp [Lit.wf, m0, m1] at h
  omega
theorem vif_ok {rt : Int} {d : IfD} (v : VIf rt d) : IfOk d := by have h := chk26_ok v.c; exact ⟨h.1, h.2.1, h.2.2.1, h.2.2.2⟩

set_option maxHeartbeats 16000000 in
set_option maxRecDepth 100000 in
theorem ovlaw (w : World) (s : Stt) (area : Int) (ifs : List IfD) (hi : IfsAt w (.slice s.ia s.iN s.ic) ifs) (hg : ∀ d ∈ ifs, IfG w d) (hs : (ifs.map ifW).sum ≤ 1048576) (hr0 : 0 ≤ s.rt) (hr1 : s.rt < 4294967296) :
    Calls Tryz.prog 9 #[.agg (sttE s).toArray, .int .u32 area] w fun e w' => e = .returned (.bool true) ∧ Below w.heap.size w w' := by
  have LV := Lib.hid lives_calls
  have OD := Lib.hid (fun W (hb : Below w.heap.size w W) => ordered_calls W _ ifs (hi.below hb))
  have RT := Lib.hid (fun (v : ∀ d ∈ ifs, VIf s.rt d) (l16 : ifs.length ≤ 16) W (hb : Below w.heap.size w W) => router_calls W s area ifs (hi.below hb)
    (fun d hd _ W' hb' => links_calls2 d s.rt W' (vif_ok (v d hd)) ((hg d hd).inn.below (hb.trans (hb'.mono hb.size))) (by have h1 := ifW_mem hd; have h2 := len_nbW d.nb; have h3 : ifW d = 1 + (d.nb.map nbW).sum := rfl; omega) (fun n hn => by have h1 := ifW_mem hd; have h2 := nbW_mem hn; have h3 : ifW d = 1 + (d.nb.map nbW).sum := rfl; have h4 : nbW n = 1 + (n.v9.n + n.v10.n + n.v12.n + n.v13.n) := rfl; omega))
    (fun d hd => lks_wf (hg d hd) (vif_ok (v d hd))) (by have h2 := linksK_two (rt := s.rt) (area := area) ifs v; omega))
  have CK : Hid (∀ (v : ∀ d ∈ ifs, VIf s.rt d) (l16 : ifs.length ≤ 16) (r0 : s.rt ≠ 0) W bo ba la lc lk, LinksOf (linksK s.rt area ifs ifs.length) lk → LnksAt W (.slice la lk.length lc) lk → Calls Tryz.prog 35 #[.agg (lsaE { lsaLk (rtL s.rt bo ba) la lk.length lc with seq := 1 }).toArray] W fun e w' => e = .returned (.int .i64 0) ∧ Gr W w') := Lib.hid (fun v l16 r0 W bo ba la lc lk H hl =>
    (check_any { lsaLk (rtL s.rt bo ba) la lk.length lc with seq := 1 } ⟨hr0, hr1, hr0, hr1, (show (0 : Int) ≤ 0 by decide), (show (0 : Int) < 4294967296 by decide)⟩ lk [] W hl (fun y hy => by
      have hm := links_mem H y hy
      unfold linksK at hm
      obtain ⟨d, hd, hx⟩ := List.mem_flatMap.1 hm
      rw [List.take_length] at hd
      have hd' := (List.mem_filter.1 hd).1
      have p := lks_wf (hg d hd') (vif_ok (v d hd')) y hx
      have p1 := wf_u32 p.2.1
      have p2 := wf_u32 p.2.2
      exact ⟨p1.1, p1.2, p2.1, p2.2⟩) (words01 W)).mono fun e w' ⟨c, h1, h2, h3⟩ => ⟨by rw [h1, rtr_ok v l16 r0 H la lc c h2], h3⟩)
  have HI := Lib.hid hi
  have HGG := Lib.hid hg
  have HRB := Lib.hid (And.intro hr0 hr1)
  have mixed : Tryz.prog.follows .mixedOrders = true := by kernel_rfl
  obtain ⟨ga, gc, e1, -, -⟩ := hi.get
  clear hi hg hs hr0 hr1
  obtain ⟨rt, ⟨cia, cin, cic⟩, ⟨cra, crn, crc⟩, now, a1, iN, c1, ⟨ara, arn, arc⟩, ⟨exa, exn, exc⟩, ⟨ana, ann, anc⟩⟩ := s
  simp only at e1
  simp only [Value.slice.injEq] at e1
  obtain ⟨rfl, rfl, rfl⟩ := e1
  simp only [sttE] at RT ⊢
  simp only at OD CK
  obtain ⟨W0, hW0⟩ : ∃ W0, w.alloc (.cells #[.int .u32 rt, .slice cia cin cic, .slice cra crn crc, .int .i64 now, .slice a1 ifs.length c1, .slice ara arn arc, .slice exa exn exc, .slice ana ann anc] 32) = W0 := ⟨_, rfl⟩
  have B0 : Hid (Below w.heap.size w W0) := Lib.hid (by rw [← hW0]; exact (Below.refl _ _).alloc (Nat.le_refl _) _)
  have X0 : Hid (W0.heap[w.heap.size]? = some (.cells #[.int .u32 rt, .slice cia cin cic, .slice cra crn crc, .int .i64 now, .slice a1 ifs.length c1, .slice ara arn arc, .slice exa exn exc, .slice ana ann anc] 32 (0, 0))) := Lib.hid (by rw [← hW0]; exact alloc_new _ _)
  have HW0 := Lib.hid hW0
  clear hW0
  have y0 : W0.cell? ⟨w.heap.size, 0, none⟩ = some (.int .u32 rt) := blk_cell X0.out rfl
  have y4 : W0.cell? ⟨w.heap.size, 4, none⟩ = some (.slice a1 ifs.length c1) := blk_cell X0.out rfl
  by_cases q0 : rt = 0
  · subst q0
    clear OD RT CK
    go_enter Tryz.func9, Tryz.ntmps9
    go_upto_region 1 with fail
    rw [HW0.out]
    go_wp2_with fail
    refine (LV.out _).mono ?_
    rintro e wz ⟨rfl, BZ⟩
    have FIN := Lib.hid (B0.out.trans (BZ.mono B0.out.size))
    clear BZ
    go_wp2_with fail
    go_ret
    exact ⟨rfl, FIN.out⟩
  have q0' : (rt == 0) = false := by simpa using q0
  have HR := Lib.hid q0
  by_cases l16 : ifs.length ≤ 16
  case neg =>
    have g16 : decide ((16 : Int) < (ifs.length : Int)) = true := decide_eq_true (by omega)
    have g16' : 16 < ifs.length := by omega
    clear OD RT CK
    go_enter Tryz.func9, Tryz.ntmps9
    go_upto_region 1 with fail
    rw [HW0.out]
    go_wp2_with fail
    refine (LV.out _).mono ?_
    rintro e wz ⟨rfl, BZ⟩
    have FIN := Lib.hid (B0.out.trans (BZ.mono B0.out.size))
    clear BZ
    go_wp2_with fail
    go_ret
    exact ⟨rfl, FIN.out⟩
  have g16 : decide ((16 : Int) < (ifs.length : Int)) = false := decide_eq_false (by omega)
  have g16' : ¬ 16 < ifs.length := by omega
  have OD0 := Lib.hid (OD.out W0 B0.out)
  clear OD q0
  go_enter Tryz.func9, Tryz.ntmps9
  go_upto_region 1 with fail
  rw [HW0.out]
  go_wp2_with fail
  refine OD0.out.mono ?_
  rintro e w1 ⟨ob, rfl, G1, HO⟩
  have B1 := Lib.hid (B0.out.trans (G1.b.mono B0.out.size))
  have X1 := Lib.hid ((G1.b.block _ (blk_lt X0.out)).trans X0.out)
  have HOO := Lib.hid HO
  clear G1 HO y0 y4 OD0 B0 X0 HW0
  cases ob with
  | false =>
    clear RT CK
    go_wp2_with fail
    refine (LV.out _).mono ?_
    rintro e wz ⟨rfl, BZ⟩
    have FIN := Lib.hid (B1.out.trans (BZ.mono B1.out.size))
    clear BZ
    go_wp2_with fail
    go_ret
    exact ⟨rfl, FIN.out⟩
  | true =>
  have O := Lib.hid (HOO.out rfl)
  clear HOO
  have y4 : w1.cell? ⟨w.heap.size, 4, none⟩ = some (.slice a1 ifs.length c1) := blk_cell X1.out rfl
  go_wp2_with fail
  rename_i K hK
  refine ov_out _ w _ ⟨rt, ⟨cia, cin, cic⟩, ⟨cra, crn, crc⟩, now, a1, ifs.length, c1, ⟨ara, arn, arc⟩, ⟨exa, exn, exc⟩, ⟨ana, ann, anc⟩⟩ ifs HI.out HGG.out O.out HR.out HRB.out.1 HRB.out.2 B1.out X1.out _ _ _ _ _ _ _ _ _ _ _ _ _ _ _ _ _ _ _ _ _ _ _ _ _ _ _ _ _ _ _ _ _ _ _ _ _ _ _ _ _ _ _ _ _ _ _ _ _ _ _ _ _ _ _ _ _ _ _ _ _ _ _ _ _ _ _ _ _ _ _ _ _ _ _ _ _ _ _ _ _ _ _ _ _ _ _ _ _ _ _ _ _ _ _ _ _ _ _ _ _ _ _ _ _ _ _ _ _ _ _ _ _ _ _ _ _ _ _ _ _ _ _ _ _ _ _ ?hq ?hr
  case hr =>
    intro v5 v6 v7 v8 v9 v31 v32 v33 v34 v35 v36 v37 v38 v39 v40 v41 v42 v43 v44 v45 v46 v47 v48 v49 v50 v51 v52 v53 v54 v55 v56 v57 v58 v59 v60 v61 v62 v63 v64 v65 v66 v67 v68 v69 v70 v71 v72 v73 v74 v75 v76 v77 v78 v79 v80 v81 v82 v83 v84 v85 v86 v87 v88 v89 v90 v91 v92 v93 v94 v95 v96 v97 v98 v99 v100 v101 v102 v103 v104 v105 v106 v107 v108 v109 v110 v111 v112 v113 v114 v115 v116 v117 v118 w' b2
    have FIN := Lib.hid (B1.out.trans (b2.mono B1.out.size))
    clear b2 RT CK
    (try simp only [Exit.inBlock, Exit.then])
    exact bodyPost_ret (v := .bool true) (by simp [results, Tryz.results9, go_sem]) rfl ⟨rfl, FIN.out⟩
  case hq =>
  intro v4 v5 v6 v7 v8 v9 v32 v33 v34 v35 v36 v37 v38 v39 v40 v41 v42 v43 v44 v45 v46 v47 v48 v49 v50 v51 v52 v53 v54 v55 v56 v57 v58 v59 v60 v61 v62 v63 v64 v65 v66 v67 v68 v69 v70 v71 v72 v73 v74 v75 v76 v77 v78 v79 v80 v81 v82 v83 v84 v85 v86 v87 v88 v89 v90 v91 v92 v93 v94 v95 v96 v97 v98 v99 v100 v101 v102 v103 v104 v105 v106 v107 v108 v109 v110 v111 v112 v113 v114 v115 v116 v117 v118 w2 b2 V
  have B2 := Lib.hid (B1.out.trans (b2.mono B1.out.size))
  have X2 := Lib.hid ((b2.block _ (blk_lt X1.out)).trans X1.out)
  have RT2 := Lib.hid (RT.out V l16 w2 B2.out)
  have CK2 := Lib.hid (CK.out V l16 HR.out)
  clear b2 V RT CK y4 B1 X1 O HR
  refine hK _ _ ?_
  clear hK
  have d0 : w2.cell? ⟨w.heap.size, 0, none⟩ = some (.int .u32 rt) := blk_cell X2.out rfl
  have d1 : w2.cell? ⟨w.heap.size, 1, none⟩ = some (.slice cia cin cic) := blk_cell X2.out rfl
  have d2 : w2.cell? ⟨w.heap.size, 2, none⟩ = some (.slice cra crn crc) := blk_cell X2.out rfl
  have d3 : w2.cell? ⟨w.heap.size, 3, none⟩ = some (.int .i64 now) := blk_cell X2.out rfl
  have d4 : w2.cell? ⟨w.heap.size, 4, none⟩ = some (.slice a1 ifs.length c1) := blk_cell X2.out rfl
  have d5 : w2.cell? ⟨w.heap.size, 5, none⟩ = some (.slice ara arn arc) := blk_cell X2.out rfl
  have d6 : w2.cell? ⟨w.heap.size, 6, none⟩ = some (.slice exa exn exc) := blk_cell X2.out rfl
  have d7 : w2.cell? ⟨w.heap.size, 7, none⟩ = some (.slice ana ann anc) := blk_cell X2.out rfl
  go_wp2_with fail
  refine RT2.out.mono ?_
  rintro e w3 ⟨la, lc, lk, rfl, L3, K3, b3⟩
  have B3 := Lib.hid (B2.out.trans (b3.mono B2.out.size))
  have HL3 := Lib.hid L3
  have HK3 := Lib.hid K3
  clear b3 L3 K3 RT2 B2 X2 d0 d1 d2 d3 d4 d5 d6 d7
  generalize bordP ifs = bo at *
  generalize decide (0 < ann) = ba at *
  simp only [lsaE, lsaLk, rtL] at CK2 ⊢
  go_upto_region 21 with fail
  obtain ⟨wL, hwL⟩ : ∃ wL, w3.alloc (.cells #[.int .i64 1, .int .u32 rt, .int .i64 0, .int .u32 rt, .int .i64 0, .int .i64 0, .int .i64 0, .bool bo, .bool ba, .slice la lk.length lc, .slice none 0 0, .int .i64 0, .bool false, .int .u32 0, .int .i64 0] 42) = wL := ⟨_, rfl⟩
  have CL : Below w3.heap.size w3 wL := by rw [← hwL]; exact (Below.refl _ _).alloc (Nat.le_refl _) _
  have NL : wL.heap[w3.heap.size]? = some (.cells #[.int .i64 1, .int .u32 rt, .int .i64 0, .int .u32 rt, .int .i64 0, .int .i64 0, .int .i64 0, .bool bo, .bool ba, .slice la lk.length lc, .slice none 0 0, .int .i64 0, .bool false, .int .u32 0, .int .i64 0] 42 (0, 0)) := by rw [← hwL]; exact alloc_new _ _
  have l4 : wL.cell? ⟨w3.heap.size, 4, none⟩ = some (.int .i64 0) := blk_cell NL rfl
  have f4 := blk_free NL 4
  have NS := Lib.hid ((show (wL.setCell ⟨w3.heap.size, 4, none⟩ (.int .i64 1)).heap[w3.heap.size]? = some (.cells #[.int .i64 1, .int .u32 rt, .int .i64 0, .int .u32 rt, .int .i64 1, .int .i64 0, .int .i64 0, .bool bo, .bool ba, .slice la lk.length lc, .slice none 0 0, .int .i64 0, .bool false, .int .u32 0, .int .i64 0] 42 (0, 0)) by
    have h := blk_set NL 4 (.int .i64 1)
    simpa using h))
  have CS : Below w3.heap.size w3 (wL.setCell ⟨w3.heap.size, 4, none⟩ (.int .i64 1)) := CL.setCell (Nat.le_refl _) _
  have B4 := Lib.hid (B3.out.trans (CS.mono B3.out.size))
  have CK4 := Lib.hid (CK2.out _ bo ba la lc lk HK3.out (HL3.out.below CS))
  rw [hwL]
  clear hwL CL NL CS CK2 B3 HK3 HL3
  go_upto_region 22 with fail
  generalize wL.setCell ⟨w3.heap.size, 4, none⟩ (.int .i64 1) = w4 at *
  clear l4 f4
  obtain ⟨⟨⟨l0, l1, l2, l3, l4⟩, ⟨l5, l6, l7, l8, l9⟩, ⟨l10, l11, l12, l13, l14⟩⟩, -⟩ := blk15 NS.out
  go_wp2_with fail
  refine CK4.out.mono ?_
  rintro e w5 ⟨rfl, G5⟩
  have B5 := Lib.hid (B4.out.trans (G5.b.mono B4.out.size))
  clear G5 CK4 B4 NS l0 l1 l2 l3 l4 l5 l6 l7 l8 l9 l10 l11 l12 l13 l14
  go_wp2_with fail
  refine (LV.out _).mono ?_
  rintro e wz ⟨rfl, BZ⟩
  have FIN := Lib.hid (B5.out.trans (BZ.mono B5.out.size))
  clear BZ
  go_wp2_with fail
  go_ret
  exact ⟨rfl, FIN.out⟩

end Go.Proofs.YtddageahmgaigaaGreat

namespace Go.Proofs.YtddageahmgaigaaGreat
open Go.ChangeShapes Go.WideShapes Go.ChangeAt Go.RowKit Go.Deep

theorem ownG : ownKnob Tryz.prog.godebug = none := by kernel_rfl

set_option maxRecDepth 100000 in
theorem originValidUpto_contract (H : Type) (enc : TypeId × Value → H) (W : World) (base : Nat) (args : Array Value) (ds gs : List (DataW H)) (before : List MemPlace)
    (hval : ∀ (j : Nat) t v, Tryz.f9.params[j]? = some t → args[j]? = some v → Value.okWide Tryz.prog W .any base t v)
    (hW : DataW.Whole enc Tryz.prog Tryz.f9.params.toList Rows.originValidSpec.vars false W args.toList ds gs before) (hk : Rows.uptoSmall H (ds ++ gs) = true) :
    Calls Tryz.prog 9 args W fun e W' => ∃ v, e = .returned v ∧ Rows.originValidSpec.post enc Tryz.prog Tryz.f9 false true false false W args v W' := by
  have hW' := hW
  obtain ⟨p, q, hA0, hV, rfl, hfz, hnd⟩ := hW
  have hA : DataW.TrodAll enc Tryz.prog W 0 (fun _ => true) true Tryz.f9.params.toList args.toList ds p := hA0
  rw [Tryz.params9] at hA hval
  obtain ⟨v0, vs0, d0, ds0, p0, q0, hargs, rfl, rfl, h0, r0⟩ := trodAll_cons hA
  obtain ⟨v1, vs1, d1, ds1, p1, q1, rfl, rfl, rfl, h1, r1⟩ := trodAll_cons r0
  obtain ⟨rfl, rfl, rfl⟩ := trodAll_nil r1
  obtain rfl : args = #[v0, v1] := by cases args; simp_all
  obtain ⟨rfl, rfl⟩ := trodVars_none hV
  clear hA0
  obtain ⟨st, ifs, rfl, hi, hg, b0, hr0, hr1⟩ := sttv_open (hval 0 32 v0 rfl rfl) h0
  obtain ⟨n1, rfl⟩ := okWide_int Tryz.underlying22 (hval 1 22 v1 rfl rfl)
  simp only [List.append_nil] at hW' hk
  have hbk : Rows.uptoBulkAll [d0, d1] ≤ 1048576 := of_decide_eq_true hk
  simp only [Rows.uptoBulkAll] at hbk
  refine (ovlaw W st n1 ifs hi hg (by omega) hr0 hr1).mono fun e W' ⟨he, hb⟩ => ?_
  subst he
  exact ⟨_, rfl, post_true (by kernel_rfl) rfl (by kernel_rfl) rfl Tryz.underlying4 ⟨rfl, rfl, rfl⟩ hW' hb⟩

set_option maxRecDepth 100000 in
theorem originValidUpto_lifted (os : Os) (started : os.Started) (H : Type) (enc : TypeId × Value → H) (F : Stop.Interp) :
    ReturnsInHanded {} Tryz.checked os 9 .any ((Rows.OpenSpec.upto Rows.originValidSpec).pre6 enc Tryz.prog Tryz.f9 Rows.originValidUptoRow.domain false) (((Rows.OpenSpec.upto Rows.originValidSpec).at F).post enc Tryz.prog Tryz.f9 false true false false) := by
  refine returnsInHanded_of_cond (C := Tryz.checked) (s := Rows.OpenSpec.upto Rows.originValidSpec) (k := Rows.uptoSmall) rfl ownG started (by kernel_rfl) Tryz.func9
    (OpenSpec.witness (enc := enc) (C := Tryz.checked) (s := Rows.OpenSpec.upto Rows.originValidSpec) (k := Rows.uptoSmall) rfl false ⟨#[], #[.agg #[.int .u32 0, .slice none 0 0, .slice none 0 0, .int .i64 0, .slice none 0 0, .slice none 0 0, .slice none 0 0, .slice none 0 0], .int .u32 0], []⟩ 8 (by kernel_rfl) (by kernel_rfl) (by kernel_rfl)
      (x := ([.agg [.agg [.lit (.int .u32 0), .nil, .nil], .lit (.int .i64 0), .nil, .nil, .nil, .nil], .lit (.int .u32 0)], [], [])) (by kernel_rfl) rfl (by kernel_rfl)) ?_
  intro W base args ds gs before hval hW _ hk _
  exact originValidUpto_contract H enc W base args ds gs before hval hW hk

theorem originValidUpto_holds : Rows.OriginValidUptoSaid :=
  OpenClaim.holds_of_cond 9 Tryz.f9 rfl rfl rfl rfl rfl rfl rfl ⟨rfl, rfl, rfl, rfl, rfl⟩ rfl rfl rfl rfl rfl (by kernel_rfl) Tryz.func9 (by kernel_rfl)
    (of_decide_eq_true (by kernel_rfl)) (by unfold Func.isWrapper; first | (rw [if_pos (by decide +kernel)]; kernel_rfl) | (rw [if_neg (by decide +kernel)]; exact ⟨rfl, rfl⟩))
    (fun os started H enc _ F => originValidUpto_lifted os started H enc F)
#print axioms originValidUpto_holds

end Go.Proofs.YtddageahmgaigaaGreat
