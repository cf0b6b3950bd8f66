/-
  routinglaw30.OriginRouter.
-/
/- OriginRouter returns true for every input whose arguments are together of bulk at most 1048576, and its arguments read afterwards as before. -/
import Derived.Test.YtddageahmgaigaaGreatRrw
import Derived.Test.YtddageahmgaigaaGreatC26
import Derived.Test.YtddageahmgaigaaGreatOpl
import Derived.Test.YtddageahmgaigaaGreatLiv
import Derived.Test.YtddageahmgaigaaGreatRsb
import Derived.Deep.DeepCutAuto
import Derived.JoinedCond
namespace Go.Proofs.YtddageahmgaigaaGreat
open Go.RowKit

theorem words0 (w : World) : WordsAt w (.slice none 0 0) [] := ⟨none, 0, rfl, Nat.le_refl _, by unfold maxLen; omega, fun _ => rfl, fun h => absurd h (by simp)⟩
theorem u32_wf {n : Int} (h0 : 0 ≤ n) (h1 : n < 4294967296) : (Lit.int .u32 n).wf = true := by
  have m0 : IntKind.u32.min = 0 := by decide
  have m1 : IntKind.u32.max = 4294967295 := by decide
  simp [Lit.wf, m0, m1]
  omega

theorem addrOf_wf (nb : List Nb) (r : Int) (h : ∀ n ∈ nb, 0 ≤ n.a ∧ n.a < 4294967296) : 0 ≤ addrOf nb r ∧ addrOf nb r < 4294967296 := by
  unfold addrOf
  cases e : nb.find? fun n => decide (n.r = r) with
  | none => exact ⟨Int.le_refl _, by decide⟩
  | some n => exact h n (List.mem_of_find?_eq_some e)

/-- the links' places are keys -/
theorem lks_wf {W : World} {d : IfD} {rt : Int} (g : IfG W d) (ok : IfOk d) : ∀ x ∈ lksOf rt d, plOk (plOf x) := by
  have k1 : (Lit.int .i64 1).wf = true := by decide
  have k2 : (Lit.int .i64 2).wf = true := by decide
  have k3 : (Lit.int .i64 3).wf = true := by decide
  have S : plOk (plOf (stubL d.x)) := ⟨k3, u32_wf g.pa0 g.pa1, u32_wf ok.p0 (by have := ok.p1; show d.x.pl < 4294967296; omega)⟩
  intro x hx
  unfold lksOf at hx
  split at hx
  · obtain rfl := List.mem_singleton.1 hx; exact S
  · split at hx
    · rcases List.mem_cons.1 hx with rfl | hx
      · exact S
      · obtain ⟨r, hr, rfl⟩ := List.mem_map.1 hx
        unfold fulls at hr
        obtain ⟨n, hn, rfl⟩ := List.mem_map.1 hr
        have := g.nb n (List.mem_filter.1 hn).1
        exact ⟨k1, u32_wf this.2.1 this.2.2.1, u32_wf g.ad0 g.ad1⟩
    · split at hx
      · split at hx
        · rename_i a ha
          obtain rfl := List.mem_singleton.1 hx
          refine ⟨k2, ?_, u32_wf g.ad0 g.ad1⟩
          unfold desigP at ha
          split at ha
          · split at ha
            · cases ha
            · cases ha; exact u32_wf g.ad0 g.ad1
          · split at ha
            · cases ha
              have := addrOf_wf d.nb d.x.dr (fun n hn => ⟨(g.nb n hn).2.2.2.1, (g.nb n hn).2.2.2.2⟩)
              exact u32_wf this.1 this.2
            · cases ha
        · obtain rfl := List.mem_singleton.1 hx; exact S
      · cases hx

theorem lks_len (rt : Int) (d : IfD) : (lksOf rt d).length ≤ ifW d := by
  have h1 := fulls_len d.nb
  have h2 := len_nbW d.nb
  unfold lksOf ifW
  split
  · simp
  · split
    · simp only [List.length_cons, List.length_map]; omega
    · split
      · split <;> simp
      · simp
theorem linksK_sum (rt area : Int) (l : List IfD) : (linksK rt area l l.length).length ≤ (l.map ifW).sum := by
  unfold linksK
  rw [List.take_length]
  induction l with
  | nil => simp
  | cons d r ih =>
    have h := lks_len rt d
    cases e : selI area d with
    | true => rw [List.filter_cons_of_pos e, List.flatMap_cons, List.length_append, List.map_cons, List.sum_cons]; omega
    | false => rw [List.filter_cons_of_neg (by simp [e]), List.map_cons, List.sum_cons]; omega

theorem ifW_mem {l : List IfD} {d : IfD} (h : d ∈ l) : ifW d ≤ (l.map ifW).sum := mem_sum ifW l d h
theorem nbW_mem {l : List Nb} {n : Nb} (h : n ∈ l) : nbW n ≤ (l.map nbW).sum := mem_sum nbW l n h

theorem accB_ok {l : List IfD} (h : accB l = true) : ∀ d ∈ l, IfOk d := by
  intro d hd
  unfold accB at h
  have := chk26_ok (of_decide_eq_true (List.all_eq_true.1 h d hd))
  exact ⟨this.1, this.2.1, this.2.2.1, this.2.2.2⟩

def StB (w : World) (c : Array Value) (wx : World) : Prop := wx.heap[w.heap.size]? = some (.cells c 32 (0, 0)) ∧ Below w.heap.size w wx

set_option maxHeartbeats 16000000 in
set_option maxRecDepth 100000 in
theorem rtlaw (w : World) (s : Stt) (area : Int) (ifs : List IfD) (hi : IfsAt w (.slice s.ia s.iN s.ic) ifs) (hg : ∀ d ∈ ifs, IfG w d) (hs : (ifs.map ifW).sum ≤ 1048576) :
    Calls Tryz.prog 3 #[.agg (sttE s).toArray, .int .u32 area] w fun e w' => e = .returned (.bool true) ∧ Below w.heap.size w w' := by
  have LV := Lib.hid lives_calls
  have OD := Lib.hid (fun W (hb : Below w.heap.size w W) => ordered_calls W _ ifs (hi.below hb))
  have AC := Lib.hid (fun W (hb : Below w.heap.size w W) => accepted_calls W _ ifs (hi.below hb) (fun d hd => ⟨(hg d hd).pa0, (hg d hd).pa1, (hg d hd).ad0, (hg d hd).ad1⟩))
  have HN : (linksK s.rt area ifs ifs.length).length ≤ 4194304 := by have := linksK_sum s.rt area ifs; omega
  have RT := Lib.hid (fun (o : ∀ d ∈ ifs, NbOrd d.nb) (ok : accB ifs = true) W (hb : Below w.heap.size w W) => router_calls W s area ifs (hi.below hb)
    (fun d hd _ W' hb' => links_calls2 d s.rt W' (accB_ok ok d hd) ((hg d hd).inn.below (hb.trans (hb'.mono hb.size))) (by have h1 := ifW_mem hd; have h2 := len_nbW d.nb; have h3 : ifW d = 1 + (d.nb.map nbW).sum := rfl; omega) (fun n hn => by have h1 := ifW_mem hd; have h2 := nbW_mem hn; have h3 : ifW d = 1 + (d.nb.map nbW).sum := rfl; have h4 : nbW n = 1 + (n.v9.n + n.v10.n + n.v12.n + n.v13.n) := rfl; omega))
    (fun d hd => lks_wf (hg d hd) (accB_ok ok d hd)) HN)
  have RR := Lib.hid (fun (o : ∀ d ∈ ifs, NbOrd d.nb) (ok : accB ifs = true) W (hb : Below w.heap.size w W) => rrouter_calls W s area ifs (hi.below hb) (accB_ok ok) (fun d hd => (o d hd).2) HN)
  have SM : Hid (∀ W la lc la' lc' lk bo ba, LnksAt W (.slice la lk.length lc) lk → LnksAt W (.slice la' lk.length lc') lk → Calls Tryz.prog 13 #[.agg (lsaE (lsaLk (rtL s.rt bo ba) la lk.length lc)).toArray, .agg (lsaE (lsaLk (rtL s.rt bo ba) la' lk.length lc')).toArray] W (EqPost W true)) := Lib.hid (fun W la lc la' lc' lk bo ba h1 h2 => by
    have hc := rsame_calls (lsaLk (rtL s.rt bo ba) la lk.length lc) (lsaLk (rtL s.rt bo ba) la' lk.length lc') lk lk [] [] W h1 h2 (words0 W) (words0 W)
    rw [decide_eq_true (show SameH (lsaLk (rtL s.rt bo ba) la lk.length lc) (lsaLk (rtL s.rt bo ba) la' lk.length lc') ∧ SameB (lsaLk (rtL s.rt bo ba) la lk.length lc) (lsaLk (rtL s.rt bo ba) la' lk.length lc') lk lk [] [] from ⟨⟨rfl, rfl, rfl, rfl, rfl, rfl, rfl⟩, rfl, rfl, rfl, rfl, rfl, rfl, rfl, rfl, rfl⟩)] at hc
    exact hc)
  have mixed : Tryz.prog.follows .mixedOrders = true := by kernel_rfl
  clear hi hg hs HN
  obtain ⟨rt, ⟨cia, cin, cic⟩, ⟨cra, crn, crc⟩, now, a1, iN, c1, ⟨ara, arn, arc⟩, ⟨exa, exn, exc⟩, ⟨ana, ann, anc⟩⟩ := s
  simp only [sttE] at OD AC RT RR SM ⊢
  simp only [lsaE, lsaLk, rtL] at SM
  obtain ⟨W0, hW0⟩ : ∃ W0, w.alloc (.cells #[.int .u32 rt, .slice cia cin cic, .slice cra crn crc, .int .i64 now, .slice a1 iN c1, .slice ara arn arc, .slice exa exn exc, .slice ana ann anc] 32) = W0 := ⟨_, rfl⟩
  have B0 : Hid (Below w.heap.size w W0) := Lib.hid (by rw [← hW0]; exact (Below.refl _ _).alloc (Nat.le_refl _) _)
  have X0 : Hid (W0.heap[w.heap.size]? = some (.cells #[.int .u32 rt, .slice cia cin cic, .slice cra crn crc, .int .i64 now, .slice a1 iN c1, .slice ara arn arc, .slice exa exn exc, .slice ana ann anc] 32 (0, 0))) := Lib.hid (by rw [← hW0]; exact alloc_new _ _)
  have HW0 := Lib.hid hW0
  clear hW0
  have y0 : W0.cell? ⟨w.heap.size, 0, none⟩ = some (.int .u32 rt) := blk_cell X0.out rfl
  have y4 : W0.cell? ⟨w.heap.size, 4, none⟩ = some (.slice a1 iN c1) := blk_cell X0.out rfl
  by_cases q0 : rt = 0
  · subst q0
    clear OD AC RT RR SM
    go_enter Tryz.func3, Tryz.ntmps3
    go_upto_region 1 with fail
    rw [HW0.out]
    go_wp2_with fail
    refine (LV.out _).mono ?_
    rintro e w4 ⟨rfl, B4⟩
    have FIN := Lib.hid (B0.out.trans (B4.mono B0.out.size))
    clear B4
    go_wp2_with fail
    go_ret
    exact ⟨rfl, FIN.out⟩
  have q0' : (rt == 0) = false := by simpa using q0
  have OD0 := Lib.hid (OD.out W0 B0.out)
  clear OD q0
  go_enter Tryz.func3, Tryz.ntmps3
  go_upto_region 1 with fail
  rw [HW0.out]
  go_wp2_with fail
  refine OD0.out.mono ?_
  rintro e w1 ⟨ob, rfl, G1, HO⟩
  have B1 := Lib.hid (B0.out.trans (G1.b.mono B0.out.size))
  have X1 := Lib.hid ((G1.b.block _ (blk_lt X0.out)).trans X0.out)
  have HOO := Lib.hid HO
  clear G1 HO y0 y4 OD0 B0 X0 HW0
  cases ob with
  | false =>
    clear AC RT RR SM
    go_wp2_with fail
    refine (LV.out _).mono ?_
    rintro e w4 ⟨rfl, B4⟩
    have FIN := Lib.hid (B1.out.trans (B4.mono B1.out.size))
    clear B4
    go_wp2_with fail
    go_ret
    exact ⟨rfl, FIN.out⟩
  | true =>
  have O := Lib.hid (HOO.out rfl)
  have y4 : w1.cell? ⟨w.heap.size, 4, none⟩ = some (.slice a1 iN c1) := blk_cell X1.out rfl
  have AC1 := Lib.hid (AC.out w1 B1.out)
  clear AC HOO
  cases hac : accB ifs with
  | false =>
    rw [hac] at AC1
    clear RT RR SM hac
    go_wp2_with fail
    refine AC1.out.mono ?_
    rintro e w2 ⟨rfl, G2⟩
    have B2 := Lib.hid (B1.out.trans (G2.b.mono B1.out.size))
    clear G2
    go_wp2_with fail
    refine (LV.out _).mono ?_
    rintro e w4 ⟨rfl, B4⟩
    have FIN := Lib.hid (B2.out.trans (B4.mono B2.out.size))
    clear B4
    go_wp2_with fail
    go_ret
    exact ⟨rfl, FIN.out⟩
  | true =>
  rw [hac] at AC1
  have OK := Lib.hid hac
  clear hac
  go_wp2_with fail
  refine AC1.out.mono ?_
  rintro e w2 ⟨rfl, G2⟩
  have B2 := Lib.hid (B1.out.trans (G2.b.mono B1.out.size))
  have X2 := Lib.hid ((G2.b.block _ (blk_lt X1.out)).trans X1.out)
  have RT2 := Lib.hid (RT.out O.out OK.out)
  have RR2 := Lib.hid (RR.out O.out OK.out)
  clear G2 AC1 B1 X1 y4 RT RR
  go_upto_region 3 with fail
  have d0 : w2.cell? ⟨w.heap.size, 0, none⟩ = some (.int .u32 rt) := blk_cell X2.out rfl
  have d1 : w2.cell? ⟨w.heap.size, 1, none⟩ = some (.slice cia cin cic) := blk_cell X2.out rfl
  have d2 : w2.cell? ⟨w.heap.size, 2, none⟩ = some (.slice cra crn crc) := blk_cell X2.out rfl
  have d3 : w2.cell? ⟨w.heap.size, 3, none⟩ = some (.int .i64 now) := blk_cell X2.out rfl
  have d4 : w2.cell? ⟨w.heap.size, 4, none⟩ = some (.slice a1 iN c1) := blk_cell X2.out rfl
  have d5 : w2.cell? ⟨w.heap.size, 5, none⟩ = some (.slice ara arn arc) := blk_cell X2.out rfl
  have d6 : w2.cell? ⟨w.heap.size, 6, none⟩ = some (.slice exa exn exc) := blk_cell X2.out rfl
  have d7 : w2.cell? ⟨w.heap.size, 7, none⟩ = some (.slice ana ann anc) := blk_cell X2.out rfl
  go_region_held3 (fun W' => W'.cell? ⟨w.heap.size, 0, none⟩ = some (.int .u32 rt) ∧ W'.cell? ⟨w.heap.size, 1, none⟩ = some (.slice cia cin cic) ∧ W'.cell? ⟨w.heap.size, 2, none⟩ = some (.slice cra crn crc) ∧ W'.cell? ⟨w.heap.size, 3, none⟩ = some (.int .i64 now) ∧ W'.cell? ⟨w.heap.size, 4, none⟩ = some (.slice a1 iN c1) ∧ W'.cell? ⟨w.heap.size, 5, none⟩ = some (.slice ara arn arc) ∧ W'.cell? ⟨w.heap.size, 6, none⟩ = some (.slice exa exn exc) ∧ W'.cell? ⟨w.heap.size, 7, none⟩ = some (.slice ana ann anc)) (first | with_reducible exact ⟨d0, d1, d2, d3, d4, d5, d6, d7⟩ | with_reducible exact ⟨s0, s1, s2, s3, s4, s5, s6, s7⟩ | with_reducible exact ⟨t0, t1, t2, t3, t4, t5, t6, t7⟩ | with_reducible exact ⟨h0, h1, h2, h3, h4, h5, h6, h7⟩ | with_reducible exact ⟨l0, l1, l2, l3, l4, l5, l6, l7⟩ | go_keep)
    (first
    | (go_at_call 14; (with_reducible refine (RT2.out _ (by first | exact B2.out.drew | exact B2.out)).mono ?_); rintro e wa ⟨aa, ca, lk, rfl, LA, OA, BA⟩; simp only [lsaE, lsaLk, rtL]; have RA : Hid (Below w.heap.size w wa) := Lib.hid (by first | exact B2.out.drew.trans (BA.mono B2.out.size) | exact B2.out.trans (BA.mono B2.out.size)); have XA := Lib.hid ((BA.block _ (blk_lt X2.out)).trans X2.out); have HLA := Lib.hid LA; have HOA := Lib.hid OA; have s0 : wa.cell? ⟨w.heap.size, 0, none⟩ = some (.int .u32 rt) := blk_cell XA.out rfl; have s1 : wa.cell? ⟨w.heap.size, 1, none⟩ = some (.slice cia cin cic) := blk_cell XA.out rfl; have s2 : wa.cell? ⟨w.heap.size, 2, none⟩ = some (.slice cra crn crc) := blk_cell XA.out rfl; have s3 : wa.cell? ⟨w.heap.size, 3, none⟩ = some (.int .i64 now) := blk_cell XA.out rfl; have s4 : wa.cell? ⟨w.heap.size, 4, none⟩ = some (.slice a1 iN c1) := blk_cell XA.out rfl; have s5 : wa.cell? ⟨w.heap.size, 5, none⟩ = some (.slice ara arn arc) := blk_cell XA.out rfl; have s6 : wa.cell? ⟨w.heap.size, 6, none⟩ = some (.slice exa exn exc) := blk_cell XA.out rfl; have s7 : wa.cell? ⟨w.heap.size, 7, none⟩ = some (.slice ana ann anc) := blk_cell XA.out rfl; clear LA OA BA)
    | (go_at_call 15; (with_reducible refine (RR2.out _ (by first | exact RA.out | exact RA.out.drew)).mono ?_); rintro e wb ⟨ab, cb, lkb, rfl, LB, OB, BB⟩; have e9 := HOA.out.one OB (fun _ => Iff.rfl); subst e9; simp only [lsaE, lsaLk, rtL]; have RB : Hid (Below w.heap.size w wb) := Lib.hid (RA.out.trans (BB.mono RA.out.size)); have XB := Lib.hid ((BB.block _ (blk_lt XA.out)).trans XA.out); have HLA2 := Lib.hid (HLA.out.below BB); have HLB := Lib.hid LB; have t0 : wb.cell? ⟨w.heap.size, 0, none⟩ = some (.int .u32 rt) := blk_cell XB.out rfl; have t1 : wb.cell? ⟨w.heap.size, 1, none⟩ = some (.slice cia cin cic) := blk_cell XB.out rfl; have t2 : wb.cell? ⟨w.heap.size, 2, none⟩ = some (.slice cra crn crc) := blk_cell XB.out rfl; have t3 : wb.cell? ⟨w.heap.size, 3, none⟩ = some (.int .i64 now) := blk_cell XB.out rfl; have t4 : wb.cell? ⟨w.heap.size, 4, none⟩ = some (.slice a1 iN c1) := blk_cell XB.out rfl; have t5 : wb.cell? ⟨w.heap.size, 5, none⟩ = some (.slice ara arn arc) := blk_cell XB.out rfl; have t6 : wb.cell? ⟨w.heap.size, 6, none⟩ = some (.slice exa exn exc) := blk_cell XB.out rfl; have t7 : wb.cell? ⟨w.heap.size, 7, none⟩ = some (.slice ana ann anc) := blk_cell XB.out rfl; clear LB OB BB)
    | (go_at_call 13; (with_reducible refine (SM.out _ aa ca ab cb _ _ _ HLA2.out HLB.out).mono ?_); rintro e wc ⟨rfl, GC⟩; have RC : Hid (Below w.heap.size w wc) := Lib.hid (RB.out.trans (GC.b.mono RB.out.size)); have XC := Lib.hid ((GC.b.block _ (blk_lt XB.out)).trans XB.out); have h0 : wc.cell? ⟨w.heap.size, 0, none⟩ = some (.int .u32 rt) := blk_cell XC.out rfl; have h1 : wc.cell? ⟨w.heap.size, 1, none⟩ = some (.slice cia cin cic) := blk_cell XC.out rfl; have h2 : wc.cell? ⟨w.heap.size, 2, none⟩ = some (.slice cra crn crc) := blk_cell XC.out rfl; have h3 : wc.cell? ⟨w.heap.size, 3, none⟩ = some (.int .i64 now) := blk_cell XC.out rfl; have h4 : wc.cell? ⟨w.heap.size, 4, none⟩ = some (.slice a1 iN c1) := blk_cell XC.out rfl; have h5 : wc.cell? ⟨w.heap.size, 5, none⟩ = some (.slice ara arn arc) := blk_cell XC.out rfl; have h6 : wc.cell? ⟨w.heap.size, 6, none⟩ = some (.slice exa exn exc) := blk_cell XC.out rfl; have h7 : wc.cell? ⟨w.heap.size, 7, none⟩ = some (.slice ana ann anc) := blk_cell XC.out rfl; clear GC)
    | (go_at_call 12; (with_reducible refine (LV.out _).mono ?_); rintro e wd ⟨rfl, BD⟩; have RD : Hid (Below w.heap.size w wd) := Lib.hid (RC.out.trans (BD.mono RC.out.size)); have XD := Lib.hid ((BD.block _ (blk_lt XC.out)).trans XC.out); have l0 : wd.cell? ⟨w.heap.size, 0, none⟩ = some (.int .u32 rt) := blk_cell XD.out rfl; have l1 : wd.cell? ⟨w.heap.size, 1, none⟩ = some (.slice cia cin cic) := blk_cell XD.out rfl; have l2 : wd.cell? ⟨w.heap.size, 2, none⟩ = some (.slice cra crn crc) := blk_cell XD.out rfl; have l3 : wd.cell? ⟨w.heap.size, 3, none⟩ = some (.int .i64 now) := blk_cell XD.out rfl; have l4 : wd.cell? ⟨w.heap.size, 4, none⟩ = some (.slice a1 iN c1) := blk_cell XD.out rfl; have l5 : wd.cell? ⟨w.heap.size, 5, none⟩ = some (.slice ara arn arc) := blk_cell XD.out rfl; have l6 : wd.cell? ⟨w.heap.size, 6, none⟩ = some (.slice exa exn exc) := blk_cell XD.out rfl; have l7 : wd.cell? ⟨w.heap.size, 7, none⟩ = some (.slice ana ann anc) := blk_cell XD.out rfl; clear BD))
  all_goals
    have FIN := Lib.hid RD.out
    clear RA RB RC RD XA XB XC XD
    go_wp2_with fail
    go_ret
    exact ⟨rfl, FIN.out⟩

end Go.Proofs.YtddageahmgaigaaGreat

namespace Go.Proofs.YtddageahmgaigaaGreat
open Go.ChangeShapes Go.WideShapes Go.ChangeAt Go.RowKit Go.Deep

theorem ownG : ownKnob Tryz.prog.godebug = none := by kernel_rfl

set_option maxRecDepth 100000 in
theorem originRouterUpto_contract (H : Type) (enc : TypeId × Value → H) (W : World) (base : Nat) (args : Array Value) (ds gs : List (DataW H)) (before : List MemPlace)
    (hval : ∀ (j : Nat) t v, Tryz.f3.params[j]? = some t → args[j]? = some v → Value.okWide Tryz.prog W .any base t v)
    (hW : DataW.Whole enc Tryz.prog Tryz.f3.params.toList Rows.originRouterSpec.vars false W args.toList ds gs before) (hk : Rows.uptoSmall H (ds ++ gs) = true) :
    Calls Tryz.prog 3 args W fun e W' => ∃ v, e = .returned v ∧ Rows.originRouterSpec.post enc Tryz.prog Tryz.f3 false true false false W args v W' := by
  have hW' := hW
  obtain ⟨p, q, hA0, hV, rfl, hfz, hnd⟩ := hW
  have hA : DataW.TrodAll enc Tryz.prog W 0 (fun _ => true) true Tryz.f3.params.toList args.toList ds p := hA0
  rw [Tryz.params3] at hA hval
  obtain ⟨v0, vs0, d0, ds0, p0, q0, hargs, rfl, rfl, h0, r0⟩ := trodAll_cons hA
  obtain ⟨v1, vs1, d1, ds1, p1, q1, rfl, rfl, rfl, h1, r1⟩ := trodAll_cons r0
  obtain ⟨rfl, rfl, rfl⟩ := trodAll_nil r1
  obtain rfl : args = #[v0, v1] := by cases args; simp_all
  obtain ⟨rfl, rfl⟩ := trodVars_none hV
  clear hA0
  obtain ⟨st, ifs, rfl, hi, hg, b0, -, -⟩ := sttv_open (hval 0 32 v0 rfl rfl) h0
  obtain ⟨n1, rfl⟩ := okWide_int Tryz.underlying22 (hval 1 22 v1 rfl rfl)
  simp only [List.append_nil] at hW' hk
  have hbk : Rows.uptoBulkAll [d0, d1] ≤ 1048576 := of_decide_eq_true hk
  simp only [Rows.uptoBulkAll] at hbk
  refine (rtlaw W st n1 ifs hi hg (by omega)).mono fun e W' ⟨he, hb⟩ => ?_
  subst he
  exact ⟨_, rfl, post_true (by kernel_rfl) rfl (by kernel_rfl) rfl Tryz.underlying4 ⟨rfl, rfl, rfl⟩ hW' hb⟩

set_option maxRecDepth 100000 in
theorem originRouterUpto_lifted (os : Os) (started : os.Started) (H : Type) (enc : TypeId × Value → H) (F : Stop.Interp) :
    ReturnsInHanded {} Tryz.checked os 3 .any ((Rows.OpenSpec.upto Rows.originRouterSpec).pre6 enc Tryz.prog Tryz.f3 Rows.originRouterUptoRow.domain false) (((Rows.OpenSpec.upto Rows.originRouterSpec).at F).post enc Tryz.prog Tryz.f3 false true false false) := by
  refine returnsInHanded_of_cond (C := Tryz.checked) (s := Rows.OpenSpec.upto Rows.originRouterSpec) (k := Rows.uptoSmall) rfl ownG started (by kernel_rfl) Tryz.func3
    (OpenSpec.witness (enc := enc) (C := Tryz.checked) (s := Rows.OpenSpec.upto Rows.originRouterSpec) (k := Rows.uptoSmall) rfl false ⟨#[], #[.agg #[.int .u32 0, .slice none 0 0, .slice none 0 0, .int .i64 0, .slice none 0 0, .slice none 0 0, .slice none 0 0, .slice none 0 0], .int .u32 0], []⟩ 8 (by kernel_rfl) (by kernel_rfl) (by kernel_rfl)
      (x := ([.agg [.agg [.lit (.int .u32 0), .nil, .nil], .lit (.int .i64 0), .nil, .nil, .nil, .nil], .lit (.int .u32 0)], [], [])) (by kernel_rfl) rfl (by kernel_rfl)) ?_
  intro W base args ds gs before hval hW _ hk _
  exact originRouterUpto_contract H enc W base args ds gs before hval hW hk

theorem originRouterUpto_holds : Rows.OriginRouterUptoSaid :=
  OpenClaim.holds_of_cond 3 Tryz.f3 rfl rfl rfl rfl rfl rfl rfl ⟨rfl, rfl, rfl, rfl, rfl⟩ rfl rfl rfl rfl rfl (by kernel_rfl) Tryz.func3 (by kernel_rfl)
    (of_decide_eq_true (by kernel_rfl)) (by unfold Func.isWrapper; first | (rw [if_pos (by decide +kernel)]; kernel_rfl) | (rw [if_neg (by decide +kernel)]; exact ⟨rfl, rfl⟩))
    (fun os started H enc _ F => originRouterUpto_lifted os started H enc F)
#print axioms originRouterUpto_holds

end Go.Proofs.YtddageahmgaigaaGreat
