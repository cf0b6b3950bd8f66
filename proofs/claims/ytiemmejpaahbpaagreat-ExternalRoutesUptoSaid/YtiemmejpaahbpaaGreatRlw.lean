/-
  ExternalRoutes: the law walked.
-/
import Derived.Test.YtiemmejpaahbpaaGreatRrw
import Derived.Test.YtiemmejpaahbpaaGreatFin
import Derived.Test.YtiemmejpaahbpaaGreatSam
import Derived.Test.YtiemmejpaahbpaaGreatLiv
import Derived.IntWalk
namespace Go.Proofs.YtiemmejpaahbpaaGreat
open Go.RowKit

theorem le_sum_mem {l : List Nat} {n : Nat} (h : n ∈ l) : n ≤ l.sum := by
  induction l with
  | nil => cases h
  | cons x l ih =>
    rw [List.sum_cons]
    rcases List.mem_cons.1 h with rfl | h
    · omega
    · have := ih h; omega

theorem rfAll_off {db : List LsaD} (router : Int) {reach : List Rch} {inner : List RtH} (F : FineArgs db reach inner) {d : LsaD} (hd : d ∈ db) :
    rfAll router d.x reach inner = (offK router d.x && offOk d.x reach inner) ∧ ((offK router d.x && offOk d.x reach inner) = true → rfR d.x reach inner = offR d.x reach inner) := by
  unfold rfAll
  cases h : offK router d.x with
  | false => simp
  | true =>
    have t5 : d.x.typ = 5 := by
      unfold offK at h
      simp only [Bool.and_eq_true, decide_eq_true_eq] at h
      exact h.1.1
    obtain ⟨e1, e2⟩ := rf_ok reach inner (F.db.mem hd) t5 F.rv
    rw [e1, Bool.true_and]
    exact ⟨rfl, e2⟩

theorem tabOf_offs {db : List LsaD} (router : Int) {reach : List Rch} {inner : List RtH} (F : FineArgs db reach inner) :
    tabOf router reach inner (db.map LsaD.x) = tK (rfOffs router reach inner (db.map LsaD.x)) (rfOffs router reach inner (db.map LsaD.x)).length := by
  have key : ∀ (l : List LsaD), (∀ d ∈ l, d ∈ db) → ∀ g : Tab, (l.map LsaD.x).foldl (tabStep router reach inner) g = (rfOffs router reach inner (l.map LsaD.x)).foldl tabAdd g := by
    intro l
    induction l with
    | nil => intro _ g; rfl
    | cons d l ih =>
      intro hl g
      obtain ⟨e1, e2⟩ := rfAll_off router F (hl d (by simp))
      have h2 := ih (fun y hy => hl y (by simp [hy]))
      rw [List.map_cons, List.foldl_cons, h2]
      unfold rfOffs tabStep
      by_cases h : (offK router d.x && offOk d.x reach inner) = true
      · rw [if_pos h, List.filter_cons_of_pos (by rw [e1]; exact h), List.map_cons, List.foldl_cons, e2 h]
      · rw [if_neg h, List.filter_cons_of_neg (by rw [e1]; exact h)]
  unfold tK
  rw [List.take_length]
  exact key db (fun _ h => h) _

theorem rfOffs_off {db : List LsaD} {router : Int} {reach : List Rch} {inner : List RtH} (F : FineArgs db reach inner) {o : Rp} (h : o ∈ rfOffs router reach inner (db.map LsaD.x)) : ∃ d ∈ db, o = offR d.x reach inner := by
  unfold rfOffs at h
  obtain ⟨x, hx, rfl⟩ := List.mem_map.1 h
  obtain ⟨h1, h2⟩ := List.mem_filter.1 hx
  obtain ⟨d, hd, rfl⟩ := List.mem_map.1 h1
  obtain ⟨e1, e2⟩ := rfAll_off router F hd
  exact ⟨d, hd, e2 (by rw [← e1]; exact h2)⟩

theorem routes_same {db : List LsaD} {router : Int} {reach : List Rch} {inner : List RtH} (F : FineArgs db reach inner) {l : List Rp} (hl : l.Pairwise fun a b => Ls.pfxLt a.pfx b.pfx = true)
    (hm : ∀ r, r ∈ l ↔ tabOf router reach inner (db.map LsaD.x) r.pfx = some r) : l = rfRoutes (rfOffs router reach inner (db.map LsaD.x)) := by
  refine rfRoutes_tab _ ?_ l hl ?_
  · intro o ho
    obtain ⟨d, hd, rfl⟩ := rfOffs_off F ho
    exact Ls.asc_merge Ls.hopLin _ _
  · intro r
    rw [hm r, tabOf_offs router F]

set_option maxHeartbeats 16000000 in
set_option maxRecDepth 100000 in
theorem routes_law (w : World) (vd : Value) (db : List LsaD) (router : Int) (vr : Value) (reach : List Rch) (vi : Value) (inner : List RtH) (hd : DbAt w vd db) (hr : ReachAt w vr reach) (hi : RoutesAt w vi inner) (ok : ∀ y ∈ inner, OkP y.rt.pfx)
    (hb : hopSum reach + (inner.map fun y => y.hops.length).sum ≤ 1048576) : Calls Tryz.prog 3 #[vd, .int .u32 router, vr, vi] w (LivPost w) := by
  have CF := Lib.hid (fine_calls w vd db vr reach vi inner hd hr hi ok)
  have CR := Lib.hid (fun (F : FineArgs db reach inner) W (hb' : Below w.heap.size w W) => routes_calls W (db.map LsaD.x) vd router reach vr inner vi 1048576 (hd.below hb').1 (hr.below hb') (hi.below hb') (RBd.of_fine F hd.2 ok hb))
  have LV := Lib.hid (fun W => lives_calls W)
  have CRR : Hid (∀ (F : FineArgs db reach inner) W (hb' : Below w.heap.size w W), Calls Tryz.prog 10 #[vd, .int .u32 router, vr, vi] W (RrPost W (rfOffs router reach inner (db.map LsaD.x)))) := Lib.hid (fun F W hb' => by
    have RB := RBd.of_fine F hd.2 ok hb
    refine rroutes_calls W vd (db.map LsaD.x) router vr reach vi inner 1048576 (hd.below hb').1 ?_ ?_ ?_ ?_
    · intro x hx W2 hb2
      obtain ⟨d, hdm, rfl⟩ := List.mem_map.1 hx
      have hb3 := hb'.trans (hb2.mono hb'.size)
      refine roffer_calls _ (hd.2 _ hdm).ok router _ reach _ inner W2 (hr.below hb3) ?_ (hi.below hb3) F.rv ?_ ?_
      · omega
      · intro y hy
        have h1 : y.hops.length ≤ (inner.map fun y => y.hops.length).sum := le_sum_mem (List.mem_map.2 ⟨y, hy, rfl⟩)
        omega
      · intro _
        have h1 := rfWay_cost d.x reach inner F.rv F.rc F.ic
        have h2 := (F.db.mem hdm).c0
        have h3 := (F.db.mem hdm).c1
        exact ⟨h1.1, h1.2, h2, by omega⟩
    · intro o ho
      obtain ⟨d, hdm, rfl⟩ := rfOffs_off F ho
      exact RB.hop _ (List.mem_map.2 ⟨_, hdm, rfl⟩)
    · have := F.n1
      rw [List.length_map]
      have h2 : (db.length + 2) * 1048576 ≤ 202 * 1048576 := Nat.mul_le_mul_right _ (by omega)
      omega
    · have := F.n1
      rw [List.length_map]
      omega)
  have SM := Lib.hid (fun W v1 v2 l1 l2 h1 h2 he => sameroutes_calls W v1 v2 l1 l2 h1 h2 he)
  obtain ⟨a1, c1, e1, hl1, -⟩ := hd.1.get
  simp only [List.length_map] at e1 hl1
  obtain ⟨a2, c2, e2, hl2, -⟩ := hr.get
  obtain ⟨a3, c3, e3, hl3, -⟩ := hi.get
  subst e1 e2 e3
  have mixed : Tryz.prog.follows .mixedOrders = true := by kernel_rfl
  clear hd hr hi ok hb
  go_enter Tryz.func3, Tryz.ntmps3
  go_wp2_with fail
  refine CF.out.mono ?_
  rintro e w1 ⟨b1, rfl, B1, K1⟩
  have HB1 := Lib.hid B1
  cases b1 with
  | false =>
    clear CF CR CRR B1 K1
    go_wp2_with fail
    refine (LV.out _).mono ?_
    rintro e w9 ⟨rfl, B9⟩
    have FIN := Lib.hid (HB1.out.trans (B9.mono HB1.out.size))
    clear B9
    go_wp2_with fail
    go_ret
    exact ⟨rfl, FIN.out⟩
  | true =>
    have FA := Lib.hid (K1 rfl)
    have CR2 := Lib.hid (CR.out FA.out w1 B1)
    have CRR2 := Lib.hid (CRR.out FA.out)
    clear CF CR CRR B1 K1
    go_wp2_with fail
    refine CR2.out.mono ?_
    rintro e w2 ⟨v, l, rfl, RA, B2, PW, MEM⟩
    have HB2 := Lib.hid (HB1.out.trans (B2.mono HB1.out.size))
    have EQ := Lib.hid (routes_same FA.out PW MEM)
    have RA2 := Lib.hid RA
    obtain ⟨ar, cr, er, hlr, -⟩ := RA.get
    subst er
    clear CR2 RA B2 PW MEM
    go_wp2_with fail
    refine (CRR2.out w2 HB2.out).mono ?_
    rintro e w3 ⟨v3, l3, rfl, RA3, E3, B3⟩
    have HB3 := Lib.hid (HB2.out.trans (B3.mono HB2.out.size))
    have CS := Lib.hid (SM.out w3 _ _ _ _ (RA2.out.below B3) RA3 (EQ.out.trans E3.symm))
    obtain ⟨ar3, cr3, er3, hlr3, -⟩ := RA3.get
    subst er3
    clear CRR2 SM RA2 EQ RA3 E3 B3 FA
    go_wp2_with fail
    refine CS.out.mono ?_
    rintro e w4 ⟨rfl, B4⟩
    have HB4 := Lib.hid (HB3.out.trans (B4.mono HB3.out.size))
    clear CS B4
    go_wp2_with fail
    refine (LV.out _).mono ?_
    rintro e w9 ⟨rfl, B9⟩
    have FIN := Lib.hid (HB4.out.trans (B9.mono HB4.out.size))
    clear B9
    go_wp2_with fail
    go_ret
    exact ⟨rfl, FIN.out⟩

end Go.Proofs.YtiemmejpaahbpaaGreat
