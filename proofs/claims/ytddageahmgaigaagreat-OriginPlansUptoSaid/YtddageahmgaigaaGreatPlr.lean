import Derived.Test.YtddageahmgaigaaGreatPln
import Derived.Test.YtddageahmgaigaaGreatRpl
import Derived.Test.YtddageahmgaigaaGreatEqd
import Derived.Test.YtddageahmgaigaaGreatLiv
import Derived.Test.YtddageahmgaigaaGreatOpw
import Derived.Deep.DeepCutAuto
import Derived.JoinedCond
namespace Go.Proofs.YtddageahmgaigaaGreat
open Go.RowKit

theorem i64_wf {n : Int} (h0 : -9223372036854775808 ≤ n) (h1 : n ≤ 9223372036854775807) : (Lit.int .i64 n).wf = true := by
  have m0 : IntKind.i64.min = -9223372036854775808 := by decide
  have m1 : IntKind.i64.max = 9223372036854775807 := by decide
  simp [Lit.wf, m0, m1]
  omega
theorem w32_wf {n : Int} (h0 : 0 ≤ n) (h1 : n < 4294967296) : (Lit.int .u32 n).wf = true := by
  have m0 : IntKind.u32.min = 0 := by decide
  have m1 : IntKind.u32.max = 4294967295 := by decide
  simp [Lit.wf, m0, m1]
  omega
theorem DbOk.keys {w : World} {v : Value} {db : List LsaD} (h : DbOk db) (hd : DbAt w v db) : ∀ d ∈ db, lkOk (keyD d) := by
  intro d hm
  have o := (h.at hm).ok
  have l := (hd.2 d hm).ok
  exact ⟨i64_wf (by show -9223372036854775808 ≤ d.x.typ; have := o.t0; omega) (by show d.x.typ ≤ 9223372036854775807; have := o.t1; omega), w32_wf l.id0 l.id1, i64_wf (by show -9223372036854775808 ≤ d.x.len; have := o.l0; omega) (by show d.x.len ≤ 9223372036854775807; have := o.l1; omega), w32_wf l.r0 l.r1⟩

structure PlHy (w : World) (v v2 : Value) (db wt : List LsaD) : Prop where
  hdb : DbAt w v db
  hl : ∀ d ∈ db, d.lk.length ≤ 1048576 ∧ d.att.length ≤ 1048576
  hwt : DbAt w v2 wt
  wl : ∀ d ∈ wt, d.lk.length ≤ 1048576 ∧ d.att.length ≤ 1048576
  wk : ∀ d ∈ wt, lkOk (keyD d)
  wn : wt.length ≤ 1048576

set_option maxHeartbeats 16000000 in
set_option maxRecDepth 100000 in
theorem planslaw (w : World) (v v2 : Value) (db wt : List LsaD) (rt : Int) (H : PlHy w v v2 db wt) :
    Calls Tryz.prog 5 #[v, .int .u32 rt, v2] w fun e w' => e = .returned (.bool true) ∧ Below w.heap.size w w' := by
  have LV := Lib.hid lives_calls
  have CK := Lib.hid (dbcheck_calls w v db H.hdb)
  have BD := Lib.hid (fun W (hb : Below w.heap.size w W) => bodies_calls W v2 (wt.map LsaD.x) (H.hwt.1.below hb))
  have PP := Lib.hid (fun (D : DbOk db) (hn : db.length ≤ 2000) W (hb : Below w.heap.size w W) => plan_calls W v v2 db wt rt ⟨H.hdb.below hb, H.hl, D⟩ (by omega) (H.hwt.below hb) H.wl H.wk (D.keys H.hdb) H.wn)
  have RP := Lib.hid (fun (D : DbOk db) (hn : db.length ≤ 2000) W (hb : Below w.heap.size w W) => rplan_calls W v v2 db wt rt ⟨H.hdb.below hb, H.hl, D⟩ (by omega) (H.hwt.below hb) H.wl H.wn)
  obtain ⟨wa, wc, rfl, -, -⟩ := H.hwt.1.get
  obtain ⟨nv, hnv⟩ : ∃ nv, (wt.map LsaD.x).length = nv := ⟨_, rfl⟩
  obtain ⟨wx, hwx⟩ : ∃ wx, wt.map LsaD.x = wx := ⟨_, rfl⟩
  rw [hwx] at hnv
  rw [hwx, hnv] at BD PP RP
  rw [hwx, hnv]
  clear H hnv hwx
  go_enter Tryz.func5, Tryz.ntmps5
  go_wp2_with fail
  refine CK.out.mono ?_
  rintro e w1 ⟨c, rfl, B1, HC⟩
  have HB1 := Lib.hid B1
  have HDB := Lib.hid HC
  clear B1 HC CK
  by_cases hc : c = 0
  case neg =>
    have q1 : (c != 0) = true := by simpa using hc
    clear hc BD PP RP
    go_wp2_with fail
    refine (LV.out _).mono ?_
    rintro e w4 ⟨rfl, B4⟩
    have FIN := Lib.hid (HB1.out.trans (B4.mono HB1.out.size))
    clear B4
    go_wp2_with fail
    go_ret
    exact ⟨rfl, FIN.out⟩
  case pos =>
  subst hc
  have DD := Lib.hid (HDB.out rfl)
  clear HDB
  have BD1 := Lib.hid (BD.out w1 HB1.out)
  clear BD
  go_wp2_with fail
  refine BD1.out.mono ?_
  rintro e w2 ⟨rfl, G2⟩
  have HB2 := Lib.hid (HB1.out.trans (G2.b.mono HB1.out.size))
  clear BD1 G2 HB1
  cases hbb : bodB wx with
  | false =>
    clear hbb PP RP
    go_wp2_with fail
    refine (LV.out _).mono ?_
    rintro e w4 ⟨rfl, B4⟩
    have FIN := Lib.hid (HB2.out.trans (B4.mono HB2.out.size))
    clear B4
    go_wp2_with fail
    go_ret
    exact ⟨rfl, FIN.out⟩
  | true =>
  clear hbb
  by_cases hn : 200 < nv
  case pos =>
    have q2 : decide (200 < nv) = true := decide_eq_true hn
    have q3 : decide ((200 : Int) < (nv : Int)) = true := decide_eq_true (by omega)
    clear hn PP RP
    go_wp2_with fail
    refine (LV.out _).mono ?_
    rintro e w4 ⟨rfl, B4⟩
    have FIN := Lib.hid (HB2.out.trans (B4.mono HB2.out.size))
    clear B4
    go_wp2_with fail
    go_ret
    exact ⟨rfl, FIN.out⟩
  case neg =>
  have q2 : decide (200 < nv) = false := decide_eq_false hn
  have q3 : decide ((200 : Int) < (nv : Int)) = false := decide_eq_false (by omega)
  have PP2 := Lib.hid (PP.out DD.out.2 DD.out.1 w2 HB2.out)
  have RP2 := Lib.hid (RP.out DD.out.2 DD.out.1)
  clear hn PP RP DD
  go_wp2_with fail
  refine PP2.out.mono ?_
  rintro e w3 ⟨c1, l1, p1, xs, hi1, rfl, R1, e1, B3⟩
  have HB3 := Lib.hid (HB2.out.trans (B3.mono HB2.out.size))
  have RP3 := Lib.hid (RP2.out w3 HB3.out)
  have HR1 := Lib.hid R1
  clear PP2 RP2 B3 HB2 R1
  go_wp2_with fail
  refine RP3.out.mono ?_
  rintro e w4 ⟨c2, l2, p2, ys, hi2, rfl, R2, e2, B4⟩
  obtain ⟨rfl, rfl⟩ := hi1.one hi2
  have HB4 := Lib.hid (HB3.out.trans (B4.mono HB3.out.size))
  have EQ := Lib.hid (equalD_calls w4 p1 p2 xs ys (HR1.out.below B4) R2 (e1.trans e2.symm))
  clear RP3 B4 HB3 HR1 R2 hi1 hi2 e1 e2
  go_wp2_with fail
  refine EQ.out.mono ?_
  rintro e w5 ⟨rfl, G5⟩
  have HB5 := Lib.hid (HB4.out.trans (G5.b.mono HB4.out.size))
  clear EQ G5 HB4
  go_wp2_with fail
  refine (LV.out _).mono ?_
  rintro e w6 ⟨rfl, B6⟩
  have FIN := Lib.hid (HB5.out.trans (B6.mono HB5.out.size))
  clear B6
  go_wp2_with fail
  go_ret
  exact ⟨rfl, FIN.out⟩

end Go.Proofs.YtddageahmgaigaaGreat

namespace Go.Proofs.YtddageahmgaigaaGreat
open Go.ChangeShapes Go.WideShapes Go.ChangeAt Go.RowKit Go.Deep

theorem ownG : ownKnob Tryz.prog.godebug = none := by kernel_rfl

set_option maxRecDepth 100000 in
theorem originPlansUpto_contract (H : Type) (enc : TypeId × Value → H) (W : World) (base : Nat) (args : Array Value) (ds gs : List (DataW H)) (before : List MemPlace)
    (hval : ∀ (j : Nat) t v, Tryz.f5.params[j]? = some t → args[j]? = some v → Value.okWide Tryz.prog W .any base t v)
    (hW : DataW.Whole enc Tryz.prog Tryz.f5.params.toList Rows.originPlansSpec.vars false W args.toList ds gs before) (hk : Rows.uptoSmall H (ds ++ gs) = true) :
    Calls Tryz.prog 5 args W fun e W' => ∃ v, e = .returned v ∧ Rows.originPlansSpec.post enc Tryz.prog Tryz.f5 false true false false W args v W' := by
  have hW' := hW
  obtain ⟨p, q, hA0, hV, rfl, hfz, hnd⟩ := hW
  have hA : DataW.TrodAll enc Tryz.prog W 0 (fun _ => true) true Tryz.f5.params.toList args.toList ds p := hA0
  rw [Tryz.params5] at hA hval
  obtain ⟨v0, vs0, d0, ds0, p0, q0, hargs, rfl, rfl, h0, r0⟩ := trodAll_cons hA
  obtain ⟨v1, vs1, d1, ds1, p1, q1, rfl, rfl, rfl, h1, r1⟩ := trodAll_cons r0
  obtain ⟨v2, vs2, d2, ds2, p2, q2, rfl, rfl, rfl, h2, r2⟩ := trodAll_cons r1
  obtain ⟨rfl, rfl, rfl⟩ := trodAll_nil r2
  obtain rfl : args = #[v0, v1, v2] := by cases args; simp_all
  obtain ⟨rfl, rfl⟩ := trodVars_none hV
  clear hA0
  obtain ⟨a0, n0, c0, rfl⟩ := okWide_slice Tryz.underlying29 (hval 0 29 v0 rfl rfl)
  obtain ⟨n1, rfl⟩ := okWide_int Tryz.underlying22 (hval 1 22 v1 rfl rfl)
  obtain ⟨a2, n2, c2, rfl⟩ := okWide_slice Tryz.underlying29 (hval 2 29 v2 rfl rfl)
  obtain ⟨fuel0, hf0⟩ := h0
  obtain ⟨fuel2, hf2⟩ := h2
  obtain ⟨db, hdb, n0, b0⟩ := db_open hf0
  obtain ⟨wt, hwt, wk, n2, b2⟩ := dbk_open hf2
  simp only [List.append_nil] at hW' hk
  have hbk : Rows.uptoBulkAll [d0, d1, d2] ≤ 1048576 := of_decide_eq_true hk
  simp only [Rows.uptoBulkAll] at hbk
  simp only at b0 b2 n2
  refine (planslaw W _ _ db wt n1 ⟨hdb, fun d hd => by have := mem_sum (fun d : LsaD => d.lk.length + d.att.length) db d hd; omega, hwt, fun d hd => by have := mem_sum (fun d : LsaD => d.lk.length + d.att.length) wt d hd; omega, wk, by omega⟩).mono fun e W' ⟨he, hb⟩ => ?_
  subst he
  exact ⟨_, rfl, post_true (by kernel_rfl) rfl (by kernel_rfl) rfl Tryz.underlying4 ⟨rfl, rfl, rfl⟩ hW' hb⟩

set_option maxRecDepth 100000 in
theorem originPlansUpto_lifted (os : Os) (started : os.Started) (H : Type) (enc : TypeId × Value → H) (F : Stop.Interp) :
    ReturnsInHanded {} Tryz.checked os 5 .any ((Rows.OpenSpec.upto Rows.originPlansSpec).pre6 enc Tryz.prog Tryz.f5 Rows.originPlansUptoRow.domain false) (((Rows.OpenSpec.upto Rows.originPlansSpec).at F).post enc Tryz.prog Tryz.f5 false true false false) := by
  refine returnsInHanded_of_cond (C := Tryz.checked) (s := Rows.OpenSpec.upto Rows.originPlansSpec) (k := Rows.uptoSmall) rfl ownG started (by kernel_rfl) Tryz.func5
    (OpenSpec.witness (enc := enc) (C := Tryz.checked) (s := Rows.OpenSpec.upto Rows.originPlansSpec) (k := Rows.uptoSmall) rfl false ⟨#[], #[.slice none 0 0, .int .u32 0, .slice none 0 0], []⟩ 8 (by kernel_rfl) (by kernel_rfl) (by kernel_rfl)
      (x := ([.nil, .lit (.int .u32 0), .nil], [], [])) (by kernel_rfl) rfl (by kernel_rfl)) ?_
  intro W base args ds gs before hval hW _ hk _
  exact originPlansUpto_contract H enc W base args ds gs before hval hW hk

theorem originPlansUpto_holds : Rows.OriginPlansUptoSaid :=
  OpenClaim.holds_of_cond 5 Tryz.f5 rfl rfl rfl rfl rfl rfl rfl ⟨rfl, rfl, rfl, rfl, rfl⟩ rfl rfl rfl rfl rfl (by kernel_rfl) Tryz.func5 (by kernel_rfl)
    (of_decide_eq_true (by kernel_rfl)) (by unfold Func.isWrapper; first | (rw [if_pos (by decide +kernel)]; kernel_rfl) | (rw [if_neg (by decide +kernel)]; exact ⟨rfl, rfl⟩))
    (fun os started H enc _ F => originPlansUpto_lifted os started H enc F)
#print axioms originPlansUpto_holds

end Go.Proofs.YtddageahmgaigaaGreat
