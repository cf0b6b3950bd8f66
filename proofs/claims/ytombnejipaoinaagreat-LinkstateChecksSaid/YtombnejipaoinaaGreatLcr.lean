/- LinkstateChecks returns true for every input, and its arguments read afterwards as before. No condition. -/
import Derived.Test.YtombnejipaoinaaGreatLcl
import Derived.Test.YtombnejipaoinaaGreatOpc
import Derived.Test.YtombnejipaoinaaGreatLcf
import Derived.JoinedCond
namespace Go.Proofs.YtombnejipaoinaaGreat
open Go.ChangeShapes Go.WideShapes Go.ChangeAt Go.RowKit Go.Deep

theorem ownG : ownKnob Tryz.prog.godebug = none := by kernel_rfl

set_option maxRecDepth 100000 in
theorem linkstateChecks_lifted (os : Os) (started : os.Started) (H : Type) (enc : TypeId × Value → H) :
    ReturnsInHanded {} Tryz.checked os 3 .any (Rows.linkstateChecksSpec.pre6 enc Tryz.prog Tryz.f3 Rows.linkstateChecksRow.domain false) (Rows.linkstateChecksSpec.post enc Tryz.prog Tryz.f3 false true false false) := by
  refine returnsInHanded_of_change (C := Tryz.checked) ownG started (by kernel_rfl) Tryz.func3
    (ChangeSpec.witness6 (enc := enc) (C := Tryz.checked) false ⟨#[], #[.agg #[.int .u32 0, .slice none 0 0, .slice none 0 0], .int .i64 0], []⟩ 8 (by kernel_rfl) (by kernel_rfl) (by kernel_rfl) (by kernel_rfl)) ?_
  intro W base args ds gs before hval0 hW hcnd _
  have hval : ∀ (j : Nat) t v, Tryz.f3.params[j]? = some t → args[j]? = some v → Value.okWide Tryz.prog W .any base t v := hval0
  have hW' := hW
  obtain ⟨p, q, hA0, hV, rfl, hfz, hnd⟩ := hW
  have hA : DataW.TrodAll enc Tryz.prog W 0 (fun _ => true) true Tryz.f3.params.toList args.toList ds p := hA0
  rw [Tryz.params3] at hA hval
  obtain ⟨v0, vs0, d0, ds0, p0, q0, hargs, rfl, rfl, h0, r0⟩ := trodAll_cons hA
  obtain ⟨v1, vs1, d1, ds1, p1, q1, rfl, rfl, rfl, h1, r1⟩ := trodAll_cons r0
  obtain ⟨rfl, rfl, rfl⟩ := trodAll_nil r1
  obtain rfl : args = #[v0, v1] := by cases args; simp_all
  obtain ⟨rfl, rfl⟩ := trodVars_none hV
  obtain ⟨r, vi, vr, ifs, rgs, rfl, hi, hr, oki, okr⟩ := cfgv_open (hval 0 26 v0 rfl rfl) h0
  obtain ⟨n1, rfl⟩ := okWide_int Tryz.underlying3 (hval 1 3 v1 rfl rfl)
  simp only [List.append_nil] at hW'
  refine (lc_law W r vi vr ifs rgs n1 hi hr oki okr).mono fun e W' ⟨he, hb⟩ => ?_
  subst he
  exact ⟨_, rfl, post_true (by kernel_rfl) rfl (by kernel_rfl) rfl Tryz.underlying4 ⟨rfl, rfl, rfl⟩ hW' hb⟩

theorem lc_named : Tryz.pinned.checked.prog.funcNamed Rows.linkstateChecksRow.func = some 3 := by kernel_rfl
set_option maxHeartbeats 16000000 in
set_option maxRecDepth 1000000 in
theorem lc_closed : joinedFacts Tryz.pinned.checked.prog 3 Tryz.f3 Rows.linkstateChecksSpec Rows.linkstateChecksRow = true := by
  simp only [joinedFacts, Bool.and_eq_true]
  and_intros
  all_goals first | with_reducible exact lc_inPlace | with_reducible exact lc_unfollowed | with_reducible exact lc_recurses | with_reducible exact lc_varsNamed | (as_aux_lemma => kernel_rfl)
theorem lc_inst : Tryz.f3.isInstance Tryz.pinned.checked.prog Rows.linkstateChecksRow.origin Rows.linkstateChecksRow.targs := of_decide_eq_true (by kernel_rfl)
theorem lc_wrap : Tryz.f3.isWrapper Tryz.pinned.checked.prog Rows.linkstateChecksRow.wrapper Rows.linkstateChecksRow.mainSum := by
  unfold Func.isWrapper; first | (rw [if_pos (by decide +kernel)]; kernel_rfl) | (rw [if_neg (by decide +kernel)]; exact ⟨rfl, rfl⟩)

theorem linkstateChecks_holds : Rows.LinkstateChecksSaid :=
  OpenClaim.holds_of_wide 3 Tryz.f3 rfl rfl rfl rfl rfl rfl rfl ⟨rfl, rfl, rfl, rfl, rfl⟩ rfl rfl rfl rfl rfl lc_named Tryz.func3 lc_closed lc_inst lc_wrap
    (fun os started H enc _ => linkstateChecks_lifted os started H enc)
#print axioms linkstateChecks_holds

end Go.Proofs.YtombnejipaoinaaGreat
