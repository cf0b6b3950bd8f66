/- ExternalChecks returns true for every input, and its argument reads afterwards as before. No condition. (First: an argument of the type '[]External', opened to its cells.) -/
import Derived.Test.YtiemmejpaahbpaaChl
import Derived.Test.YtiemmejpaahbpaaOpn
import Derived.Test.YtiemmejpaahbpaaStay
namespace Go.Proofs.Ytiemmejpaahbpaa
open Go.ChangeShapes Go.WideShapes Go.ChangeAt Go.RowKit Go.Deep

theorem cellsP : Try.prog.cellsOf 25 = 2 := by kernel_rfl
theorem cells_int : Try.prog.cellsOf 3 = 1 := by kernel_rfl
theorem cells_addr : Try.prog.cellsOf 23 = 1 := by kernel_rfl
theorem cells_bool : Try.prog.cellsOf 4 = 1 := by kernel_rfl
theorem cellsEx : Try.prog.cellsOf 70 = 6 := by kernel_rfl
theorem u32_of_wf {n : Int} (h : (Lit.int .u32 n).wf = true) : 0 ≤ n ∧ n < 4294967296 := by
  have m0 : IntKind.u32.min = 0 := by decide
  have m1 : IntKind.u32.max = 4294967295 := by decide
  simp [Lit.wf, m0, m1] at h
  omega

section
variable {H : Type} {enc : TypeId × Value → H} {W : World} {base : Nat} {spare : Nat → Bool} {held : Bool}

theorem pfx_open {n : Nat} {c0 c1 : Value} {x : DataW H × List MemPlace} (h : DataW.trod enc Try.prog W base spare held n 25 [c0, c1] = some x) :
    ∃ p : Ls.Pfx, c0 = .int .u32 p.addr ∧ c1 = .int .i64 p.len ∧ OkP p := by
  obtain ⟨xs, m, _, _, hcl, hxl, hf⟩ := DataW.trod_struct Try.underlying25 h
  have hx : xs.length = 2 := hxl
  match xs, hx with
  | [x0, x1], _ =>
    have f0 : DataW.trod enc Try.prog W base spare held m 23 (([c0, c1].drop 0).take (Try.prog.cellsOf 23)) = some x0 := hf 0 _ rfl
    have f1 : DataW.trod enc Try.prog W base spare held m 3 (([c0, c1].drop 1).take (Try.prog.cellsOf 3)) = some x1 := hf 1 _ rfl
    rw [cells_addr] at f0
    rw [cells_int] at f1
    obtain ⟨n0, e0, _, w0⟩ := DataW.trod_int Try.underlying23 f0
    obtain ⟨n1, e1, _⟩ := DataW.trod_int Try.underlying3 f1
    simp at e0 e1
    have := u32_of_wf w0
    exact ⟨⟨n0, n1⟩, e0, e1, this.1, this.2⟩

set_option maxRecDepth 100000 in
theorem ext_open (n : Nat) (cs : List Value) (x : DataW H × List MemPlace) (h : DataW.trod enc Try.prog W base spare held n 70 cs = some x) : ∃ r : Ext, cs = extE r ∧ OkP r.pfx := by
  obtain ⟨xs, m, _, _, hcl, hxl, hf⟩ := DataW.trod_struct Try.underlying70 h
  rw [cellsEx] at hcl
  match cs, hcl with
  | [c0, c1, c2, c3, c4, c5], _ =>
    have hx : xs.length = 5 := hxl
    match xs, hx with
    | [x0, x1, x2, x3, x4], _ =>
      have f0 : DataW.trod enc Try.prog W base spare held m 25 (([c0, c1, c2, c3, c4, c5].drop 0).take (Try.prog.cellsOf 25)) = some x0 := hf 0 _ rfl
      have f1 : DataW.trod enc Try.prog W base spare held m 3 (([c0, c1, c2, c3, c4, c5].drop 2).take (Try.prog.cellsOf 3)) = some x1 := hf 1 _ rfl
      have f2 : DataW.trod enc Try.prog W base spare held m 4 (([c0, c1, c2, c3, c4, c5].drop 3).take (Try.prog.cellsOf 4)) = some x2 := hf 2 _ rfl
      have f3 : DataW.trod enc Try.prog W base spare held m 23 (([c0, c1, c2, c3, c4, c5].drop 4).take (Try.prog.cellsOf 23)) = some x3 := hf 3 _ rfl
      have f4 : DataW.trod enc Try.prog W base spare held m 3 (([c0, c1, c2, c3, c4, c5].drop 5).take (Try.prog.cellsOf 3)) = some x4 := hf 4 _ rfl
      rw [cellsP] at f0
      rw [cells_int] at f1 f4
      rw [cells_bool] at f2
      rw [cells_addr] at f3
      obtain ⟨p, e0, e1, okp⟩ := pfx_open f0
      obtain ⟨n2, e2, _⟩ := DataW.trod_int Try.underlying3 f1
      obtain ⟨b3, e3, _⟩ := DataW.trod_bool Try.underlying4 f2
      obtain ⟨n4, e4, _⟩ := DataW.trod_int Try.underlying23 f3
      obtain ⟨n5, e5, _⟩ := DataW.trod_int Try.underlying3 f4
      simp at e2 e3 e4 e5
      subst e0 e1 e2 e3 e4 e5
      exact ⟨⟨p, n2, b3, n4, n5⟩, rfl, okp⟩
end

theorem ownG : ownKnob Try.prog.godebug = none := by kernel_rfl

set_option maxRecDepth 100000 in
theorem externalChecks_lifted (os : Os) (started : os.Started) (H : Type) (enc : TypeId × Value → H) :
    ReturnsInHanded {} Try.checked os 5 .any (Rows.externalChecksSpec.pre6 enc Try.prog Try.f5 Rows.externalChecksRow.domain false) (Rows.externalChecksSpec.post enc Try.prog Try.f5 false true false false) := by
  refine returnsInHanded_of_change (C := Try.checked) ownG started (by kernel_rfl) Try.func5
    (ChangeSpec.witness6 (enc := enc) (C := Try.checked) false ⟨#[], #[.slice none 0 0], []⟩ 8 (by kernel_rfl) (by kernel_rfl) (by kernel_rfl) (by kernel_rfl)) ?_
  intro W base args ds gs before hval0 hW hcnd _
  have hval : ∀ (j : Nat) t v, Try.f5.params[j]? = some t → args[j]? = some v → Value.okWide Try.prog W .any base t v := hval0
  have hW' := hW
  obtain ⟨p, q, hA0, hV, rfl, hfz, hnd⟩ := hW
  have hA : DataW.TrodAll enc Try.prog W 0 (fun _ => true) true Try.f5.params.toList args.toList ds p := hA0
  rw [Try.params5] at hA hval
  obtain ⟨v0, vs0, d0, ds0, p0, q0, hargs, rfl, rfl, h0, r0⟩ := trodAll_cons hA
  obtain ⟨rfl, rfl, rfl⟩ := trodAll_nil r0
  obtain rfl : args = #[v0] := by cases args; simp_all
  obtain ⟨rfl, rfl⟩ := trodVars_none hV
  obtain ⟨a0, len, cap, rfl⟩ := okWide_slice Try.underlying45 (hval 0 45 v0 rfl rfl)
  obtain ⟨fuel, hf⟩ := h0
  simp only [List.append_nil] at hW'
  obtain ⟨a1, c1, l, e, hk, ok⟩ := slv_open (default : Ext) extE (fun r => OkP r.pfx) Try.underlying45 cellsEx (by omega) (fun _ => rfl) ext_open hf
  refine (checks_law W _ l hk ok).mono fun e W' ⟨he, hb⟩ => ?_
  subst he
  exact ⟨_, rfl, post_true (by kernel_rfl) rfl (by kernel_rfl) rfl Try.underlying4 ⟨rfl, rfl, rfl⟩ hW' hb⟩

theorem externalChecks_holds : Rows.ExternalChecksSaid :=
  OpenClaim.holds_of_wide 5 Try.f5 rfl rfl rfl rfl rfl rfl rfl ⟨rfl, rfl, rfl, rfl, rfl⟩ rfl rfl rfl rfl rfl (by kernel_rfl) Try.func5 (by kernel_rfl)
    (of_decide_eq_true (by kernel_rfl)) (by unfold Func.isWrapper; first | (rw [if_pos (by decide +kernel)]; kernel_rfl) | (rw [if_neg (by decide +kernel)]; exact ⟨rfl, rfl⟩))
    (fun os started H enc _ => externalChecks_lifted os started H enc)
#print axioms externalChecks_holds

end Go.Proofs.Ytiemmejpaahbpaa
