/- ExternalBodies returns true for every input, and its arguments read afterwards as before. No condition. (First: an argument of the type '[]External', opened to its cells.) -/
import Derived.Test.YtiemmejpaahbpaaGreatBdl
import Derived.Test.YtiemmejpaahbpaaGreatOpn
import Derived.Test.YtiemmejpaahbpaaGreatStay
namespace Go.Proofs.YtiemmejpaahbpaaGreat
open Go.ChangeShapes Go.WideShapes Go.ChangeAt Go.RowKit Go.Deep

theorem cellsP : Tryz.prog.cellsOf 33 = 2 := by kernel_rfl
theorem cells_int : Tryz.prog.cellsOf 3 = 1 := by kernel_rfl
theorem cells_addr : Tryz.prog.cellsOf 31 = 1 := by kernel_rfl
theorem cells_bool : Tryz.prog.cellsOf 4 = 1 := by kernel_rfl
theorem cellsEx : Tryz.prog.cellsOf 82 = 6 := by kernel_rfl
theorem u32_of_wf {n : Int} (h : (Lit.int .u32 n).wf = true) : 0 ≤ n ∧ n < 4294967296 := by
  have m0 : IntKind.u32.min = 0 := by decide
  have m1 : IntKind.u32.max = 4294967295 := by decide
  simp [Lit.wf, m0, m1] at h
  omega

section
variable {H : Type} {enc : TypeId × Value → H} {W : World} {base : Nat} {spare : Nat → Bool} {held : Bool}

theorem pfx_open {n : Nat} {c0 c1 : Value} {x : DataW H × List MemPlace} (h : DataW.trod enc Tryz.prog W base spare held n 33 [c0, c1] = some x) :
    ∃ p : Ls.Pfx, c0 = .int .u32 p.addr ∧ c1 = .int .i64 p.len ∧ OkP p := by
  obtain ⟨xs, m, _, _, hcl, hxl, hf⟩ := DataW.trod_struct Tryz.underlying33 h
  have hx : xs.length = 2 := hxl
  match xs, hx with
  | [x0, x1], _ =>
    have f0 : DataW.trod enc Tryz.prog W base spare held m 31 (([c0, c1].drop 0).take (Tryz.prog.cellsOf 31)) = some x0 := hf 0 _ rfl
    have f1 : DataW.trod enc Tryz.prog W base spare held m 3 (([c0, c1].drop 1).take (Tryz.prog.cellsOf 3)) = some x1 := hf 1 _ rfl
    rw [cells_addr] at f0
    rw [cells_int] at f1
    obtain ⟨n0, e0, _, w0⟩ := DataW.trod_int Tryz.underlying31 f0
    obtain ⟨n1, e1, _⟩ := DataW.trod_int Tryz.underlying3 f1
    simp at e0 e1
    have := u32_of_wf w0
    exact ⟨⟨n0, n1⟩, e0, e1, this.1, this.2⟩

set_option maxRecDepth 100000 in
theorem ext_open (n : Nat) (cs : List Value) (x : DataW H × List MemPlace) (h : DataW.trod enc Tryz.prog W base spare held n 82 cs = some x) : ∃ r : Ext, cs = extE r ∧ (OkP r.pfx ∧ 0 ≤ r.fwd ∧ r.fwd < 4294967296) := by
  obtain ⟨xs, m, _, _, hcl, hxl, hf⟩ := DataW.trod_struct Tryz.underlying82 h
  rw [cellsEx] at hcl
  match cs, hcl with
  | [c0, c1, c2, c3, c4, c5], _ =>
    have hx : xs.length = 5 := hxl
    match xs, hx with
    | [x0, x1, x2, x3, x4], _ =>
      have f0 : DataW.trod enc Tryz.prog W base spare held m 33 (([c0, c1, c2, c3, c4, c5].drop 0).take (Tryz.prog.cellsOf 33)) = some x0 := hf 0 _ rfl
      have f1 : DataW.trod enc Tryz.prog W base spare held m 3 (([c0, c1, c2, c3, c4, c5].drop 2).take (Tryz.prog.cellsOf 3)) = some x1 := hf 1 _ rfl
      have f2 : DataW.trod enc Tryz.prog W base spare held m 4 (([c0, c1, c2, c3, c4, c5].drop 3).take (Tryz.prog.cellsOf 4)) = some x2 := hf 2 _ rfl
      have f3 : DataW.trod enc Tryz.prog W base spare held m 31 (([c0, c1, c2, c3, c4, c5].drop 4).take (Tryz.prog.cellsOf 31)) = some x3 := hf 3 _ rfl
      have f4 : DataW.trod enc Tryz.prog W base spare held m 3 (([c0, c1, c2, c3, c4, c5].drop 5).take (Tryz.prog.cellsOf 3)) = some x4 := hf 4 _ rfl
      rw [cellsP] at f0
      rw [cells_int] at f1 f4
      rw [cells_bool] at f2
      rw [cells_addr] at f3
      obtain ⟨p, e0, e1, okp⟩ := pfx_open f0
      obtain ⟨n2, e2, _⟩ := DataW.trod_int Tryz.underlying3 f1
      obtain ⟨b3, e3, _⟩ := DataW.trod_bool Tryz.underlying4 f2
      obtain ⟨n4, e4, _, w4⟩ := DataW.trod_int Tryz.underlying31 f3
      obtain ⟨n5, e5, _⟩ := DataW.trod_int Tryz.underlying3 f4
      simp at e2 e3 e4 e5
      subst e0 e1 e2 e3 e4 e5
      exact ⟨⟨p, n2, b3, n4, n5⟩, rfl, okp, u32_of_wf w4⟩
end

theorem ownG : ownKnob Tryz.prog.godebug = none := by kernel_rfl

set_option maxRecDepth 100000 in
theorem externalBodies_lifted (os : Os) (started : os.Started) (H : Type) (enc : TypeId × Value → H) :
    ReturnsInHanded {} Tryz.checked os 5 .any (Rows.externalBodiesSpec.pre6 enc Tryz.prog Tryz.f5 Rows.externalBodiesRow.domain false) (Rows.externalBodiesSpec.post enc Tryz.prog Tryz.f5 false true false false) := by
  refine returnsInHanded_of_change (C := Tryz.checked) ownG started (by kernel_rfl) Tryz.func5
    (ChangeSpec.witness6 (enc := enc) (C := Tryz.checked) false ⟨#[], #[.int .u32 0, .slice none 0 0], []⟩ 8 (by kernel_rfl) (by kernel_rfl) (by kernel_rfl) (by kernel_rfl)) ?_
  intro W base args ds gs before hval0 hW hcnd _
  have hval : ∀ (j : Nat) t v, Tryz.f5.params[j]? = some t → args[j]? = some v → Value.okWide Tryz.prog W .any base t v := hval0
  have hW' := hW
  obtain ⟨p, q, hA0, hV, rfl, hfz, hnd⟩ := hW
  have hA : DataW.TrodAll enc Tryz.prog W 0 (fun _ => true) true Tryz.f5.params.toList args.toList ds p := hA0
  rw [Tryz.params5] at hA hval
  obtain ⟨v0, vs0, d0, ds0, p0, q0, hargs, rfl, rfl, h0, r0⟩ := trodAll_cons hA
  obtain ⟨v1, vs1, d1, ds1, p1, q1, rfl, rfl, rfl, h1, r1⟩ := trodAll_cons r0
  obtain ⟨rfl, rfl, rfl⟩ := trodAll_nil r1
  obtain rfl : args = #[v0, v1] := by cases args; simp_all
  obtain ⟨rfl, rfl⟩ := trodVars_none hV
  obtain ⟨n0, rfl⟩ := okWide_int Tryz.underlying23 (hval 0 23 v0 rfl rfl)
  obtain ⟨fuel0, hf0⟩ := h0
  obtain ⟨m0, e0, _, w0⟩ := DataW.trod_int Tryz.underlying23 hf0
  obtain rfl : n0 = m0 := by
    have e1 : [Value.int IntKind.u32 n0] = [Value.int IntKind.u32 m0] := e0
    simpa using e1
  obtain ⟨a0, len, cap, rfl⟩ := okWide_slice Tryz.underlying46 (hval 1 46 v1 rfl rfl)
  obtain ⟨fuel, hf⟩ := h1
  simp only [List.append_nil] at hW'
  obtain ⟨a1, c1, l, e, hk, ok⟩ := slv_open (default : Ext) extE (fun r => OkP r.pfx ∧ 0 ≤ r.fwd ∧ r.fwd < 4294967296) Tryz.underlying46 cellsEx (by omega) (fun _ => rfl) ext_open hf
  refine (ebodies_law W _ (u32_of_wf w0).1 (u32_of_wf w0).2 _ l hk (fun x hx => (ok x hx).1) (fun x hx => (ok x hx).2)).mono fun e W' ⟨he, hb⟩ => ?_
  subst he
  exact ⟨_, rfl, post_true (by kernel_rfl) rfl (by kernel_rfl) rfl Tryz.underlying4 ⟨rfl, rfl, rfl⟩ hW' hb⟩

theorem externalBodies_holds : Rows.ExternalBodiesSaid :=
  OpenClaim.holds_of_wide 5 Tryz.f5 rfl rfl rfl rfl rfl rfl rfl ⟨rfl, rfl, rfl, rfl, rfl⟩ rfl rfl rfl rfl rfl (by kernel_rfl) Tryz.func5 (by kernel_rfl)
    (of_decide_eq_true (by kernel_rfl)) (by unfold Func.isWrapper; first | (rw [if_pos (by decide +kernel)]; kernel_rfl) | (rw [if_neg (by decide +kernel)]; exact ⟨rfl, rfl⟩))
    (fun os started H enc _ => externalBodies_lifted os started H enc)
#print axioms externalBodies_holds

end Go.Proofs.YtiemmejpaahbpaaGreat
