/- ExternalOrder returns true for every input, and its arguments read afterwards as before. No condition. (First: an argument of the type LSRoute, opened to its cells.) -/
import Derived.Test.YtiemmejpaahbpaaOrd
import Derived.Test.YtiemmejpaahbpaaStay
import Derived.Deep.Slices
import Derived.Deep.Fields
namespace Go.Proofs.Ytiemmejpaahbpaa
open Go.ChangeShapes Go.WideShapes Go.ChangeAt Go.RowKit Go.Deep

theorem cellsRt : Try.prog.cellsOf 28 = 9 := by kernel_rfl
theorem cellsP : Try.prog.cellsOf 25 = 2 := by kernel_rfl
theorem cells_int : Try.prog.cellsOf 3 = 1 := by kernel_rfl
theorem cells_addr : Try.prog.cellsOf 23 = 1 := by kernel_rfl
theorem cells_u32 : Try.prog.cellsOf 22 = 1 := by kernel_rfl
theorem cells_bool : Try.prog.cellsOf 4 = 1 := by kernel_rfl
theorem cells_hops : Try.prog.cellsOf 26 = 1 := by kernel_rfl

section
variable {H : Type} {enc : TypeId × Value → H} {W : World} {base : Nat} {spare : Nat → Bool} {held : Bool}

theorem pfx_open {n : Nat} {c0 c1 : Value} {x : DataW H × List MemPlace} (h : DataW.trod enc Try.prog W base spare held n 25 [c0, c1] = some x) :
    ∃ p : Ls.Pfx, c0 = .int .u32 p.addr ∧ c1 = .int .i64 p.len := by
  obtain ⟨xs, m, _, _, hcl, hxl, hf⟩ := DataW.trod_struct Try.underlying25 h
  have hx : xs.length = 2 := hxl
  match xs, hx with
  | [x0, x1], _ =>
    have f0 : DataW.trod enc Try.prog W base spare held m 23 (([c0, c1].drop 0).take (Try.prog.cellsOf 23)) = some x0 := hf 0 _ rfl
    have f1 : DataW.trod enc Try.prog W base spare held m 3 (([c0, c1].drop 1).take (Try.prog.cellsOf 3)) = some x1 := hf 1 _ rfl
    rw [cells_addr] at f0
    rw [cells_int] at f1
    obtain ⟨n0, e0, _⟩ := DataW.trod_int Try.underlying23 f0
    obtain ⟨n1, e1, _⟩ := DataW.trod_int Try.underlying3 f1
    simp at e0 e1
    exact ⟨⟨n0, n1⟩, e0, e1⟩

set_option maxRecDepth 100000 in
theorem rt_open {n : Nat} {cs : List Value} {x : DataW H × List MemPlace} (h : DataW.trod enc Try.prog W base spare held n 28 cs = some x) : ∃ r : Rt, cs = rtE r := by
  obtain ⟨xs, m, _, _, hcl, hxl, hf⟩ := DataW.trod_struct Try.underlying28 h
  rw [cellsRt] at hcl
  match cs, hcl with
  | [c0, c1, c2, c3, c4, c5, c6, c7, c8], _ =>
    have hx : xs.length = 8 := hxl
    match xs, hx with
    | [x0, x1, x2, x3, x4, x5, x6, x7], _ =>
      have f0 : DataW.trod enc Try.prog W base spare held m 25 (([c0, c1, c2, c3, c4, c5, c6, c7, c8].drop 0).take (Try.prog.cellsOf 25)) = some x0 := hf 0 _ rfl
      have f1 : DataW.trod enc Try.prog W base spare held m 3 (([c0, c1, c2, c3, c4, c5, c6, c7, c8].drop 2).take (Try.prog.cellsOf 3)) = some x1 := hf 1 _ rfl
      have f2 : DataW.trod enc Try.prog W base spare held m 22 (([c0, c1, c2, c3, c4, c5, c6, c7, c8].drop 3).take (Try.prog.cellsOf 22)) = some x2 := hf 2 _ rfl
      have f3 : DataW.trod enc Try.prog W base spare held m 3 (([c0, c1, c2, c3, c4, c5, c6, c7, c8].drop 4).take (Try.prog.cellsOf 3)) = some x3 := hf 3 _ rfl
      have f4 : DataW.trod enc Try.prog W base spare held m 4 (([c0, c1, c2, c3, c4, c5, c6, c7, c8].drop 5).take (Try.prog.cellsOf 4)) = some x4 := hf 4 _ rfl
      have f5 : DataW.trod enc Try.prog W base spare held m 3 (([c0, c1, c2, c3, c4, c5, c6, c7, c8].drop 6).take (Try.prog.cellsOf 3)) = some x5 := hf 5 _ rfl
      have f6 : DataW.trod enc Try.prog W base spare held m 3 (([c0, c1, c2, c3, c4, c5, c6, c7, c8].drop 7).take (Try.prog.cellsOf 3)) = some x6 := hf 6 _ rfl
      have f7 : DataW.trod enc Try.prog W base spare held m 26 (([c0, c1, c2, c3, c4, c5, c6, c7, c8].drop 8).take (Try.prog.cellsOf 26)) = some x7 := hf 7 _ rfl
      rw [cellsP] at f0
      rw [cells_int] at f1 f3 f5 f6
      rw [cells_u32] at f2
      rw [cells_bool] at f4
      rw [cells_hops] at f7
      obtain ⟨p, e0, e1⟩ := pfx_open f0
      obtain ⟨n2, e2, _⟩ := DataW.trod_int Try.underlying3 f1
      obtain ⟨n3, e3, _⟩ := DataW.trod_int Try.underlying22 f2
      obtain ⟨n4, e4, _⟩ := DataW.trod_int Try.underlying3 f3
      obtain ⟨b5, e5, _⟩ := DataW.trod_bool Try.underlying4 f4
      obtain ⟨n6, e6, _⟩ := DataW.trod_int Try.underlying3 f5
      obtain ⟨n7, e7, _⟩ := DataW.trod_int Try.underlying3 f6
      have e8 : ∃ a k c, c8 = .slice a k c := by
        rcases open_slice Try.underlying26 f7 with ⟨hcs, _⟩ | ⟨a, len, cap, _, _, _, _, hcs, _⟩
        · exact ⟨none, 0, 0, by simpa using hcs⟩
        · exact ⟨some a, len, cap, by simpa using hcs⟩
      obtain ⟨a8, k8, d8, e8⟩ := e8
      simp at e2 e3 e4 e5 e6 e7
      subst e0 e1 e2 e3 e4 e5 e6 e7 e8
      exact ⟨⟨p, n2, n3, n4, b5, n6, n7, a8, k8, d8⟩, rfl⟩

set_option maxRecDepth 100000 in
theorem rtv_open {v : Value} {d : DataW H} {p : List MemPlace} (hv : Value.okWide Try.prog W .any base 28 v) {b' : Nat} (h : DataW.Trod enc Try.prog W b' spare held 28 v d p) : ∃ r : Rt, v = .agg (rtE r).toArray := by
  obtain ⟨cs, rfl, _⟩ := okWide_struct (t := 28) Try.underlying28 hv
  obtain ⟨fuel, hf⟩ := h
  obtain ⟨r, hr⟩ := rt_open hf
  refine ⟨r, ?_⟩
  have : cs.toList = rtE r := hr
  rw [← this]
end

theorem ownG : ownKnob Try.prog.godebug = none := by kernel_rfl

set_option maxRecDepth 100000 in
theorem externalOrder_lifted (os : Os) (started : os.Started) (H : Type) (enc : TypeId × Value → H) :
    ReturnsInHanded {} Try.checked os 3 .any (Rows.externalOrderSpec.pre6 enc Try.prog Try.f3 Rows.externalOrderRow.domain false) (Rows.externalOrderSpec.post enc Try.prog Try.f3 false true false false) := by
  refine returnsInHanded_of_change (C := Try.checked) ownG started (by kernel_rfl) Try.func3
    (ChangeSpec.witness6 (enc := enc) (C := Try.checked) false ⟨#[], #[.agg #[.int .u32 0, .int .i64 0, .int .i64 0, .int .u32 0, .int .i64 0, .bool false, .int .i64 0, .int .i64 0, .slice none 0 0], .agg #[.int .u32 0, .int .i64 0, .int .i64 0, .int .u32 0, .int .i64 0, .bool false, .int .i64 0, .int .i64 0, .slice none 0 0], .agg #[.int .u32 0, .int .i64 0, .int .i64 0, .int .u32 0, .int .i64 0, .bool false, .int .i64 0, .int .i64 0, .slice none 0 0]], []⟩ 8 (by kernel_rfl) (by kernel_rfl) (by kernel_rfl) (by kernel_rfl)) ?_
  intro W base args ds gs before hval0 hW hcnd _
  have hval : ∀ (j : Nat) t v, Try.f3.params[j]? = some t → args[j]? = some v → Value.okWide Try.prog W .any base t v := hval0
  have hW' := hW
  obtain ⟨p, q, hA0, hV, rfl, hfz, hnd⟩ := hW
  have hA : DataW.TrodAll enc Try.prog W 0 (fun _ => true) true Try.f3.params.toList args.toList ds p := hA0
  rw [Try.params3] at hA hval
  obtain ⟨v0, vs0, d0, ds0, p0, q0, hargs, rfl, rfl, h0, r0⟩ := trodAll_cons hA
  obtain ⟨v1, vs1, d1, ds1, p1, q1, rfl, rfl, rfl, h1, r1⟩ := trodAll_cons r0
  obtain ⟨v2, vs2, d2, ds2, p2, q2, rfl, rfl, rfl, h2, r2⟩ := trodAll_cons r1
  obtain ⟨rfl, rfl, rfl⟩ := trodAll_nil r2
  obtain rfl : args = #[v0, v1, v2] := by cases args; simp_all
  obtain ⟨rfl, rfl⟩ := trodVars_none hV
  obtain ⟨a, rfl⟩ := rtv_open (hval 0 28 v0 rfl rfl) h0
  obtain ⟨b, rfl⟩ := rtv_open (hval 1 28 v1 rfl rfl) h1
  obtain ⟨c, rfl⟩ := rtv_open (hval 2 28 v2 rfl rfl) h2
  simp only [List.append_nil] at hW'
  refine (order_law a b c W).mono fun e W' ⟨he, hb⟩ => ?_
  subst he
  exact ⟨_, rfl, post_true (by kernel_rfl) rfl (by kernel_rfl) rfl Try.underlying4 ⟨rfl, rfl, rfl⟩ hW' hb⟩

theorem externalOrder_holds : Rows.ExternalOrderSaid :=
  OpenClaim.holds_of_wide 3 Try.f3 rfl rfl rfl rfl rfl rfl rfl ⟨rfl, rfl, rfl, rfl, rfl⟩ rfl rfl rfl rfl rfl (by kernel_rfl) Try.func3 (by kernel_rfl)
    (of_decide_eq_true (by kernel_rfl)) (by unfold Func.isWrapper; first | (rw [if_pos (by decide +kernel)]; kernel_rfl) | (rw [if_neg (by decide +kernel)]; exact ⟨rfl, rfl⟩))
    (fun os started H enc _ => externalOrder_lifted os started H enc)
#print axioms externalOrder_holds

end Go.Proofs.Ytiemmejpaahbpaa
