/- HeapLowers returns true for every input, and its argument reads afterwards as before. No condition. (First: an argument of the type '[]Act', opened to its cells.) -/
import Derived.Test.YtnlcckajldkchaaHlow
import Derived.Deep.Slices
import Derived.Deep.Fields
namespace Go.Proofs.Ytnlcckajldkchaa
open Go.ChangeShapes Go.WideShapes Go.ChangeAt Go.RowKit Go.Deep

theorem cells3' : Try.prog.cellsOf 3 = 1 := by kernel_rfl
theorem cells35 : Try.prog.cellsOf 35 = 3 := by kernel_rfl

section
variable {H : Type} {enc : TypeId × Value → H}

theorem act_open {W : World} {base : Nat} {spare : Nat → Bool} {held : Bool} {n : Nat} {cs : List Value} {x : DataW H × List MemPlace} (h : DataW.trod enc Try.prog W base spare held n 35 cs = some x) :
    ∃ a : ActV, cs = [.int .i64 a.kind, .int .i64 a.item, .int .i64 a.key] := by
  obtain ⟨xs, m, _, _, hcl, hxl, hf⟩ := DataW.trod_struct Try.underlying35 h
  rw [cells35] at hcl
  match cs, hcl with
  | [c0, c1, c2], _ =>
    have hx : xs.length = 3 := hxl
    match xs, hx with
    | [x0, x1, x2], _ =>
      have f0 : DataW.trod enc Try.prog W base spare held m 3 (([c0, c1, c2].drop 0).take (Try.prog.cellsOf 3)) = some x0 := hf 0 _ rfl
      have f1 : DataW.trod enc Try.prog W base spare held m 3 (([c0, c1, c2].drop 1).take (Try.prog.cellsOf 3)) = some x1 := hf 1 _ rfl
      have f2 : DataW.trod enc Try.prog W base spare held m 3 (([c0, c1, c2].drop 2).take (Try.prog.cellsOf 3)) = some x2 := hf 2 _ rfl
      rw [cells3'] at f0 f1 f2
      obtain ⟨n0, e0, _⟩ := DataW.trod_int Try.underlying3 f0
      obtain ⟨n1, e1, _⟩ := DataW.trod_int Try.underlying3 f1
      obtain ⟨n2, e2, _⟩ := DataW.trod_int Try.underlying3 f2
      simp at e0 e1 e2
      exact ⟨⟨n0, n1, n2⟩, by rw [e0, e1, e2]⟩

theorem acts_open {W : World} {fuel : Nat} {a0 : Option Addr} {len cap : Nat} {x : DataW H × List MemPlace} (h : DataW.trod enc Try.prog W 0 (fun _ => true) true fuel 31 (Value.slice a0 len cap).cells.toList = some x) :
    ∃ l : List ActV, len = l.length ∧ Acts W a0 l := by
  rcases open_slice Try.underlying31 h with ⟨hcs, hx⟩ | ⟨a, len', cap', m, n, D, Pl, hcs, _, hl, hm, hmm, hx, hi⟩
  · simp [Value.cells] at hcs
    exact ⟨[], hcs.2.1, fun h => by simp at h⟩
  · simp [Value.cells] at hcs
    obtain ⟨rfl, rfl, rfl⟩ := hcs
    have hmm : m = cap := hmm
    subst hmm
    have each : ∀ i, i < m → ∃ v : ActV, W.cell? (a.add (i * 3)) = some (.int .i64 v.kind) ∧ W.cell? (a.add (i * 3 + 1)) = some (.int .i64 v.item) ∧ W.cell? (a.add (i * 3 + 2)) = some (.int .i64 v.key) := by
      intro i him
      obtain ⟨cs', hc, ht⟩ := hi i him
      rw [cells35] at hc
      obtain ⟨v, hv⟩ := act_open ht
      obtain ⟨_, hcl, hat⟩ := World.cells?_some hc
      subst hv
      refine ⟨v, ?_, ?_, ?_⟩
      · have := hat 0 (by omega); rw [Go.Deep.add_add] at this; simpa using this
      · have := hat 1 (by omega); rw [Go.Deep.add_add] at this; simpa using this
      · have := hat 2 (by omega); rw [Go.Deep.add_add] at this; simpa using this
    obtain ⟨f, hf⟩ : ∃ f : Nat → ActV, ∀ i, i < m → W.cell? (a.add (i * 3)) = some (.int .i64 (f i).kind) ∧ W.cell? (a.add (i * 3 + 1)) = some (.int .i64 (f i).item) ∧ W.cell? (a.add (i * 3 + 2)) = some (.int .i64 (f i).key) :=
      ⟨fun i => if h : i < m then Classical.choose (each i h) else ⟨0, 0, 0⟩, fun i h => by simp only [dif_pos h]; exact Classical.choose_spec (each i h)⟩
    refine ⟨(List.range len).map f, by simp, fun hpos => ?_⟩
    have hpos : 0 < len := by simpa using hpos
    obtain ⟨b, off, spot⟩ := a
    have c0 := (hf 0 (by omega)).1
    have hspot : spot = none := by simpa [Addr.add] using World.cell?_spot c0
    subst hspot
    refine ⟨b, off, rfl, ?_, fun i hi => ?_⟩
    · rcases Nat.lt_or_ge b W.heap.size with h' | h'
      · exact h'
      · simp [World.cell?, Addr.add, Array.getElem?_eq_none h'] at c0
    · have hi' : i < len := by simpa using hi
      have := hf i (by omega)
      simp only [add_plain] at this
      simpa [Nat.add_assoc] using this
end

theorem own5 : ownKnob Try.prog.godebug = none := by kernel_rfl

set_option maxRecDepth 100000 in
theorem heapLowers_lifted (os : Os) (started : os.Started) (H : Type) (enc : TypeId × Value → H) :
    ReturnsInHanded {} Try.checked os 5 .any (Rows.heapLowersSpec.pre6 enc Try.prog Try.f5 Rows.heapLowersRow.domain false) (Rows.heapLowersSpec.post enc Try.prog Try.f5 false true false false) := by
  refine returnsInHanded_of_change (C := Try.checked) own5 started (by kernel_rfl) Try.func5
    (ChangeSpec.witness6 (enc := enc) (C := Try.checked) false ⟨#[], #[.slice none 0 0], []⟩ 8 (by kernel_rfl) (by kernel_rfl) (by kernel_rfl) (by kernel_rfl)) ?_
  intro W base args ds gs before hval0 hW hcnd _
  have hval : ∀ (j : Nat) t v, Try.f5.params[j]? = some t → args[j]? = some v → Value.okWide Try.prog W .any base t v := hval0
  have hW' := hW
  obtain ⟨p, q, hA0, hV, rfl, hfz, hnd⟩ := hW
  have hA : DataW.TrodAll enc Try.prog W 0 (fun _ => true) true Try.f5.params.toList args.toList ds p := hA0
  rw [Try.params5] at hA hval
  obtain ⟨v0, vs0, d0, ds0, p0, q0, hargs, rfl, rfl, h0, r0⟩ := trodAll_cons hA
  obtain ⟨rfl, rfl, rfl⟩ := trodAll_nil r0
  obtain rfl : args = #[v0] := by cases args; simp_all
  obtain ⟨rfl, rfl⟩ := trodVars_none hV
  obtain ⟨a0, len, cap, rfl⟩ := okWide_slice Try.underlying31 (hval 0 31 v0 rfl rfl)
  obtain ⟨fuel, hf⟩ := h0
  simp only [List.append_nil] at hW'
  obtain ⟨l, rfl, hk⟩ := acts_open hf
  refine (heapLowers_walk a0 cap l W hk).mono fun e W' ⟨he, hb⟩ => ?_
  subst he
  exact ⟨_, rfl, post_true (by kernel_rfl) rfl (by kernel_rfl) rfl Try.underlying4 ⟨rfl, rfl, rfl⟩ hW' hb⟩

theorem heapLowers_holds : Rows.HeapLowersSaid :=
  OpenClaim.holds_of_wide 5 Try.f5 rfl rfl rfl rfl rfl rfl rfl ⟨rfl, rfl, rfl, rfl, rfl⟩ rfl rfl rfl rfl rfl (by kernel_rfl) Try.func5 (by kernel_rfl)
    (of_decide_eq_true (by kernel_rfl)) (by unfold Func.isWrapper; first | (rw [if_pos (by decide +kernel)]; kernel_rfl) | (rw [if_neg (by decide +kernel)]; exact ⟨rfl, rfl⟩))
    (fun os started H enc _ => heapLowers_lifted os started H enc)
#print axioms heapLowers_holds

end Go.Proofs.Ytnlcckajldkchaa
