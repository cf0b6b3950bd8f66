/-
  Arguments opened: a slice whose elements are opened by a rule; its cells.
-/
import Derived.Test.YtiemmejpaahbpaaGreatMem
import Derived.ProofKit
import Derived.OpenShut
import Derived.WideKeyArgs
import Derived.Deep.Slices
import Derived.Deep.Fields
namespace Go.Proofs.YtiemmejpaahbpaaGreat
open Go.ChangeShapes Go.WideShapes Go.ChangeAt Go.RowKit Go.Deep

section
variable {H : Type} {enc : TypeId × Value → H} {W : World}

theorem slv_open {α : Type} (α0 : α) {t e : TypeId} {k : Nat} (elE : α → List Value) (good : α → Prop) (ht : Tryz.prog.underlying t = some (.slice e)) (hk : Tryz.prog.cellsOf e = k) (k0 : 0 < k) (hlen : ∀ a, (elE a).length = k)
    (hopen : ∀ n cs x, DataW.trod enc Tryz.prog W 0 (fun _ => true) true n e cs = some x → ∃ a, cs = elE a ∧ good a)
    {fuel : Nat} {v : Value} {x : DataW H × List MemPlace} (h : DataW.trod enc Tryz.prog W 0 (fun _ => true) true fuel t [v] = some x) :
    ∃ (a0 : Option Addr) (cap : Nat) (l : List α), v = .slice a0 l.length cap ∧ SlV k W v (l.map elE) ∧ ∀ a ∈ l, good a := by
  subst hk
  rcases open_slice ht h with ⟨hcs, hx⟩ | ⟨a, len, cap, m, n, D, Pl, hcs, _, hl, hm, hmm, hx, hi⟩
  · refine ⟨none, 0, [], by simpa using hcs, ⟨none, 0, by simpa using hcs, Nat.zero_le _, Nat.zero_le _, fun _ => rfl, fun h => by simp at h⟩, fun a h => by simp at h⟩
  · have hv : v = .slice (some a) len cap := by simpa using hcs
    subst hv
    have hmm : m = cap := hmm
    subst hmm
    have each : ∀ i, i < m → ∃ b : α, good b ∧ ∀ j u, (elE b)[j]? = some u → W.cell? ((a.add (i * Tryz.prog.cellsOf e)).add j) = some u := by
      intro i him
      obtain ⟨cs', hc, ht'⟩ := hi i him
      obtain ⟨b, hb, hg⟩ := hopen _ _ _ ht'
      obtain ⟨_, hcl, hat⟩ := World.cells?_some hc
      subst hb
      refine ⟨b, hg, fun j u hu => ?_⟩
      have hj : j < (elE b).length := by
        rcases Nat.lt_or_ge j (elE b).length with h | h
        · exact h
        · rw [List.getElem?_eq_none h] at hu; cases hu
      rw [hat j (by rw [← hcl]; exact hj), hu]
    obtain ⟨f, hf⟩ : ∃ f : Nat → α, ∀ i, i < m → good (f i) ∧ ∀ j u, (elE (f i))[j]? = some u → W.cell? ((a.add (i * Tryz.prog.cellsOf e)).add j) = some u :=
      ⟨fun i => if h : i < m then Classical.choose (each i h) else α0, fun i h => by simp only [dif_pos h]; exact Classical.choose_spec (each i h)⟩
    refine ⟨some a, m, (List.range len).map f, by simp, ⟨some a, m, by simp, by simpa using hl, by assumption, (fun h => by cases h), fun hpos => ?_⟩, fun b hb => ?_⟩
    · have hpos : 0 < len := by simpa using hpos
      obtain ⟨b, off, spot⟩ := a
      obtain ⟨u0, hu0⟩ : ∃ u, (elE (f 0))[0]? = some u := ⟨_, List.getElem?_eq_getElem (by rw [hlen]; exact k0)⟩
      have c0 := (hf 0 (by omega)).2 0 u0 hu0
      rw [Go.Deep.add_add] at c0
      have hspot : spot = none := by simpa [Addr.add] using World.cell?_spot c0
      subst hspot
      refine ⟨b, off, rfl, ?_, fun i hi j u hu => ?_⟩
      · exact World.block_lt_of_cell? W _ (by rw [add_plain] at c0; exact c0)
      · have hi' : i < len := by simpa using hi
        have := (hf i (by omega)).2 j u (by simpa using hu)
        rw [Go.Deep.add_add] at this
        simpa [add_plain, Nat.add_assoc] using this
    · obtain ⟨i, hi, rfl⟩ := List.mem_map.1 hb
      exact (hf i (by have := List.mem_range.1 hi; omega)).1
end

end Go.Proofs.YtiemmejpaahbpaaGreat
