/-
  Rows of uint32 in memory.
-/
import Derived.Test.YtombnejipaoinaaGreatLeaf
namespace Go.Proofs.YtombnejipaoinaaGreat
open Go.RowKit

def u32E (x : Int) : List Value := [.int .u32 x]
def WordsAt (w : World) (v : Value) (l : List Int) : Prop := SlV 1 w v (l.map u32E)
theorem WordsAt.below {w w' : World} {v : Value} {l : List Int} (h : WordsAt w v l) (hb : Below w.heap.size w w') : WordsAt w' v l := SlV.below h hb
theorem WordsAt.get {w : World} {v : Value} {l : List Int} (h : WordsAt w v l) : ∃ a cap, v = .slice a l.length cap ∧ (0 < l.length → ∃ b off, a = some ⟨b, off, none⟩ ∧ b < w.heap.size ∧ ∀ i (h : i < l.length), w.cell? ⟨b, off + i, none⟩ = some (.int .u32 l[i])) := by
  obtain ⟨a, cap, h0, h1, h2, hn, h3⟩ := h
  simp only [List.length_map] at h0 h1 h3
  refine ⟨a, cap, h0, fun hl => ?_⟩
  obtain ⟨b, off, e, h4, h5⟩ := h3 hl
  refine ⟨b, off, e, h4, fun i hi => ?_⟩
  have := h5 i (by simpa using hi)
  simp only [List.getElem_map, u32E] at this
  have := this 0 _ rfl
  simpa using this
theorem u32E_len (l : List Int) : ∀ c ∈ l.map u32E, c.length = 1 := by
  intro c hc
  obtain ⟨x, -, rfl⟩ := List.mem_map.1 hc
  rfl
theorem u32E_one (l : List Int) : ∀ c ∈ l.map u32E, ∀ u ∈ c, u.oneCell' = true := by
  intro c hc u hu
  obtain ⟨x, -, rfl⟩ := List.mem_map.1 hc
  simp only [u32E, List.mem_singleton] at hu
  subst hu
  rfl

end Go.Proofs.YtombnejipaoinaaGreat
